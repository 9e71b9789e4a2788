/- The framework, the program's texts and what is shown of them: part 9. -/
import Derived.Test.YtegephkpdlopaaaGreatDoorY8
set_option linter.unusedVariables false
set_option linter.unusedSimpArgs false
namespace Go.Proofs.YtegephkpdlopaaaGreatDoor
open Go.Sx Go.RowKit
theorem txt_len2:∀ t:AT,errA t = 0->(txt t).length <= 24 * nod t + 18:=by
  intro t
  induction t using AT.ind with
  | h k key val n xs ih =>
    intro h
    rcases ask_cases h with ⟨rfl,x,rfl,hx⟩ | ⟨hk,x,y,rfl,hx,hy⟩ | ⟨hk1,hk4,rfl⟩
    · have:=ih x (by simp) hx
      rw [txt4]
      simp only [nod,nodL,List.length_cons]; omega
    · have h1:=ih x (by simp) hx
      have h2:=ih y (by simp) hy
      rw [txt56 hk]
      simp only [nod,nodL,List.length_cons,List.length_append,List.length_nil]; omega
    · rcases atom_ok h hk4 with ⟨rfl,a,b,c⟩ | ⟨rfl,a,b,c⟩ | ⟨rfl,a,b,c,d⟩
      · have:=lbB_size a
        rw [txt1]; simp only [nod,nodL,List.length_cons,bs_len]; omega
      · have h1:=lbB_size a
        have h2:=lbB_size b
        rw [txt2]; simp only [nod,nodL,List.length_cons,List.length_append,bs_len]; omega
      · have h1:=unB_size a
        have h2:=Lib.itoa_length_le n (by omega) (by omega)
        rw [txt3]; simp only [nod,nodL,List.length_cons,List.length_append,bs_len]; omega
theorem jtx_le2 {j:Jb} (h:okJ j) (hn:nod j.ask <= 1048576):(txt j.ask).length <= 1458/\(jtx j).length <= 3000:=by
  have h1:=lbB_size h.user
  have h2:=Lib.itoa_length_le j.prio (by have:=h.prio; omega) (by have:=h.prio; omega)
  have h3:=text_len h.nd.rng
  have h4:=aft_len h.len h.rng
  obtain ⟨h5,h6⟩:=errC_ok.1 h.ask
  have h7:=txt_len2 j.ask h6
  rw [cnt_nod j.ask hn] at h5
  refine ⟨by omega,?_⟩
  unfold jtx jps
  rw [Lib.join_cons]
  simp [Lib.joinTail]
  have:=bs_len j.user
  simp at this
  omega
theorem whole_ok {x:Ev} (h:okE x) (hn:nod x.job.ask <= 1048576):Whole x:=by
  have hj:x.kind = 1->okJ x.job:=fun hk=>by
    rcases h with q | q | q | q | q
    · exact q.2.1
    all_goals (have:=q.1; omega)
  refine ⟨h,hn,fun hk=>by have:=(jtx_le2 (hj hk) hn).1; omega,?_⟩
  unfold enc
  rw [List.length_cons]
  split
  · rename_i hk
    have:=(jtx_le2 (hj hk) hn).2
    omega
  · split
    · rw [num_len]; omega
    · split
      · rw [List.length_append,num_len]; simp
      · split
        · rw [num_len]; omega
        · simp
theorem frs_cap {L:List Ev} (h:∀ x ∈ L,Whole x):(frs L).length <= 3011 * L.length:=by
  induction L with
  | nil => simp [frs]
  | cons x r ih =>
    have:=ih fun y hy=>h y (List.mem_cons_of_mem _ hy)
    have hx:=(h x (List.mem_cons_self ..)).len
    show (fr (enc x) ++ frs r).length <= _
    rw [List.length_append,fr_len,List.length_cons]
    omega
theorem frs_snoc (L:List Ev) (x:Ev):frs (L ++ [x]) = frs L ++ fr (enc x):=by rw [frs_app]; simp [frs]
theorem stuck_nil:stuck []:=fun _ _ _ h=>by cases h
structure DX (B:Nat) (w:World) (db:Nat) (p:Option Addr) (c:Nat) (bs:Bs) (sf:Int):Prop where
  slot:Own B w T_journal_Disk 2 (ptr db) 1 1 [.slice p bs.length c,.int .i64 sf]
  buf:Own B w T_uint8 1 p bs.length c ((bI bs).map (.int .u8))
  ap:∀ a,p = some a->a.block ≠ db
def dft (db:Nat) (p:Option Addr) (b:Nat):Prop:=b = db\/∃ a,p = some a/\a.block = b
section
variable {B db:Nat} {w:World} {p:Option Addr} {c:Nat} {bs:Bs} {sf:Int}
theorem DX.fr {S:Nat->Prop} {w':World} (D:DX B w db p c bs sf) (f:Fr S w w') (hS:∀ b,dft db p b->¬ S b):DX B w' db p c bs sf :=
  ⟨D.slot.fr f fun a ha=>hS _ (.inl (by cases ha; rfl)),D.buf.fr f fun a ha=>hS _ (.inr ⟨a,ha,rfl⟩),D.ap⟩
theorem DX.ext {w':World} (D:DX B w db p c bs sf) (e:Ext w w'):DX B w' db p c bs sf:=⟨D.slot.ext e,D.buf.ext e,D.ap⟩
theorem DX.foot (D:DX B w db p c bs sf) {b:Nat} (h:dft db p b):B <= b/\b < w.heap.size:=by
  rcases h with rfl | ⟨a,ha,rfl⟩
  · exact D.slot.lt _ rfl
  · exact D.buf.lt a ha
theorem DX.c0 (D:DX B w db p c bs sf):Go.Sx.cell w (pAdd (ptr db) 0) 0 = some (.slice p bs.length c)/\Go.Sx.cell w (pAdd (ptr db) 1) 0 = some (.int .i64 sf) :=
  ⟨by rw [cell_pAdd]; exact D.slot.cells 0 _ rfl,by rw [cell_pAdd]; exact D.slot.cells 1 _ rfl⟩
theorem DX.st (D:DX B w db p c bs sf) {off:Nat} {v:Value} {vs:List Value} {p':Option Addr} {c':Nat} {bs':Bs} {sf':Int} (hv:v.oneCell' = true) (hs:setAt [.slice p bs.length c,.int .i64 sf] off [v] = [.slice p' bs'.length c',.int .i64 sf']) (ho:off + 1 <= 2)
    (hb:∀ w',Grew w w' (ptr db) (ptr db)->Own B w' T_uint8 1 p' bs'.length c' ((bI bs').map (.int .u8))) (ha:∀ a,p' = some a->a.block ≠ db) {K:World->Prop}
    (hk:∀ w',DX B w' db p' c' bs' sf'->Fr (dft db p) w w'->K w'):Store w (pAdd (ptr db) off) [v] [] K:=by
  refine store_own (off:=off) D.slot rfl (by simp; omega) (by simp) (by intro u hu; simp at hu; subst hu; exact hv) (by simp) fun w' o g=>?_
  rw [hs] at o
  exact hk w' ⟨o,hb w' g,ha⟩ (fr_grew g fun a ha=>by cases ha; exact .inl rfl)
theorem DX.keep (D:DX B w db p c bs sf) {w':World} (g:Grew w w' (ptr db) (ptr db)):Own B w' T_uint8 1 p bs.length c ((bI bs).map (.int .u8)) :=
  D.buf.st (fun a b ha hb=>by cases hb; exact D.ap a ha) g
theorem dNew_k (w:World):FnP Tryz.prog F_journal_New #[] w fun v w'=>Ext w w'/\∃ db,v = .pointer (ptr db)/\w.heap.size <= db/\∀ B,B <= w.heap.size->DX B w' db none 0 [] 0:=by
  refine ok_journal_New w _ fun w0 e0=>new_own (by intro v hv; simp at hv; rcases hv with rfl | rfl <;> rfl) fun w1 o1 e1 w2 e2=>⟨(e0.trans e1).trans e2,w0.heap.size,rfl,e0.size,fun B hB=>?_⟩
  exact ⟨(o1 B (Nat.le_trans hB e0.size)).ext e2,Own.nil,fun a ha=>by cases ha⟩
theorem dWrite_k (D:DX B w db p c bs sf) (hn:bs.length <= 100000) (hB:B <= w.heap.size) (q:Option Addr) (m mc:Nat) (nb:Bs) (hm:nb.length = m) (h63:m <= 9223372036854775807) (hq:Ints .u8 w q (bI nb)) :
    FnP Tryz.prog F_journal_Disk_Write #[.pointer (ptr db),.slice q m mc] w fun v w'=>(100000 < bs.length + m/\v = .int .i64 7/\Ext w w')\/(bs.length + m <= 100000/\v = .int .i64 0/\∃ p' c',DX B w' db p' c' (bs ++ nb) sf/\Fr (dft db p) w w'/\∀ b,dft db p' b->dft db p b\/w.heap.size <= b):=by
  have ne:=ptr_ne db
  refine ok_journal_Disk_Write (ptr db) q m mc w _ ⟨ne,ne,p,_,c,D.c0.1,i64 (by omega),fun hlt w3 h3=>.inl ⟨by omega,rfl,h3⟩,fun hge=>⟨ne,ne,p,_,c,D.c0.1,fun w6 h6=>?_⟩⟩
  have D6:=D.ext h6
  refine run_appB D6.buf (Nat.le_trans hB h6.size) hm (hq.ext h6) (by omega) fun p' c' w7 o7 g7=>⟨p',_,c',rfl,ne,ne,?_⟩
  have f67:Fr (dft db p) w6 w7:=fr_grew g7 fun a ha=>.inr ⟨a,ha,rfl⟩
  have hp':∀ a,p' = some a->(∃ o,p = some o/\o.block = a.block)\/w6.heap.size <= a.block:=fun a ha=>by
    rcases g7.new with hn | hn
    · left
      rw [ha] at hn
      cases ho:p with
      | none => rw [ho] at hn; simp [blk] at hn
      | some y => rw [ho] at hn; simp [blk] at hn; exact ⟨y,rfl,by omega⟩
    · exact .inr (hn a ha)
  have hap:∀ a,p' = some a->a.block ≠ db:=fun a ha=>by
    rcases hp' a ha with ⟨o,ho,hk⟩ | h
    · rw [<- hk]; exact D.ap o ho
    · have:=(D6.foot (.inl rfl)).2; omega
  have s7:=D6.slot.st (fun u v hu hv=>by cases hu; exact fun h=>D.ap v hv h.symm) g7
  have hlen:(bs ++ nb).length = bs.length + m:=by rw [List.length_append,hm]
  refine store_own (off:=0) s7 rfl (by simp) (by simp) (by intro u hu; simp at hu; subst hu; rfl) (by simp) fun w11 o11 g11 w12 h12=>.inr ⟨by omega,rfl,p',c',?_,?_,fun b hb=>?_⟩
  · refine DX.ext ⟨by rw [hlen]; exact o11,?_,hap⟩ h12
    rw [hlen]
    exact o7.st (fun a b ha hb=>by cases hb; exact hap a ha) g11
  · have f11:Fr (dft db p) w7 w11:=fr_grew g11 fun a ha=>by cases ha; exact .inl rfl
    exact (((fr_ext h6).tr f67).tr f11).tr (fr_ext h12)
  · rcases hb with hb | ⟨a,ha,rfl⟩
    · exact .inl (.inl hb)
    · rcases hp' a ha with ⟨o,ho,hk⟩ | h
      · exact .inl (.inr ⟨o,ho,hk⟩)
      · exact .inr (Nat.le_trans h6.size h)
theorem dSync_k (D:DX B w db p c bs sf):FnP Tryz.prog F_journal_Disk_Sync #[.pointer (ptr db)] w fun v w'=>v = .tuple #[]/\DX B w' db p c bs bs.length/\Fr (dft db p) w w':=by
  have ne:=ptr_ne db
  refine ok_journal_Disk_Sync (ptr db) w _ ⟨ne,ne,p,_,c,D.c0.1,ne,ne,?_⟩
  exact D.st (off:=1) (vs:=[]) rfl rfl (by omega) (fun w' g=>D.keep g) D.ap fun w3 D3 f3 w4 h4=>⟨rfl,D3.ext h4,f3.tr (fr_ext h4)⟩
theorem dCrash_k (D:DX B w db p c bs sf) (hn:bs.length <= 100000) (hsf:0 <= sf/\sf <= bs.length) (keep:Int) (hk:InR .i64 keep) :
    FnP Tryz.prog F_journal_Disk_Crash #[.pointer (ptr db),.int .i64 keep] w fun v w'=>((keep < 0\/bs.length - sf < keep)/\v = .int .i64 1/\Ext w w') \/
      (0 <= keep/\keep <= bs.length - sf/\v = .int .i64 0/\DX B w' db p c (bs.take (sf + keep).toNat) (sf + keep)/\Fr (dft db p) w w'):=by
  have ne:=ptr_ne db
  have hk':=of64 hk
  have hc:=D.buf.le.1
  refine ok_journal_Disk_Crash (ptr db) keep w _ ⟨fun _=>ne,fun _=>ne,fun hneg w0 h0=>.inl ⟨.inl hneg,rfl,h0⟩,fun hk0=>⟨p,_,c,D.c0.1,ne,ne,sf,D.c0.2,i64 (by omega),fun hlt w4 h4=>.inl ⟨.inr hlt,rfl,h4⟩,fun hle=>⟨ne,ne,p,_,c,D.c0.1,ne,ne,sf,D.c0.2,i64 (by omega),by omega,by omega,by omega,ne,ne,?_⟩⟩⟩
  rw [pCut_zero,show ((sf + keep) - 0) = sf + keep by omega,show c - (0:Int).toNat = c by simp]
  have hl:(bs.take (sf + keep).toNat).length = (sf + keep).toNat:=by rw [List.length_take]; omega
  refine D.st (off:=0) (vs:=[]) (p':=p) (c':=c) (bs':=bs.take (sf + keep).toNat) (sf':=sf) rfl (by rw [hl]; rfl) (by omega) (fun w' g=>?_) D.ap fun w8 D8 f8 w9 h9=>?_
  · have:=(D.keep g).pre (m:=(sf + keep).toNat) (by omega)
    rw [hl]
    rw [Nat.mul_one] at this
    simpa [bI,List.map_take] using this
  · refine (dSync_k (D8.ext h9)).mono fun v w10 ⟨hv,D10,f10⟩=>⟨hv,fun w11 h11=>.inr ⟨hk0,hle,rfl,?_,((f8.tr (fr_ext h9)).tr f10).tr (fr_ext h11)⟩⟩
    have:=D10.ext h11
    rw [hl,show ((((sf + keep).toNat:Nat)):Int) = sf + keep by omega] at this
    exact this
theorem dBytes_k (D:DX B w db p c bs sf) (hn:bs.length <= 100000):FnP Tryz.prog F_journal_Disk_Bytes #[.pointer (ptr db)] w fun v w'=>Ext w w'/\∃ q m,v = .slice q bs.length m/\Own w.heap.size w' T_uint8 1 q bs.length m ((bI bs).map (.int .u8)):=by
  have ne:=ptr_ne db
  refine ok_journal_Disk_Bytes (ptr db) w _ ⟨ne,ne,p,_,c,D.c0.1,fun w3 h3=>(Clone_kB w3 rfl (by omega) (D.buf.cells.ext h3)).mono fun v w4 ⟨e4,q,m,hv,o4⟩=>⟨e4,q,_,m,hv,fun w8 h8=>⟨(h3.trans e4).trans h8,q,m,rfl,(o4.weak h3.size).ext h8⟩⟩⟩
end
theorem replay_k (p:Option Addr) (c:Nat) (L:List Ht) (h63:(L.length:Int) <= 9223372036854775807) (hO:∀ h ∈ L,HtOk h) (pol:Pol) (q:Option Addr) (d:Nat) (E:List EvR) (hE63:(E.length:Int) <= 9223372036854775807) (w:World) (hL:HsAt w p L) (hE:Recs 15 encR w q E) (hEw:∀ r ∈ E,WfJ r.x.job/\IsJ w r.x.job r.pa r.ca r.pf) :
    FnP Tryz.prog F_safe_Replay #[.agg #[.slice p L.length c,.int .i64 pol.first,.int .i64 pol.times,.int .i64 pol.most,.int .i64 pol.tries],.slice q E.length d] w fun v w'=>Ext w w'/\∃ (f:Option Addr) (e:Int),v = .tuple #[.pointer f,.int .i64 e]/\(e = 0 ↔ okNew L pol) /\
      (okNew L pol->∃ B fb P F,f = ptr fb/\w.heap.size <= B/\B <= w'.heap.size/\FX B w' fb P F/\Plays (newF L pol) (E.map (·.x)) F):=by
  refine ok_safe_Replay p L.length c pol.first pol.times pol.most pol.tries q E.length d w _ fun b0 hb0 w1 x1=>?_
  have h1:=extB_ext x1
  refine (fNew_k p c L h63 hO pol w1 (hL.ext h1)).mono fun v w2 ⟨e2,f,e,hv,hiff,hno,hyes⟩=>⟨e2,f,e,hv,fun hne w5 h5=>⟨(h1.trans e2).trans h5,none,e,rfl,hiff,fun h=>absurd (hiff.2 h) hne⟩,fun hz=>?_⟩
  have hok:=hiff.1 hz
  obtain ⟨fb,P0,rfl,x2⟩:=hyes hz
  have lt1:=x1.lt b0 (by simp)
  refine ⟨fun k w'=>0 <= k/\k <= E.length/\Ext w w'/\w1.heap.size <= w'.heap.size/\∃ P F,FX w1.heap.size w' fb P F/\Plays (newF L pol) ((E.map (·.x)).take k.toNat) F,fun k _=>(E.length - k).toNat,⟨by omega,by omega,h1.trans e2,e2.size,P0,_,x2,rfl⟩,?_⟩
  rintro k w7 ⟨hk0,hk1,h7,hs7,P,F,x7,hp⟩
  have I:=plays_inv hp (new_inv hok)
  refine ⟨fun hlt=>?_,fun hge w8 h8=>?_⟩
  · obtain ⟨r,hr⟩:∃ r,E[k.toNat]? = some r:=⟨_,List.getElem?_eq_getElem (by omega)⟩
    have g:∀ (m:Nat) u,(encR r)[m]? = some u->Go.Sx.cell w7 (pIdx q k 15) m = some u:=fun m u hu=>ext_cell h7 (hE.at hk0 hr hu)
    have g0:=g 0 _ rfl
    obtain ⟨hW,hJ⟩:=hEw r (List.mem_of_getElem? hr)
    refine ⟨fun h=>cell_p g0 (pIdx_none.2 h),hk0,hlt,cell_p g0,_,g 0 _ rfl,_,g 1 _ rfl,_,g 2 _ rfl,_,g 3 _ rfl,_,g 4 _ rfl,_,g 5 _ rfl,_,g 6 _ rfl,_,g 7 _ rfl,_,g 8 _ rfl,_,g 9 _ rfl,_,_,_,g 10 _ rfl,_,_,_,g 11 _ rfl,_,g 12 _ rfl,_,g 13 _ rfl,_,g 14 _ rfl,fun b27 hb27 w28 x28=>?_⟩
    have h28:=extB_ext x28
    refine (Do_k (x7.ext h28) I.i0.pre I.i0.hs r.x r.pa r.ca r.pf r.cf (hJ.ext (h7.trans h28)) hW (Nat.le_trans hs7 h28.size)).mono fun v w29 ⟨e,P',F',hv,_,hd,x29,f29,_⟩=>⟨f29.kept fun b hb=>?_,e,hv,i64 (by omega),⟨by omega,by omega,f29.ext (h7.trans h28) (fun b hb=>?_),Nat.le_trans hs7 (Nat.le_trans h28.size f29.size),P',F',x29,?_⟩,by simp only []; omega⟩
    · refine ⟨x28.lt b hb,fun hf=>?_⟩
      have:=x7.foot hf
      simp at hb
      rcases hb with rfl | rfl <;> omega
    · have:=(x7.foot hb).1
      have:=h1.size
      omega
    · rw [show (k + 1).toNat = k.toNat + 1 by omega,List.take_add_one,List.getElem?_map,hr]
      exact plays_snoc hp hd
  · refine ⟨h7.trans h8,ptr fb,0,rfl,⟨fun _=>hok,fun _=>rfl⟩,fun _=>⟨w1.heap.size,fb,P,F,rfl,h1.size,Nat.le_trans hs7 h8.size,x7.ext h8,?_⟩⟩
    rw [show k.toNat = (E.map (·.x)).length by simp; omega,List.take_length] at hp
    exact hp
end Go.Proofs.YtegephkpdlopaaaGreatDoor
set_option linter.unusedVariables false
set_option linter.unusedSimpArgs false
namespace Go.Proofs.YtegephkpdlopaaaGreatDoor
open Go.Sx Go.RowKit
structure Zt where
  hp:Option Addr
  hc:Nat
  L:List Ht
  pol:Pol
  fb:Nat
  P:Pl
  F:Fm
  db:Nat
  p:Option Addr
  c:Nat
  bs:Bs
  sf:Int
def sft (sb:Nat) (Z:Zt) (b:Nat):Prop:=b = sb\/dft Z.db Z.p b
def SF (sb:Nat) (Z:Zt) (b:Nat):Prop:=sft sb Z b\/ft Z.fb Z.P.jp b
abbrev zcs (Z:Zt):List Value:=[.slice Z.hp Z.L.length Z.hc,.int .i64 Z.pol.first,.int .i64 Z.pol.times,.int .i64 Z.pol.most,.int .i64 Z.pol.tries,.pointer (ptr Z.fb),.pointer (ptr Z.db)]
structure SX (O:Nat->Prop) (B:Nat) (w:World) (sb:Nat) (Z:Zt):Prop where
  slot:Own B w T_safe_Safe 7 (ptr sb) 1 1 (zcs Z)
  disk:DX B w Z.db Z.p Z.c Z.bs Z.sf
  farm:FXO (fun b=>O b\/sft sb Z b) B w Z.fb Z.P Z.F
  hs:∀ w'',Fr (fun b=>O b\/SF sb Z b) w w''->HsAt w'' Z.hp Z.L
  ap:¬ dft Z.db Z.p sb
  new:okNew Z.L Z.pol
  odis:∀ b,O b->¬ sft sb Z b
section
variable {O:Nat->Prop} {B sb:Nat} {w:World} {Z:Zt}
theorem SX.foot (s:SX O B w sb Z) {b:Nat} (h:SF sb Z b):B <= b/\b < w.heap.size:=by
  rcases h with (rfl | h) | h
  · exact s.slot.lt _ rfl
  · exact s.disk.foot h
  · exact s.farm.foot h
theorem SX.olt (s:SX O B w sb Z) {b:Nat} (h:O b):b < w.heap.size:=s.farm.olt b (.inl h)
theorem SX.oft (s:SX O B w sb Z) {b:Nat} (h:O b):¬ SF sb Z b:=fun hf=>hf.elim (s.odis b h) (s.farm.odis b (.inl h))
theorem SX.fr {S:Nat->Prop} {w':World} (s:SX O B w sb Z) (f:Fr S w w') (hS:∀ b,S b->O b):SX O B w' sb Z :=
  ⟨s.slot.fr f fun a ha hs=>by cases ha; exact s.odis _ (hS _ hs) (.inl rfl),s.disk.fr f fun b hb hs=>s.odis b (hS b hs) (.inr hb),s.farm.fr f fun b hb=>.inl (hS b hb),
    fun w'' k=>s.hs w'' ((f.mono fun b hb=>.inl (hS b hb)).tr k),s.ap,s.new,s.odis⟩
theorem SX.ext {w':World} (s:SX O B w sb Z) (e:Ext w w'):SX O B w' sb Z:=s.fr (fr_ext (S:=fun _=>False) e) fun _ h=>h.elim
theorem SX.cell (s:SX O B w sb Z) {i:Nat} {v:Value} (h:(zcs Z)[i]? = some v):Go.Sx.cell w (pAdd (ptr sb) i) 0 = some v:=by rw [cell_pAdd]; exact s.slot.cells i v h
theorem SX.keep (s:SX O B w sb Z) {W:World} (e:Ext W w) (hB:W.heap.size <= B) {w':World} (f:Fr (SF sb Z) w w'):Ext W w':=f.ext e fun b hb=>Nat.le_trans hB (s.foot hb).1
theorem SX.next (s:SX O B w sb Z) {w':World} {Z':Zt} (f:Fr (SF sb Z) w w') (hg:∀ b,SF sb Z' b->SF sb Z b\/w.heap.size <= b) (slot:Own B w' T_safe_Safe 7 (ptr sb) 1 1 (zcs Z')) (disk:DX B w' Z'.db Z'.p Z'.c Z'.bs Z'.sf)
    (farm:FXO (fun b=>O b\/sft sb Z' b) B w' Z'.fb Z'.P Z'.F) (ap:¬ dft Z'.db Z'.p sb) (hp:Z'.hp = Z.hp) (hL:Z'.L = Z.L) (hpol:Z'.pol = Z.pol):SX O B w' sb Z':=by
  refine ⟨slot,disk,farm,fun w'' k=>?_,ap,by rw [hL,hpol]; exact s.new,fun b hb hs=>?_⟩
  · rw [hp,hL]
    refine s.hs w'' ((f.mono fun b hb=>.inr hb).trans k fun b hb=>?_)
    rcases hb with hb | hb
    · exact .inl (.inl hb)
    · exact (hg b hb).imp .inr fun h=>h
  · rcases hg b (.inl hs) with h | h
    · exact s.oft hb h
    · have:=s.olt hb; omega
theorem FXO.low {B' fb:Nat} {P:Pl} {F:Fm} (x:FXO O B w fb P F) (h:B' <= B):FXO O B' w fb P F:=⟨x.slot.weak h,x.arr.weak h,x.map,x.hs,x.js,x.ap,x.hO,x.jO,x.olt,x.odis⟩
theorem sNew_k (p:Option Addr) (c:Nat) (L:List Ht) (h63:(L.length:Int) <= 9223372036854775807) (hO:∀ h ∈ L,HtOk h) (pol:Pol) (w:World) (hL:HsAt w p L) :
    FnP Tryz.prog F_safe_New #[.agg #[.slice p L.length c,.int .i64 pol.first,.int .i64 pol.times,.int .i64 pol.most,.int .i64 pol.tries]] w fun v w'=>Ext w w'/\∃ (q:Option Addr) (e:Int),v = .tuple #[.pointer q,.int .i64 e]/\(e = 0 ↔ okNew L pol)/\(e ≠ 0->q = none) /\
      (e = 0->∃ sb Z,q = ptr sb/\Z.L = L/\Z.pol = pol/\Z.F = newF L pol/\Z.bs = []/\Z.sf = 0/\SX (fun b=>b < w.heap.size) w.heap.size w' sb Z):=by
  refine ok_safe_New p L.length c pol.first pol.times pol.most pol.tries w _ fun b0 hb0 w1 x1=>?_
  have h1:=extB_ext x1
  refine (fNew_k p c L h63 hO pol w1 (hL.ext h1)).mono fun v w2 ⟨e2,f,e,hv,hiff,hno,hyes⟩=>⟨e2,f,e,hv,fun hne w5 h5=>⟨(h1.trans e2).trans h5,none,e,rfl,hiff,fun _=>rfl,fun h=>absurd h hne⟩,fun hz w5 x5=>?_⟩
  obtain ⟨fb,P,rfl,x2⟩:=hyes hz
  have hok:=hiff.1 hz
  have h5:=extB_ext x5
  have x5f:=x2.ext h5
  refine (Hosts_k x5f hok.1).mono fun v w6 ⟨e6,hp,hc,hv,_,hS⟩=>⟨e6,hp,_,hc,hv,fun w10 x10=>?_⟩
  have h10:=extB_ext x10
  refine (dNew_k w10).mono fun v w11 ⟨e11,db,hv,hdb,hD⟩=>⟨e11,ptr db,hv,fun w13 x13=>?_⟩
  have h13:=extB_ext x13
  refine new_own (by intro v hv; simp at hv; rcases hv with rfl | rfl | rfl | rfl | rfl | rfl | rfl <;> rfl) fun w14 o14 e14 w15 e15=>?_
  have e1115:=(h13.trans e14).trans e15
  have e615:=(h10.trans e11).trans e1115
  have hs1:w.heap.size <= w1.heap.size:=h1.size
  have hs110:w1.heap.size <= w10.heap.size:=Nat.le_trans e2.size (Nat.le_trans h5.size (Nat.le_trans e6.size h10.size))
  have hs1013:w10.heap.size <= w13.heap.size:=Nat.le_trans e11.size h13.size
  have hs510:w5.heap.size <= w10.heap.size:=Nat.le_trans e6.size h10.size
  have D15:DX w.heap.size w15 db none 0 [] 0:=(hD _ (Nat.le_trans hs1 hs110)).ext e1115
  have hall:Ext w w15:=(((h1.trans e2).trans h5).trans e6).trans e615
  have x15:=(x5f.ext e6).ext e615
  have hft:∀ b,ft fb P.jp b->w1.heap.size <= b/\b < w5.heap.size:=fun b hb=>x5f.foot hb
  have hDlt:db < w15.heap.size:=(D15.foot (.inl rfl)).2
  have h14lt:w13.heap.size < w15.heap.size:=by
    have:=(o14 w13.heap.size (Nat.le_refl _)).size_lt
    have:=e15.size
    omega
  have hdb13:db < w13.heap.size:=by
    have:=((hD w10.heap.size (Nat.le_refl _)).ext h13).foot (b:=db) (.inl rfl)
    omega
  refine ⟨hall,_,0,rfl,⟨fun _=>hok,fun _=>rfl⟩,fun h=>absurd rfl h,fun _=>⟨w13.heap.size,⟨hp,hc,L,pol,fb,P,newF L pol,db,none,0,[],0⟩,rfl,rfl,rfl,rfl,rfl,rfl,⟨(o14 _ (Nat.le_trans hs1 (Nat.le_trans hs110 hs1013))).ext e15,D15,?_,fun w'' k=>?_,?_,hok,fun b hb hs=>?_⟩⟩⟩
  · refine FXO.low ((x5f.ext e6).more (w9:=w15) e615 fun b hb=>?_) hs1
    rcases hb with hb | hb | hb | ⟨a,ha,_⟩
    · exact .inl (show b < w1.heap.size by have:b < w.heap.size:=hb; omega)
    · have hb:b = w13.heap.size:=hb
      exact .inr ⟨by have:=h10.size; omega,by omega⟩
    · have hb:b = db:=hb
      exact .inr ⟨by have:=h10.size; omega,by omega⟩
    · cases ha
  · refine hS (fun b=>b < w5.heap.size) (fun b hb=>hb) w'' ((fr_ext e615).trans k fun b hb=>?_)
    have hs610:=h10.size
    rcases hb with hb | (hb | hb | ⟨a,ha,_⟩) | hb
    · left
      have:b < w.heap.size:=hb
      have:=e2.size; have:=h5.size
      show b < w5.heap.size
      omega
    · have hb:b = w13.heap.size:=hb
      right; omega
    · have hb:b = db:=hb
      right; omega
    · cases ha
    · exact .inl (hft b hb).2
  · rintro (h | ⟨a,ha,_⟩)
    · have h:w13.heap.size = db:=h
      omega
    · cases ha
  · have hb:b < w.heap.size:=hb
    rcases hs with hs | hs | ⟨a,ha,_⟩
    · have hs:b = w13.heap.size:=hs
      omega
    · have hs:b = db:=hs
      have:w.heap.size <= db:=Nat.le_trans hs1 (Nat.le_trans hs110 hdb)
      omega
    · cases ha
theorem sBytes_k (s:SX O B w sb Z) (hn:Z.bs.length <= 100000):FnP Tryz.prog F_safe_Safe_Bytes #[.pointer (ptr sb)] w fun v w'=>Ext w w'/\∃ q m,v = .slice q Z.bs.length m/\Own w.heap.size w' T_uint8 1 q Z.bs.length m ((bI Z.bs).map (.int .u8)):=by
  have ne:=ptr_ne sb
  refine ok_safe_Safe_Bytes (ptr sb) w _ ⟨ne,ne,_,s.cell (i:=6) rfl,fun w1 h1=>(dBytes_k (s.ext h1).disk hn).mono fun v w2 ⟨e2,q,m,hv,o⟩=>⟨e2,q,_,m,hv,fun w6 h6=>⟨(h1.trans e2).trans h6,q,m,rfl,(o.weak h1.size).ext h6⟩⟩⟩
theorem sSync_k (s:SX O B w sb Z):FnP Tryz.prog F_safe_Safe_Sync #[.pointer (ptr sb)] w fun v w'=>v = .tuple #[]/\SX O B w' sb { Z with sf:=Z.bs.length }/\Fr (SF sb Z) w w':=by
  have ne:=ptr_ne sb
  refine ok_safe_Safe_Sync (ptr sb) w _ ⟨ne,ne,_,s.cell (i:=6) rfl,fun w1 h1=>(dSync_k (s.ext h1).disk).mono fun v w2 ⟨hv,D2,f2⟩=>⟨hv,fun w3 h3=>⟨rfl,?_,?_⟩⟩⟩
  · have s1:=s.ext h1
    have f:Fr (SF sb Z) w1 w3:=(f2.mono fun b hb=>.inl (.inr hb)).tr (fr_ext h3)
    refine s1.next f (fun b hb=>.inl hb) ((s1.slot.fr f2 fun a ha hs=>by cases ha; exact s.ap hs).ext h3) (D2.ext h3) ((s1.farm.fr f2 fun b hb=>.inr (.inr hb)).ext h3) s.ap rfl rfl rfl
  · exact ((fr_ext h1).tr (f2.mono fun b hb=>.inl (.inr hb))).tr (fr_ext h3)
theorem sDo_k (s:SX O B w sb Z) (I:Inv Z.F) (g:GB w) (hcap:Z.bs.length + 3011 <= 100000) (hB:B <= w.heap.size) (y:Ev) (pa:Option Addr) (ca:Nat) (pf:Option Addr) (cf:Nat) (hJc:∀ w'',Fr (SF sb Z) w w''->IsJ w'' y.job pa ca pf) (hW:WfJ y.job) (hn:nod y.job.ask <= 1048576) :
    FnP Tryz.prog F_safe_Safe_Do #[.pointer (ptr sb),evv y pa ca pf cf] w fun v w'=>∃ (e:Int) (Z':Zt),v = .int .i64 e/\SX O B w' sb Z'/\Fr (SF sb Z) w w'/\(∀ b,SF sb Z' b->SF sb Z b\/w.heap.size <= b)/\Z'.L = Z.L/\Z'.pol = Z.pol/\Z'.sf = Z.sf/\Did Z.F y Z'.F/\((e = 0 ↔ can Z.F y)/\DoE Z.F y e) /\
      ((¬ okE y/\Z'.bs = Z.bs)\/(okE y/\Z'.bs = Z.bs ++ fr (enc y))):=by
  have ne:=ptr_ne sb
  have hJ:=hJc w (Fr.refl _ _)
  refine ok_safe_Safe_Do (ptr sb) y.kind y.job.user y.job.prio y.job.nd.c y.job.nd.m y.job.nd.g y.job.ask.k y.job.ask.key y.job.ask.val y.job.ask.n pa y.job.ask.xs.length ca pf y.job.aft.length cf y.n y.id y.ok w _ fun b0 hb0 w1 h1=>(eErr_k y pa ca pf cf w1 (hJ.ext h1) hW).mono fun v w2 ⟨e2,e,hv,he⟩=>⟨e2,e,hv,fun hne w4 h4=>?_,fun hz w4 x4=>?_⟩
  · have hno:¬ okE y:=fun h=>hne (he.ok.2 h)
    have hnc:¬ can Z.F y:=fun h=>hno h.1
    exact ⟨e,Z,rfl,s.ext h4,fr_ext h4,fun b hb=>.inl hb,rfl,rfl,rfl,.inl ⟨hnc,rfl⟩,⟨⟨fun h=>absurd h hne,fun h=>absurd h hnc⟩,e,he,.inl ⟨hne,rfl⟩⟩,.inl ⟨hno,rfl⟩⟩
  have hE:=he.ok.1 hz
  have hWh:=whole_ok hE hn
  have h4:=extB_ext x4
  have lt4:=x4.lt b0 (by simp)
  have kp:∀ {w9 w10:World} {S:Nat->Prop},b0 < w9.heap.size->Fr S w9 w10->(∀ b,S b->SF sb Z b)->Kept [b0] w9 w10:=fun hlt f hS=>f.kept fun b hb=>by
    simp at hb; subst hb
    refine ⟨hlt,fun hf=>?_⟩
    have:=(s.foot (hS _ hf)).2
    omega
  refine (eFrame_k y pa ca pf cf w4 (hJ.ext h4) hW hn (g.ext h4)).mono fun v w5 ⟨e5,q,n,mc,e',hv,heq,_,hown⟩=>⟨e5,q,n,mc,e',hv,ne,ne,?_⟩
  obtain ⟨hnl,oq⟩:=hown (heq.2 hE)
  have s5:=s.ext (h4.trans e5)
  refine ⟨_,s5.cell (i:=6) rfl,fun w11 x11=>?_⟩
  have h11:=extB_ext x11
  have lt11:=x11.lt b0 (by simp)
  have s11:=s5.ext h11
  have hfl:(fr (enc y)).length <= 3011:=by rw [fr_len]; have:=hWh.len; omega
  refine (dWrite_k s11.disk (by omega) (by have:=(h4.trans (e5.trans h11)).size; omega) q n mc (fr (enc y)) hnl.symm (by omega) (oq.ext h11).cells).mono fun v w12 hr=>?_
  rcases hr with ⟨hbad,_⟩ | ⟨_,hv,p',c',D12,f12,g12⟩
  · omega
  refine ⟨kp lt11 f12 fun b hb=>.inl (.inr hb),0,hv,fun h=>absurd rfl h,fun _=>⟨ne,ne,?_⟩⟩
  have hw11:=(h4.trans e5).trans h11
  have slot12:Own B w12 T_safe_Safe 7 (ptr sb) 1 1 (zcs Z):=s11.slot.fr f12 fun a ha hs=>by cases ha; exact s.ap hs
  have x12:FXO (fun b=>O b\/sft sb { Z with p:=p',c:=c',bs:=Z.bs ++ fr (enc y) } b) B w12 Z.fb Z.P Z.F:=s11.farm.go f12 (fun b hb=>.inr (.inr hb)) fun b hb=>by
    rcases hb with hb | hb | hb
    · exact .inl (.inl hb)
    · exact .inl (.inr (.inl hb))
    · rcases g12 b hb with h | h
      · exact .inl (.inr (.inr h))
      · exact .inr ⟨h,(D12.foot hb).2⟩
  have ap12:¬ dft Z.db p' sb:=fun h=>by
    rcases g12 sb h with h | h
    · exact s.ap h
    · have:=(s11.foot (.inl (.inl rfl))).2; omega
  refine ⟨_,by rw [cell_pAdd]; exact slot12.cells 5 _ rfl,fun w15 x15=>?_⟩
  have h15:=extB_ext x15
  have hw1115:w.heap.size <= w15.heap.size:=Nat.le_trans hw11.size (Nat.le_trans f12.size h15.size)
  have f15:Fr (SF sb Z) w w15:=((fr_ext hw11).tr (f12.mono fun b hb=>.inl (.inr hb))).tr (fr_ext h15)
  have hJ15:IsJ w15 y.job pa ca pf:=hJc w15 f15
  refine (Do_k (x12.ext h15) I.i0.pre I.i0.hs y pa ca pf cf hJ15 hW (Nat.le_trans hB hw1115)).mono fun v w16 ⟨e3,P',F',hv,hcan,hd,x16,f16,g16⟩=>⟨kp (x15.lt b0 (by simp)) f16 fun b hb=>.inr hb,e3,hv,fun w18 h18=>?_⟩
  have f18:Fr (SF sb Z) w w18:=(f15.tr (f16.mono fun b hb=>.inr hb)).tr (fr_ext h18)
  have gS:∀ b,SF sb { Z with P:=P',F:=F',p:=p',c:=c',bs:=Z.bs ++ fr (enc y) } b->SF sb Z b\/w.heap.size <= b:=fun b hb=>by
    have hs15:=hw11.size
    rcases hb with (hb | hb) | hb
    · exact .inl (.inl (.inl hb))
    · rcases g12 b hb with h | h
      · exact .inl (.inl (.inr h))
      · exact .inr (by omega)
    · rcases g16 b hb with h | h
      · exact .inl (.inr h)
      · exact .inr (by omega)
  have slot18:Own B w18 T_safe_Safe 7 (ptr sb) 1 1 (zcs Z):=((slot12.ext h15).fr f16 fun a ha hs=>by cases ha; exact x12.odis sb (.inr (.inl rfl)) hs).ext h18
  have D18:=((D12.ext h15).fr f16 fun b hb hs=>x12.odis b (.inr (.inr hb)) hs).ext h18
  refine ⟨e3,{ Z with P:=P',F:=F',p:=p',c:=c',bs:=Z.bs ++ fr (enc y) },rfl,s.next f18 gS slot18 D18 (x16.ext h18) ap12 rfl rfl rfl,f18,gS,rfl,rfl,rfl,hd,hcan,.inr ⟨hE,rfl⟩⟩
end
end Go.Proofs.YtegephkpdlopaaaGreatDoor
set_option linter.unusedVariables false
set_option linter.unusedSimpArgs false
namespace Go.Proofs.YtegephkpdlopaaaGreatDoor
open Go.Sx Go.RowKit
section
variable {O:Nat->Prop} {B sb:Nat} {w:World} {Z:Zt}
theorem len_frs (M:List Ev):M.length <= (frs M).length:=by
  induction M with
  | nil => simp
  | cons x r ih =>
    show _ <= (fr (enc x) ++ frs r).length
    rw [List.length_append,fr_len,List.length_cons]
    omega
theorem okht {L:List Ht} (h:okHs L):∀ x ∈ L,HtOk x:=ht_ok h
theorem sFarm_k (s:SX O B w sb Z) (g:GB w) {K:List Ev} (hbs:Z.bs = frs K) (hK:∀ x ∈ K,Whole x) (hcap:Z.bs.length <= 100000) :
    FnP Tryz.prog F_safe_Safe_Farm #[.pointer (ptr sb)] w fun v w'=>Ext w w'/\∃ B2 fb P F,v = .pointer (ptr fb)/\w.heap.size <= B2/\B2 <= w'.heap.size/\FX B2 w' fb P F/\Plays (newF Z.L Z.pol) K F:=by
  have ne:=ptr_ne sb
  have hl30:=s.new.1.1
  refine ok_safe_Safe_Farm (ptr sb) w _ ⟨ne,ne,_,s.cell (i:=6) rfl,fun w1 h1=>(dBytes_k (s.ext h1).disk hcap).mono fun v w2 ⟨e2,q,m,hv,o2⟩=>⟨e2,q,_,m,hv,fun w6 h6=>?_⟩⟩
  have hw6:=(h1.trans e2).trans h6
  have o6:=o2.ext h6
  refine (Cut_k2 q m Z.bs w6 o6.cells o6.le.1 o6.le.2 (by omega) (g.ext hw6)).mono fun v w7 ⟨e7,rs,pr,cr,n,hv,o7,hrs,_,_,_,huniq⟩=>⟨e7,pr,_,cr,n,hv,ne,ne,(fun h=>ne (pAdd_none.1 h)),?_⟩
  have hrK:rs.map (·.x) = K:=huniq K [] hK stuck_nil (by rw [hbs]; simp)
  have s7:=s.ext (hw6.trans e7)
  have cz:∀ (j:Nat) v,(zcs Z)[j]? = some v->Go.Sx.cell w7 (pAdd (ptr sb) 0) j = some v:=fun j v hv=>by
    rw [pAdd_zero]
    exact s7.slot.cells j v hv
  refine ⟨_,_,_,cz 0 _ rfl,_,cz 1 _ rfl,_,cz 2 _ rfl,_,cz 3 _ rfl,_,cz 4 _ rfl,fun w19 h19=>?_⟩
  have hw19:=(hw6.trans e7).trans h19
  have hrl:rs.length <= 100000:=by
    have h1:rs.length = K.length:=by rw [<- hrK]; simp
    have h2:=len_frs K
    rw [<- hbs] at h2
    omega
  refine (replay_k Z.hp Z.hc Z.L (by omega) (okht s.new.1) Z.pol pr cr rs (by omega) w19 (s.hs w19 (fr_ext hw19)) ((o7.ext h19).recs fun _ _=>rfl) (fun r hr=>⟨(hrs r hr).1.wf,(hrs r hr).2 (fun _=>False) (fun _ h=>h.elim) w19 (fr_ext h19)⟩)).mono fun v w20 ⟨e20,f,e,hv,hiff,hyes⟩=>⟨e20,f,e,hv,fun w23 h23=>?_⟩
  obtain ⟨B2,fb,P,F,rfl,hB1,hB2,x20,hp⟩:=hyes s.new
  rw [hrK] at hp
  exact ⟨(hw19.trans e20).trans h23,B2,fb,P,F,rfl,Nat.le_trans hw19.size hB1,Nat.le_trans hB2 h23.size,x20.ext h23,hp⟩
theorem sCrash_k (s:SX O B w sb Z) (g:GB w) {W:World} (hW:Ext W w) (hWB:W.heap.size <= B) (gW:GB W) {K:List Ev} (hbs:Z.bs = frs K) (hK:∀ x ∈ K,Whole x) (hcap:Z.bs.length <= 100000) (hsf:0 <= Z.sf/\Z.sf <= Z.bs.length) (hB:B <= w.heap.size) (keep:Int) (hk:InR .i64 keep) :
    FnP Tryz.prog F_safe_Safe_Crash #[.pointer (ptr sb),.int .i64 keep] w fun v w'=>∃ e:Int,v = .int .i64 e/\(e = 0 ↔ 0 <= keep/\keep <= Z.bs.length - Z.sf)/\((e ≠ 0/\Ext w w') \/
      (e = 0/\∃ (j:Nat) (Z':Zt),j <= K.length/\((frs (K.take j)).length:Int) <= Z.sf + keep/\(j < K.length->Z.sf + keep < (frs (K.take (j + 1))).length)/\SX O B w' sb Z'/\Fr (SF sb Z) w w'/\(∀ b,SF sb Z' b->SF sb Z b\/w.heap.size <= b)/\Z'.L = Z.L/\Z'.pol = Z.pol/\Z'.bs = frs (K.take j)/\Z'.sf = Z'.bs.length/\Plays (newF Z.L Z.pol) (K.take j) Z'.F)):=by
  have ne:=ptr_ne sb
  have hl30:=s.new.1.1
  have hk':=of64 hk
  refine ok_safe_Safe_Crash (ptr sb) keep w _ ⟨ne,ne,_,s.cell (i:=6) rfl,fun w1 h1=>(dCrash_k (s.ext h1).disk hcap hsf keep hk).mono fun v w2 hr=>?_⟩
  rcases hr with ⟨hbad,hv,e2⟩ | ⟨hk0,hk1,hv,D2,f2⟩
  · exact ⟨1,hv,fun _ w4 h4=>⟨1,rfl,⟨fun h=>(by cases h),fun h=>by omega⟩,.inl ⟨by decide,(h1.trans e2).trans h4⟩⟩,fun h=>by cases h⟩
  refine ⟨0,hv,fun h=>absurd rfl h,fun _=>⟨ne,ne,?_⟩⟩
  have hiff:(0:Int) = 0 ↔ 0 <= keep/\keep <= Z.bs.length - Z.sf:=⟨fun _=>⟨hk0,hk1⟩,fun _=>rfl⟩
  have s1:=s.ext h1
  let k:Nat:=(Z.sf + keep).toNat
  have hkk:((k:Nat):Int) = Z.sf + keep:=by show (((Z.sf + keep).toNat:Nat):Int) = _; omega
  have hkl:k <= (frs K).length:=by rw [<- hbs]; omega
  obtain ⟨j,hj1,hj2,hj3,tl,htl,hcut⟩:=cut_at K hK k hkl
  have s2:SX O B w2 sb { Z with bs:=Z.bs.take k,sf:=Z.sf + keep }:=s1.next (f2.mono fun b hb=>.inl (.inr hb)) (fun b hb=>.inl hb) (s1.slot.fr f2 fun a ha hs=>by cases ha; exact s.ap hs) D2 (s1.farm.fr f2 fun b hb=>.inr (.inr hb)) s.ap rfl rfl rfl
  have f02:Fr (SF sb Z) w w2:=(fr_ext h1).tr (f2.mono fun b hb=>.inl (.inr hb))
  have hW2:Ext W w2:=s.keep hW hWB f02
  have hl2:(Z.bs.take k).length = k:=by rw [List.length_take]; omega
  refine ⟨_,s2.cell (i:=6) rfl,fun w5 h5=>(dBytes_k (s2.ext h5).disk (by show (Z.bs.take k).length <= _; omega)).mono fun v w6 ⟨e6,q,m,hv,o6⟩=>⟨e6,q,_,m,hv,fun w10 h10=>?_⟩⟩
  have o10:=o6.ext h10
  have h210:=(h5.trans e6).trans h10
  refine (Cut_k2 q m (Z.bs.take k) w10 o10.cells o10.le.1 o10.le.2 (by omega) (gW.ext (hW2.trans h210))).mono fun v w11 ⟨e11,rs,pr,cr,n,hv,o11,hrs,hn0,hn1,htk,huniq⟩=>⟨e11,pr,_,cr,n,hv,fun w16 h16=>?_⟩
  have hrK:rs.map (·.x) = K.take j:=huniq (K.take j) tl (fun x hx=>hK x (List.mem_of_mem_take hx)) htl (by rw [hbs]; exact hcut)
  have hn:n.toNat = (frs (K.take j)).length:=by
    have:=congrArg List.length htk
    rw [List.length_take,hrK] at this
    omega
  have h216:=(h210.trans e11).trans h16
  refine (dNew_k w16).mono fun v w17 ⟨e17,db,hv,hdb,hD⟩=>⟨e17,ptr db,hv,ne,ne,?_⟩
  have s17:=s2.ext (h216.trans e17)
  have hB16:B <= w16.heap.size:=by have:=f02.size; have:=h216.size; omega
  have hsb16:sb < w16.heap.size:=(s2.ext h216).foot (.inl (.inl rfl)) |>.2
  refine store_own (off:=6) s17.slot rfl (by simp) (by simp) (by intro u hu; simp at hu; subst hu; rfl) (by simp) fun w19 o19 g19=>⟨ne,ne,ptr db,by rw [cell_pAdd]; exact o19.cells 6 _ rfl,by omega,hn0,by have hm:(Z.bs.take k).length <= m:=o10.le.1; omega,fun w21 h21=>?_⟩
  have f19:Fr (fun b=>b = sb) w17 w19:=fr_grew g19 fun a ha=>by cases ha; rfl
  have D21:=((hD B hB16).fr f19 fun b hb hs=>by
    rcases hb with hb | ⟨a,ha,_⟩
    · have:db = sb:=by rw [<- hb]; exact hs
      omega
    · cases ha).ext h21
  rw [pCut_zero,show (n - 0).toNat = n.toNat by omega]
  have hq21:Ints .u8 w21 q (bI (frs (K.take j))):=by
    have o17:=(((o10.ext e11).ext h16).ext e17)
    have o21:=(o17.fr f19 fun a ha hs=>by
      have h:=(o6.lt a ha).1
      have hs:a.block = sb:=hs
      have:=((s2.ext h5).foot (.inl (.inl rfl))).2
      omega).ext h21
    have:=ints_pre (j:=n.toNat) o21.cells
    rw [htk,hrK] at this
    exact this
  have hlen:((frs (K.take j)).length:Int) <= 100000:=by
    have:(frs (K.take j)).length <= k:=hj2
    omega
  refine (dWrite_k D21 (by simp) (by have:=e17.size; have:=f19.size; have:=h21.size; omega) q n.toNat _ (frs (K.take j)) hn.symm (by omega) hq21).mono fun v w22 hr=>?_
  rcases hr with ⟨hbad,_⟩ | ⟨_,hv,p2,c2,D22,f22,g22⟩
  · simp at hbad; omega
  rw [List.nil_append] at D22
  refine ⟨0,hv,ne,ne,?_⟩
  have hdbsb:db ≠ sb:=by omega
  have sl22:=(o19.ext h21).fr f22 fun a ha hs=>by
    cases ha
    rcases hs with hs | ⟨b,hb,_⟩
    · exact hdbsb hs.symm
    · cases hb
  refine ⟨ptr db,by rw [cell_pAdd]; exact sl22.cells 6 _ rfl,fun w25 h25=>?_⟩
  refine (dSync_k (D22.ext h25)).mono fun v w26 ⟨hv,D26,f26⟩=>⟨hv,ne,ne,(fun h=>ne (pAdd_none.1 h)),?_⟩
  have hp2:∀ b,dft db p2 b->w16.heap.size <= b:=fun b hb=>by
    rcases g22 b hb with h | h
    · rcases h with h | ⟨a,ha,_⟩
      · have h:b = db:=h; omega
      · cases ha
    · have:=e17.size; have:=f19.size; have:=h21.size; omega
  have sl26:=(sl22.ext h25).fr f26 fun a ha hs=>by
    cases ha
    have:=hp2 sb hs
    omega
  have cz:∀ (j:Nat) v,(zcs { Z with db:=db })[j]? = some v->Go.Sx.cell w26 (pAdd (ptr sb) 0) j = some v:=fun j v hv=>by
    rw [pAdd_zero]
    exact sl26.cells j v hv
  refine ⟨_,_,_,cz 0 _ rfl,_,cz 1 _ rfl,_,cz 2 _ rfl,_,cz 3 _ rfl,_,cz 4 _ rfl,fun w34 h34=>?_⟩
  have f1626:Fr (fun b=>b = sb) w16 w26:=by
    refine (((((fr_ext e17).tr f19).tr (fr_ext h21)).trans f22 fun b hb=>?_).tr (fr_ext h25)).trans f26 fun b hb=>.inr (hp2 b hb)
    rcases hb with hb | ⟨a,ha,_⟩
    · have hb:b = db:=hb
      exact .inr (by omega)
    · cases ha
  have f034:Fr (SF sb Z) w w34:=((f02.tr (fr_ext h216)).tr (f1626.mono fun b hb=>.inl (.inl hb))).tr (fr_ext h34)
  have f1134:Fr (fun b=>b = sb) w11 w34:=((fr_ext h16).tr f1626).tr (fr_ext h34)
  have hrl:rs.length <= 100000:=by
    have h1:rs.length = (K.take j).length:=by rw [<- hrK]; simp
    have h2:=len_frs (K.take j)
    omega
  have hsb10:sb < w10.heap.size:=by have:=((s2.ext h210).foot (.inl (.inl rfl))).2; exact this
  have o34:=(o11.fr f1134 fun a ha hs=>by
    have h:=(o11.lt a ha).1
    have hs:a.block = sb:=hs
    omega)
  refine (replay_k Z.hp Z.hc Z.L (by omega) (okht s.new.1) Z.pol pr cr rs (by omega) w34 (s.hs w34 (f034.mono fun b hb=>.inr hb)) (o34.recs fun _ _=>rfl) (fun r hr=>⟨(hrs r hr).1.wf,(hrs r hr).2 (fun b=>b = sb) (fun b hb=>by have hb:b = sb:=hb; omega) w34 f1134⟩)).mono fun v w35 ⟨e35,f,e,hv,hiff',hyes⟩=>⟨e35,f,e,hv,ne,ne,?_⟩
  obtain ⟨B2,fb,P2,F2,rfl,hB1,hB2,x35,hp⟩:=hyes s.new
  rw [hrK] at hp
  have sl35:=((sl26.ext h34).ext e35)
  have D35:=(D26.ext h34).ext e35
  refine store_own (off:=5) sl35 rfl (by simp [setAt]) (by simp) (by intro u hu; simp at hu; subst hu; rfl) (by simp) fun w38 o38 g38 w39 h39=>?_
  have f38:Fr (fun b=>b = sb) w35 w38:=fr_grew g38 fun a ha=>by cases ha; rfl
  have f039:Fr (SF sb Z) w w39:=((f034.tr (fr_ext e35)).tr (f38.mono fun b hb=>.inl (.inl hb))).tr (fr_ext h39)
  have hs34:w.heap.size <= w34.heap.size:=f034.size
  have hs16:w.heap.size <= w16.heap.size:=by have:=f02.size; have:=h216.size; omega
  have hft:∀ b,ft fb P2.jp b->w34.heap.size <= b/\b < w35.heap.size:=fun b hb=>⟨Nat.le_trans hB1 (x35.foot hb).1,(x35.foot hb).2⟩
  let Z':Zt:={ Z with fb:=fb,P:=P2,F:=F2,db:=db,p:=p2,c:=c2,bs:=frs (K.take j),sf:=(frs (K.take j)).length }
  have gS:∀ b,SF sb Z' b->SF sb Z b\/w.heap.size <= b:=fun b hb=>by
    rcases hb with (hb | hb) | hb
    · exact .inl (.inl (.inl hb))
    · exact .inr (by have:=hp2 b hb; omega)
    · exact .inr (by have:=(hft b hb).1; omega)
  have hs2:sb < w34.heap.size:=by have:=h216.size; have:=f1626.size; have:=h34.size; omega
  have x38:FXO (fun b=>O b\/sft sb Z' b) B w38 fb P2 F2:=by
    refine FXO.low (FXO.less (x35.fr f38 fun b hb=>?_) fun b hb=>?_) (by omega)
    · have hb:b = sb:=hb
      show b < B2
      omega
    · show b < B2
      rcases hb with hb | hb | hb
      · have:=s.olt hb; omega
      · have hb:b = sb:=hb
        omega
      · have:=(D26.foot hb).2
        have:=h34.size
        omega
  have D39:DX B w39 db p2 c2 (frs (K.take j)) (frs (K.take j)).length:=(D35.fr f38 fun b hb hs=>by
    have hs:b = sb:=hs
    have:=hp2 b hb
    omega).ext h39
  exact ⟨0,rfl,hiff,.inr ⟨rfl,j,Z',hj1,by omega,fun h=>by have:=hj3 h; omega,s.next f039 gS (o38.ext h39) D39 (x38.ext h39) (fun h=>by have:=hp2 sb h; omega) rfl rfl rfl,f039,gS,rfl,rfl,rfl,rfl,hp⟩⟩
end
end Go.Proofs.YtegephkpdlopaaaGreatDoor
set_option linter.unusedVariables false
set_option linter.unusedSimpArgs false
namespace Go.Proofs.YtegephkpdlopaaaGreatDoor
open Go.Sx Go.RowKit Go.ChangeShapes
structure SI (O:Nat->Prop) (B:Nat) (W w:World) (sb:Nat) (Z:Zt) (L:List Ht) (pol:Pol) (K:List Ev):Prop where
  sx:SX O B w sb Z
  ext:Ext W w
  hL:Z.L = L
  hpol:Z.pol = pol
  bs:Z.bs = frs K
  wh:∀ x ∈ K,Whole x
  pl:Plays (newF L pol) K Z.F
  sf:0 <= Z.sf/\Z.sf <= Z.bs.length
section
variable {O:Nat->Prop} {B sb:Nat} {W w:World} {Z:Zt} {L:List Ht} {pol:Pol} {K:List Ev}
theorem SI.to {w':World} (s:SI O B W w sb Z L pol K) (e:Ext w w'):SI O B W w' sb Z L pol K:=⟨s.sx.ext e,s.ext.trans e,s.hL,s.hpol,s.bs,s.wh,s.pl,s.sf⟩
theorem SI.new (s:SI O B W w sb Z L pol K):okNew L pol:=by have:=s.sx.new; rw [s.hL,s.hpol] at this; exact this
theorem SI.inv (s:SI O B W w sb Z L pol K):Inv Z.F:=plays_inv s.pl (new_inv s.new)
theorem SI.cap (s:SI O B W w sb Z L pol K) (hK:K.length <= 32):Z.bs.length <= 96352:=by rw [s.bs]; have:=frs_cap s.wh; omega
theorem SI.do_ (s:SI O B W w sb Z L pol K) (g:GB W) (hWB:W.heap.size <= B) (hB:B <= w.heap.size) (hK:K.length <= 32) (y:Ev) (pa:Option Addr) (ca:Nat) (pf:Option Addr) (cf:Nat) (hJ:IsJ W y.job pa ca pf) (hWf:WfJ y.job) (hn:nod y.job.ask <= 1048576) :
    FnP Tryz.prog F_safe_Safe_Do #[.pointer (ptr sb),evv y pa ca pf cf] w fun v w'=>∃ (e:Int) (Z':Zt) (K':List Ev),v = .int .i64 e/\SI O B W w' sb Z' L pol K'/\Fr (SF sb Z) w w'/\(∀ b,SF sb Z' b->SF sb Z b\/w.heap.size <= b)/\Z'.sf = Z.sf/\Did Z.F y Z'.F/\((e = 0 ↔ can Z.F y)/\DoE Z.F y e) /\
      ((¬ okE y/\K' = K)\/(okE y/\K' = K ++ [y])):=by
  refine (sDo_k s.sx s.inv (g.ext s.ext) (by have:=s.cap hK; omega) hB y pa ca pf cf (fun w'' f=>hJ.ext (s.sx.keep s.ext hWB f)) hWf hn).mono fun v w' ⟨e,Z',hv,sx,f,gr,h1,h2,h3,hd,hc,hb⟩=>?_
  have e':=s.sx.keep s.ext hWB f
  rcases hb with ⟨hno,hbs⟩ | ⟨hE,hbs⟩
  · refine ⟨e,Z',K,hv,⟨sx,e',h1.trans s.hL,h2.trans s.hpol,hbs.trans s.bs,s.wh,?_,by rw [h3,hbs]; exact s.sf⟩,f,gr,h3,hd,hc,.inl ⟨hno,rfl⟩⟩
    rcases hd with ⟨_,h⟩ | ⟨h,_⟩
    · rw [h]; exact s.pl
    · exact absurd h.1 hno
  · refine ⟨e,Z',K ++ [y],hv,⟨sx,e',h1.trans s.hL,h2.trans s.hpol,by rw [hbs,s.bs,frs_snoc],fun x hx=>?_,plays_snoc s.pl hd,by rw [h3,hbs,List.length_append]; have:=s.sf; omega⟩,f,gr,h3,hd,hc,.inr ⟨hE,rfl⟩⟩
    rcases List.mem_append.1 hx with hx | hx
    · exact s.wh x hx
    · simp at hx; subst hx; exact whole_ok hE hn
theorem SI.farm_ (s:SI O B W w sb Z L pol K) (g:GB W) (hK:K.length <= 33):FnP Tryz.prog F_safe_Safe_Farm #[.pointer (ptr sb)] w fun v w'=>Ext w w'/\∃ B2 fb P F,v = .pointer (ptr fb)/\w.heap.size <= B2/\B2 <= w'.heap.size/\FX B2 w' fb P F/\F = Z.F:=by
  refine (sFarm_k s.sx (g.ext s.ext) s.bs s.wh (by rw [s.bs]; have:=frs_cap s.wh; omega)).mono fun v w' ⟨e,B2,fb,P,F,hv,h1,h2,x,hp⟩=>⟨e,B2,fb,P,F,hv,h1,h2,x,?_⟩
  rw [s.hL,s.hpol] at hp
  exact plays_one hp s.pl
end
def planE:Ev:=⟨3,zeroJ,0,0,false⟩
theorem planE_ok:okE planE:=.inr (.inr (.inl ⟨rfl,rfl,rfl,rfl,rfl⟩))
theorem safes_k (w:World) (g:GB w):FnP Tryz.prog F_shiftbellkeep_safes #[] w fun v w'=>Ext w w'/\v = .bool true:=by
  refine ok_shiftbellkeep_safes w _ fun w0 h0=>(bare_k w0).mono fun v w1 ⟨e1,hv⟩=>⟨e1,none,0,0,1,1,1,0,hv,fun w9 h9=>?_⟩
  have h09:=(h0.trans e1).trans h9
  refine (sNew_k none 0 [] (by simp) (by simp) barePol w9 (fun i h hi=>(by simp at hi))).mono fun v w10 ⟨e10,f,e,hv,hiff,_,hyes⟩=>⟨e10,f,e,hv,fun hgood w13 h13=>?_,fun hbad=>?_⟩
  · obtain ⟨sb,Z,rfl,hL,hpol,hF,hbs,hsf,s10⟩:=hyes hgood.1
    have s13:SI (fun b=>b < w9.heap.size) w9.heap.size w9 w13 sb Z [] barePol []:=⟨s10.ext h13,e10.trans h13,hL,hpol,hbs,by simp,hF,by rw [hsf,hbs]; simp⟩
    refine (s13.do_ (g.ext h09) (Nat.le_refl _) (Nat.le_trans e10.size h13.size) (by simp) planE none 0 none 0 (zeroJ_at w9) zeroJ_wf (by decide)).mono fun v w14 ⟨e2,Z',K',hv,s14,f14,_,_,_,hc,hor⟩=>⟨e2,hv,fun hz w16 h16=>?_,fun hne=>?_⟩
    · have s16:=s14.to h16
      have hK':K' = [planE]:=by
        rcases hor with ⟨h,_⟩ | ⟨_,h⟩
        · exact absurd planE_ok h
        · exact h
      have hl:Z'.bs.length = 11:=by
        rw [s14.bs,hK']
        rfl
      refine (sBytes_k s16.sx (by omega)).mono fun v w17 ⟨e17,q,m,hv,_⟩=>⟨e17,q,_,m,hv,fun w21 h21=>⟨(h09.trans s16.ext).trans (e17.trans h21),?_⟩⟩
      rw [hl]; rfl
    · exact absurd (hc.1.2 ⟨planE_ok,fun h=>absurd h (by decide),fun h=>absurd h (by decide),fun h=>absurd h (by decide),fun h=>absurd h (by decide)⟩) hne
  · have hz:=hiff.2 bare_ok
    obtain ⟨sb,Z,rfl,_⟩:=hyes hz
    rcases hbad with h | h
    · exact absurd hz h
    · exact absurd h (ptr_ne sb)
def BulkE (W:World) (p:Option Addr) (L:List EvR):Prop:=L.length <= 1048576/\(Recs 15 encR W p L->(∀ r ∈ L,IsT W r.x.job.ask r.pa r.ca)->∀ r ∈ L,nod r.x.job.ask <= 1048576)
theorem bulkE {H:Type} {enc:TypeId × Value->H} {w:World} {n:Nat} {p:Option Addr} {c:Nat} {L:List EvR} {d:DataW H} {ps:List MemPlace}
    (h:DataW.trod enc Tryz.prog w 0 (fun _=>true) true n T_sl_Event [.slice p L.length c] = some (d,ps)) (hd:Rows.uptoBulk d <= 1048576):BulkE w p L :=
  ⟨Nat.le_trans (slice_bulk (e:=T_Event) (by kernel_rfl) h) hd,fun hR hT r hr=>Nat.le_trans (evs_bulk hR hT h r hr) hd⟩
end Go.Proofs.YtegephkpdlopaaaGreatDoor
set_option linter.unusedVariables false
set_option linter.unusedSimpArgs false
namespace Go.Proofs.YtegephkpdlopaaaGreatDoor
open Go.Sx Go.RowKit Go.ChangeShapes
theorem SX.go {O O' S:Nat->Prop} {B sb:Nat} {w w9:World} {Z:Zt} (s:SX O B w sb Z) (f:Fr S w w9) (hS:∀ b,S b->O b) (h:∀ b,O' b->O b\/(w.heap.size <= b/\b < w9.heap.size)):SX O' B w9 sb Z:=by
  have s9:=s.fr f hS
  refine ⟨s9.slot,s9.disk,s.farm.go f (fun b hb=>.inl (hS b hb)) fun b hb=>?_,fun w'' k=>?_,s.ap,s.new,fun b hb hs=>?_⟩
  · rcases hb with hb | hb
    · exact (h b hb).imp .inl fun h=>h
    · exact .inl (.inr hb)
  · refine s.hs w'' ((f.mono fun b hb=>.inl (hS b hb)).trans k fun b hb=>?_)
    rcases hb with hb | hb
    · exact (h b hb).imp .inl fun h=>h.1
    · exact .inl (.inr hb)
  · rcases h b hb with h | h
    · exact s.odis b h hs
    · have:=(s.foot (.inl hs)).2; omega
theorem SI.go {O O' S:Nat->Prop} {B sb:Nat} {W w w9:World} {Z:Zt} {L:List Ht} {pol:Pol} {K:List Ev} (s:SI O B W w sb Z L pol K) (f:Fr S w w9) (hS:∀ b,S b->O b) (h:∀ b,O' b->O b\/(w.heap.size <= b/\b < w9.heap.size)) (e:Ext W w9):SI O' B W w9 sb Z L pol K :=
  ⟨s.sx.go f hS h,e,s.hL,s.hpol,s.bs,s.wh,s.pl,s.sf⟩
end Go.Proofs.YtegephkpdlopaaaGreatDoor
set_option linter.unusedVariables false
set_option linter.unusedSimpArgs false
namespace Go.Proofs.YtegephkpdlopaaaGreatDoor
open Go.Sx Go.RowKit Go.ChangeShapes
theorem frs_mono (K:List Ev) {a b:Nat} (h:a <= b):(frs (K.take a)).length <= (frs (K.take b)).length:=by
  have:K.take a = (K.take b).take a:=by rw [List.take_take,Nat.min_eq_left h]
  rw [this]
  exact frs_le _
theorem SI.sync_ {O:Nat->Prop} {B sb:Nat} {W w:World} {Z:Zt} {L:List Ht} {pol:Pol} {K:List Ev} (s:SI O B W w sb Z L pol K) (hWB:W.heap.size <= B):FnP Tryz.prog F_safe_Safe_Sync #[.pointer (ptr sb)] w fun v w'=>v = .tuple #[]/\SI O B W w' sb { Z with sf:=Z.bs.length } L pol K/\Fr (SF sb Z) w w' :=
  (sSync_k s.sx).mono fun v w' ⟨hv,sx,f⟩=>⟨hv,⟨sx,s.sx.keep s.ext hWB f,s.hL,s.hpol,s.bs,s.wh,s.pl,by show (0:Int) <= _/\_; simp⟩,f⟩
end Go.Proofs.YtegephkpdlopaaaGreatDoor
set_option linter.unusedVariables false
set_option linter.unusedSimpArgs false
namespace Go.Proofs.YtegephkpdlopaaaGreatDoor
open Go.Sx Go.RowKit Go.ChangeShapes
abbrev sO (n gb:Nat) (jp:Option Addr) (b:Nat):Prop:=b < n\/ft gb jp b
abbrev fO (n sb:Nat) (Z:Zt) (b:Nat):Prop:=b < n\/SF sb Z b
structure Two (n B2:Nat) (W w:World) (sb gb:Nat) (Z:Zt) (P:Pl) (L:List Ht) (pol:Pol) (K:List Ev):Prop where
  s:SI (sO n gb P.jp) n W w sb Z L pol K
  f:FXO (fO n sb Z) B2 w gb P Z.F
theorem Two.to {n B2:Nat} {W w w':World} {sb gb:Nat} {Z:Zt} {P:Pl} {L:List Ht} {pol:Pol} {K:List Ev} (t:Two n B2 W w sb gb Z P L pol K) (e:Ext w w'):Two n B2 W w' sb gb Z P L pol K:=⟨t.s.to e,t.f.ext e⟩
theorem Two.by_s {n B2:Nat} {W w w':World} {sb gb:Nat} {Z Z':Zt} {P:Pl} {L:List Ht} {pol:Pol} {K K':List Ev} (t:Two n B2 W w sb gb Z P L pol K) (s':SI (sO n gb P.jp) n W w' sb Z' L pol K') (f:Fr (SF sb Z) w w') (g:∀ b,SF sb Z' b->SF sb Z b\/w.heap.size <= b):FXO (fO n sb Z') B2 w' gb P Z.F :=
  t.f.go f (fun b hb=>.inr hb) fun b hb=>by
    rcases hb with hb | hb
    · exact .inl (.inl hb)
    · rcases g b hb with h | h
      · exact .inl (.inr h)
      · exact .inr ⟨h,(s'.sx.foot hb).2⟩
theorem same_law (W:World) (g:GB W) (p:Option Addr) (c:Nat) (L:List Ht) (h63:(L.length:Int) <= 9223372036854775807) (hO:∀ h ∈ L,HtOk h) (hL:HsAt W p L) (pol:Pol) (q:Option Addr) (d:Nat) (E:List EvR) (hE:Recs 15 encR W q E) (hEw:∀ r ∈ E,(WfJ r.x.job/\IsJ W r.x.job r.pa r.ca r.pf)/\nod r.x.job.ask <= 1048576)
    (hlE:E.length <= 1048576) (at_:Int) :
    FnP Tryz.prog F_shiftbellkeep_SafeSame #[.agg #[.slice p L.length c,.int .i64 pol.first,.int .i64 pol.times,.int .i64 pol.most,.int .i64 pol.tries],.slice q E.length d,.int .i64 at_] W fun v W'=>v = .bool true/\Ext W W':=by
  refine ok_shiftbellkeep_SafeSame p L.length c pol.first pol.times pol.most pol.tries q E.length d at_ W _ fun b0 hb0 w1 h1=>(safes_k w1 (g.ext h1)).mono fun v w2 ⟨e2,hv⟩=>⟨e2,true,hv,fun h=>(by cases h),fun _ w4 x4=>?_⟩
  have h4:=extB_ext x4
  have lt4:=x4.lt b0 (by simp)
  refine (sNew_k p c L h63 hO pol w4 (hL.ext h4)).mono fun v w5 ⟨e5,f,e,hv,hiff,hno,hyes⟩=>⟨e5,f,e,hv,fun hbad w8 h8=>⟨?_,(h4.trans e5).trans h8⟩,fun hgood w8 x8=>?_⟩
  · congr 1
    by_cases he:e = 0
    · obtain ⟨sb,Z,rfl,_⟩:=hyes he
      rcases hbad with (h | h) | h
      · exact absurd he h
      · exact absurd h (ptr_ne sb)
      · simp [ptr,h]
    · rw [hno he]
      simp [he]
  obtain ⟨sb,Z,rfl,hZL,hZp,hZF,hbs,hsf,s5⟩:=hyes hgood.1.1
  have hok:=hiff.1 hgood.1.1
  have hlen:=hgood.2
  have h8:=extB_ext x8
  have hW8:=(h4.trans e5).trans h8
  refine (played_k p c L h63 hO pol none 0 [] (by simp) w8 (hL.ext hW8) (fun i x hx=>(by simp at hx)) (by simp)).mono fun v w9 ⟨e9,f,hv,hnone,hsome⟩=>⟨e9,f,hv,fun h=>absurd hok (hnone.1 h),fun _=>?_⟩
  obtain ⟨B2,gb,P2,F2,rfl,hB1,hB2,xg,hpl⟩:=hsome hok
  have hF2:F2 = newF L pol:=hpl
  have hs58:w5.heap.size <= w8.heap.size:=h8.size
  have hs45:w4.heap.size <= w5.heap.size:=e5.size
  have hgft:∀ b,ft gb P2.jp b->w8.heap.size <= b/\b < w9.heap.size:=fun b hb=>⟨Nat.le_trans hB1 (xg.foot hb).1,(xg.foot hb).2⟩
  have S5:SI (fun b=>b < w4.heap.size) w4.heap.size W w5 sb Z L pol []:=⟨s5,h4.trans e5,hZL,hZp,hbs,by simp,hZF,by rw [hsf,hbs]; simp⟩
  have t9:Two w4.heap.size B2 W w9 sb gb Z P2 L pol []:=⟨S5.go (fr_ext (S:=fun _=>False) (h8.trans e9)) (fun _ h=>h.elim) (fun b hb=>by
    rcases hb with hb | hb
    · exact .inl hb
    · exact .inr ⟨by have:=(hgft b hb).1; omega,(hgft b hb).2⟩) (hW8.trans e9),by
    rw [hZF,<- hF2]
    refine xg.less fun b hb=>?_
    show b < B2
    rcases hb with hb | hb
    · omega
    · have:=(s5.foot hb).2; omega⟩
  refine ⟨fun k w'=>0 <= k/\k <= E.length/\w9.heap.size <= w'.heap.size/\∃ Z P K,(K.length:Int) <= k/\Two w4.heap.size B2 W w' sb gb Z P L pol K,fun k _=>(E.length - k).toNat,⟨by omega,by omega,Nat.le_refl _,Z,P2,[],by simp,t9⟩,?_⟩
  rintro k w13 ⟨hk0,hk1,hs13,Z,P,K,hKl,t13⟩
  refine ⟨fun hlt=>?_,fun hge w14 x14=>?_⟩
  · obtain ⟨r,hr⟩:∃ r,E[k.toNat]? = some r:=⟨_,List.getElem?_eq_getElem (by omega)⟩
    have gE:∀ (j:Nat) u,(encR r)[j]? = some u->Go.Sx.cell w13 (pIdx q k 15) j = some u:=fun j u hu=>ext_cell t13.s.ext (hE.at hk0 hr hu)
    have g0:=gE 0 _ rfl
    obtain ⟨⟨hW,hJ⟩,hn⟩:=hEw r (List.mem_of_getElem? hr)
    refine ⟨fun h=>cell_p g0 (pIdx_none.2 h),hk0,hlt,cell_p g0,_,gE 0 _ rfl,_,gE 1 _ rfl,_,gE 2 _ rfl,_,gE 3 _ rfl,_,gE 4 _ rfl,_,gE 5 _ rfl,_,gE 6 _ rfl,_,gE 7 _ rfl,_,gE 8 _ rfl,_,gE 9 _ rfl,_,_,_,gE 10 _ rfl,_,_,_,gE 11 _ rfl,_,gE 12 _ rfl,_,gE 13 _ rfl,_,gE 14 _ rfl,fun b33 hb33=>?_⟩
    have hbn:∀ b ∈ [b0,b33],b < w4.heap.size\/w13.heap.size <= b:=fun b hb=>by
      simp at hb
      rcases hb with rfl | rfl
      · exact .inl lt4
      · exact .inr hb33
    have one:∀ w37,ExtB [] [b0,b33] w13 w37->FnP Tryz.prog F_safe_Safe_Do #[.pointer (ptr sb),evv r.x r.pa r.ca r.pf r.cf] w37 fun v38 w38=>Kept [b0,b33] w37 w38/\∃ t39:Int,v38 = .int .i64 t39/\∀ w40,ExtB [] [b0,b33] w38 w40->FnP Tryz.prog F_farm_Farm_Do #[.pointer (ptr gb),evv r.x r.pa r.ca r.pf r.cf] w40 fun v41 w41=>Kept [b0,b33] w40 w41/\∃ t42:Int,v41 = .int .i64 t42 /\
        (decide (t39 ≠ t42) = false/\w9.heap.size <= w41.heap.size/\(∀ b ∈ [b0,b33],b < w41.heap.size)/\∃ Z P K,(K.length:Int) <= k + 1/\Two w4.heap.size B2 W w41 sb gb Z P L pol K/\∀ b ∈ [b0,b33],¬ SF sb Z b):=by
      intro w37 x37
      have h37:=extB_ext x37
      have t37:=t13.to h37
      have hs37:=h37.size
      have lt37:∀ b ∈ [b0,b33],b < w37.heap.size:=x37.lt
      refine (t37.s.do_ g h4.size (by omega) (by omega) r.x r.pa r.ca r.pf r.cf hJ hW hn).mono fun v w38 ⟨e1,Z',K',hv,s38,f38,gr38,_,hd,hc,hor⟩=>⟨f38.kept fun b hb=>⟨lt37 b hb,fun hf=>?_⟩,e1,hv,fun w40 x40=>?_⟩
      · have a:=t13.s.sx.foot hf
        rcases hbn b hb with h | h <;> omega
      have h40:=extB_ext x40
      have fx40:=(t37.by_s s38 f38 gr38).ext h40
      have s40:=s38.to h40
      have I:=t37.s.inv
      have hs40:=h40.size
      have hs38:=f38.size
      refine (Do_k fx40 I.i0.pre I.i0.hs r.x r.pa r.ca r.pf r.cf (hJ.ext s40.ext) hW (by omega)).mono fun v w41 ⟨e3,P',F',hv,⟨_,hD⟩,hd',fx41,f41,gr41⟩=>⟨f41.kept fun b hb=>⟨by have:=lt37 b hb; omega,fun hf=>?_⟩,e3,hv,?_,by have:=f41.size; omega,fun b hb=>by have:=lt37 b hb; have:=f41.size; omega,Z',P',K',?_,⟨?_,?_⟩,fun b hb hf=>?_⟩
      · have a:=t13.f.foot hf
        rcases hbn b hb with h | h <;> omega
      · rw [decide_eq_false_iff_not]
        exact fun h=>h (hc.2.one hD)
      · rcases hor with ⟨_,rfl⟩ | ⟨_,rfl⟩
        · omega
        · rw [List.length_append]; simp; omega
      · refine s40.go f41 (fun b hb=>.inr hb) (fun b hb=>?_) (f41.ext s40.ext fun b hb=>?_)
        · rcases hb with hb | hb
          · exact .inl (.inl hb)
          · rcases gr41 b hb with h | h
            · exact .inl (.inr h)
            · exact .inr ⟨h,(fx41.foot hb).2⟩
        · have:=(fx40.foot hb).1
          have:=hW8.size
          omega
      · rw [did_one hd hd']
        exact fx41
      · rcases gr38 b hf with h | h
        · have a:=t13.s.sx.foot h
          rcases hbn b hb with h | h <;> omega
        · have:=lt37 b hb; omega
    refine ⟨fun b w41=>b = false/\w9.heap.size <= w41.heap.size/\(∀ b ∈ [b0,b33],b < w41.heap.size)/\∃ Z P K,(K.length:Int) <= k + 1/\Two w4.heap.size B2 W w41 sb gb Z P L pol K/\∀ b ∈ [b0,b33],¬ SF sb Z b,⟨one,one⟩,?_⟩
    rintro k35 w36 ⟨rfl,hs36,lt36,Z',P',K',hKl',t36,hnot⟩
    refine ⟨fun h=>(by cases h),fun _=>⟨fun hat w37 x37=>?_,fun hat=>⟨i64 (by omega),⟨by omega,by omega,hs36,Z',P',K',hKl',t36⟩,by simp only []; omega⟩⟩⟩
    have h37:=extB_ext x37
    have t37:=t36.to h37
    refine (t37.s.sync_ h4.size).mono fun v w38 ⟨hv,s38,f38⟩=>⟨f38.kept fun b hb=>⟨x37.lt b hb,hnot b hb⟩,hv,i64 (by omega),⟨by omega,by omega,by have:=h37.size; have:=f38.size; omega,_,P',K',hKl',⟨s38,t37.by_s s38 f38 fun b hb=>.inl hb⟩⟩,by simp only []; omega⟩
  · have h14:=extB_ext x14
    have t14:=t13.to h14
    have I:=t13.s.inv
    have hK24:K.length <= 24:=by omega
    refine (t14.s.farm_ g (by omega)).mono fun v w15 ⟨e15,B3,hb,P3,F3,hv,_,_,xh,hF3⟩=>⟨e15,ptr hb,hv,fun w17 h17=>?_⟩
    subst hF3
    have t15:=t14.to e15
    refine (sameFarm_k (t15.f.ext h17) (xh.ext h17) I.i0.hs).mono fun v w18 ⟨e18,hv⟩=>⟨e18,true,hv,fun h=>(by cases h),fun _ w20 x20=>?_⟩
    have h20:=extB_ext x20
    have t20:=t15.to h20
    have hcap:=t20.s.cap (by omega)
    have kp:∀ {w9 w10:World} {S:Nat->Prop},w20.heap.size <= w9.heap.size->Fr S w9 w10->(∀ b,S b->SF sb Z b)->Kept [b0] w9 w10:=fun hlt f hS=>f.kept fun b hb=>by
      simp at hb; subst hb
      refine ⟨by have:=x20.lt b (by simp); omega,fun hf=>?_⟩
      have:=(t13.s.sx.foot (hS b hf)).1
      omega
    refine (sBytes_k t20.s.sx (by omega)).mono fun v w21 ⟨e21,qa,ma,hv,oa⟩=>⟨e21,qa,_,ma,hv,fun w25 x25=>?_⟩
    have h25:=extB_ext x25
    have t25:=(t20.to e21).to h25
    have hs25:w20.heap.size <= w25.heap.size:=Nat.le_trans e21.size h25.size
    refine (t25.s.sync_ h4.size).mono fun v w26 ⟨hv,s26,f26⟩=>⟨kp hs25 f26 fun b hb=>hb,hv,fun w27 x27=>?_⟩
    have h27:=extB_ext x27
    have s27:=s26.to h27
    have fx27:=(t25.by_s s26 f26 fun b hb=>.inl hb).ext h27
    have hs27:w25.heap.size <= w27.heap.size:=Nat.le_trans f26.size h27.size
    refine (sCrash_k s27.sx (g.ext s27.ext) s27.ext h4.size g s27.bs s27.wh (by show Z.bs.length <= _; omega) s27.sf (by have:=t13.s.ext.size; have:=h14.size; have:=e15.size; have:=h20.size; omega) 0 (i64 (by omega))).mono fun v w28 ⟨e,hv,hiff',hcase⟩=>?_
    have hz:e = 0:=hiff'.2 ⟨Int.le_refl _,by show (0:Int) <= (Z.bs.length:Int) - (Z.bs.length:Int); omega⟩
    rcases hcase with ⟨hne,_⟩ | ⟨_,j,Z',hj1,hj2,hj3,s28,f28,gr28,hL',hp',hbs',hsf',hpl'⟩
    · exact absurd hz hne
    have hjK:K.take j = K:=by
      rcases Nat.lt_or_ge j K.length with h | h
      · have h3:=hj3 h
        have h4:=frs_mono K (show j + 1 <= K.length by omega)
        rw [List.take_length,<- t13.s.bs] at h4
        have h3:(Z.bs.length:Int) + 0 < ((frs (K.take (j + 1))).length:Int):=h3
        omega
      · exact List.take_of_length_le h
    rw [hjK] at hbs' hpl'
    have hW28:Ext W w28:=s27.sx.keep s27.ext h4.size f28
    have s28i:SI (sO w4.heap.size gb P.jp) w4.heap.size W w28 sb Z' L pol K:=⟨s28,hW28,hL'.trans s27.hL,hp'.trans s27.hpol,hbs',t13.s.wh,by rw [<- t13.s.hL,<- t13.s.hpol]; exact hpl',by rw [hsf']; omega⟩
    have hFF:Z'.F = Z.F:=plays_one s28i.pl t13.s.pl
    have fx28:FXO (fO w4.heap.size sb Z') B2 w28 gb P Z.F:=fx27.go f28 (fun b hb=>.inr hb) fun b hb=>by
      rcases hb with hb | hb
      · exact .inl (.inl hb)
      · rcases gr28 b hb with h | h
        · exact .inl (.inr h)
        · exact .inr ⟨h,(s28.foot hb).2⟩
    refine ⟨kp (by omega) f28 fun b hb=>hb,e,hv,fun _ w30 x30=>?_,fun h=>absurd hz h⟩
    have h30:=extB_ext x30
    have s30:=s28i.to h30
    refine (sBytes_k s30.sx (by rw [hbs',<- t13.s.bs]; omega)).mono fun v w31 ⟨e31,qb,mb,hv,ob⟩=>⟨e31,qb,_,mb,hv,fun w35 h35=>?_⟩
    have oa30:Own w20.heap.size w30 T_uint8 1 qa Z.bs.length ma ((bI Z.bs).map (.int .u8)):=by
      have hdis:∀ a,qa = some a->¬ SF sb Z a.block:=fun a ha hs=>by
        have:=(oa.lt a ha).1
        have:=(t20.s.sx.foot hs).2
        omega
      exact ((((oa.ext h25).fr f26 hdis).ext h27).fr f28 hdis).ext h30
    have hbb:Z'.bs = Z.bs:=hbs'.trans t13.s.bs.symm
    refine (Equal_k w35 rfl rfl ((oa30.ext e31).ext h35).cells (ob.ext h35).cells).mono fun v w36 ⟨e36,hv⟩=>⟨e36,_,hv,fun _ w38 x38=>?_,fun hf=>?_⟩
    · have h38:=extB_ext x38
      have s38:=(s30.to e31).to h38
      refine (s38.farm_ g (by omega)).mono fun v w39 ⟨e39,B4,hb4,P4,F4,hv,_,_,xk,hF4⟩=>⟨e39,ptr hb4,hv,fun w41 h41=>?_⟩
      rw [hFF] at hF4
      subst hF4
      exact (sameFarm_k (((((fx28.ext h30).ext e31).ext h38).ext e39).ext h41) (xk.ext h41) I.i0.hs).mono fun v w42 ⟨e42,hv⟩=>⟨e42,true,hv,fun w44 h44=>⟨rfl,(s38.ext.trans e39).trans h44⟩⟩
    · exfalso
      rw [decide_eq_false_iff_not] at hf
      exact hf hbb.symm
theorem same_args (W:World) (g:GB W) {p:Option Addr} {l c:Nat} (hl:SlcArg Tryz.prog W T_Host p l c) (x1 x2 x3 x4:Int) {q:Option Addr} {el d:Nat} (hq:SlcArg Tryz.prog W T_Event q el d) (at_:Int) (hb1:∀ L:List EvR,L.length = el->BulkE W q L) :
    FnP Tryz.prog F_shiftbellkeep_SafeSame #[.agg #[.slice p l c,.int .i64 x1,.int .i64 x2,.int .i64 x3,.int .i64 x4],.slice q el d,.int .i64 at_] W fun v W'=>v = .bool true/\Ext W W':=by
  obtain ⟨L,rfl,h63,hO,hL⟩:=hosts_arg hl
  obtain ⟨E,rfl,hE,hEw⟩:=evs_arg hq
  obtain ⟨l1,n1⟩:=hb1 E rfl
  exact same_law W g p c L h63 hO hL ⟨x1,x2,x3,x4⟩ q d E hE (fun r hr=>⟨hEw r hr,n1 hE (fun r hr=>(hEw r hr).2.1) r hr⟩) l1 at_
end Go.Proofs.YtegephkpdlopaaaGreatDoor
