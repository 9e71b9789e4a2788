/- The framework, the program's texts and what is shown of them: part 2. -/
import Derived.Test.YtcceeahmcecbnaaGreatDoorWTopJournalUpto1
import Derived.WalkKit
import Derived.ProofKit
import Derived.OpenShut
import Derived.JoinedCond
import Derived.Laws.AppendOwn
import Derived.Laws.OwnMore
import Derived.Great.BuildSlice
import Derived.Laws.StructEq
import Derived.LaidLaws
import Derived.LaidHandle
import Derived.LaidMore
import Derived.SevenTiedAt
import Derived.JoinedOf
import Derived.FnData
import Derived.Test.YtcceeahmcecbnaaGreatDoorRows
set_option linter.unusedVariables false
set_option linter.unusedSimpArgs false
set_option maxRecDepth 100000
namespace Go.Sx
open RowKit
variable {P:Program} {Q:Value->World->Prop}
def zz4:Ex->Exit
 |.normal => .normal
 |.exit id => .exit id
 |.ret => .ret
theorem znN:∀(sl:List (Nat×Bool×Nat)) (cs:List (Sc (sem P Q))),zaI (zd1 sl cs).1=zaI sl
 |[],cs => rfl
 |(i,agg,n)::r,cs => by
  have ih:=znN r (zbB n cs)
  cases agg<;>cases cs<;>simp only[zd1,zaI,List.map_cons] at ih ⊢<;>rw[<-ih]
theorem zKa{p:Nat->Prop}(h:∃n,p n):∃n,p n/\∀k,p k->n<=k:=by
 obtain⟨n,hn⟩:=h
 induction n using Nat.strongRecOn with
 |_ n ih =>
  by_cases hl:∃k,k<n/\p k
  ·obtain⟨k,hk,hp⟩:=hl;exact ih k hk hp
  ·exact⟨n,hn,fun k hk=>Nat.le_of_not_lt fun hlt=>hl ⟨k,hlt,hk⟩⟩
noncomputable def zpu (p:Nat->Prop):Nat:=by
 classical exact if h:∃n,p n then Classical.choose (zKa h) else 0
theorem znO{p:Nat->Prop}(h:∃n,p n):p (zpu p)/\∀k,p k->zpu p<=k:=by
 have:zpu p=Classical.choose (zKa h):=by unfold zpu;simp[h]
 rw[this];exact Classical.choose_spec (zKa h)
section
variable {cfg:Cfg} {ro:Ro (sem P Q)} {st st':St (sem P Q)} {a a':Act} {w w':World}
theorem zkz:∀{bl:List (Nat×Nat)} {l:List (Sc (sem P Q))},zmH ro st bl=some l->∀j n,(j,n)∈bl->∃b,ro.blk st j=some b
 |[],l,_,j,n,h => by cases h
 |(i,m)::r,l,h,j,n,hm => by
  unfold zmH at h
  split at h
  ·rename_i b2 l' hb2 hr
   rcases List.mem_cons.1 hm with hm|hm
   ·obtain⟨rfl,rfl⟩:=Prod.mk.inj hm;exact⟨b2,hb2⟩
   ·exact zkz hr j n hm
  ·cases h
theorem zF8(hw:zb7 ro st w)(j:Nat):ro.blk (zbE st st') j=(zaX cfg ro st).blk st' j:=by
 unfold Ro.blk
 rw[zbg hw]
 unfold zbE
 simp only[zkD,zkE (fun i=>!zhg (zaI st'.bl) i)]
 cases hl:zdD st'.bl j with
 |some b => rfl
 |none =>
  have:zhg (zaI st'.bl) j=false:=by
   cases hm:zhg (zaI st'.bl) j
   ·rfl
   ·exact absurd ((zcI _ _).1 hm) (zfB.1 hl)
  simp only[this,Bool.not_false,if_true]
  unfold Ro.blk
  split<;>rfl
theorem zze{i:Nat}{e:Ent (sem P Q)}(hc0:zt2 cfg ro st a)(h:ro.get (zbE st st') i=some e) :
  (zaX cfg ro st).get st' i=some e\/(¬i<cfg.N/\ro.get st i=some e):=by
 have hcase:zdD st'.ov i=some (some e)\/(zdD st'.ov i=none/\ro.get st i=some e):=by
  unfold Ro.get zbE at h
  simp only[zkD,zkE (fun i=>!zhg (zaI st'.ov) i)] at h
  cases hl:zdD st'.ov i with
  |some x => rw[hl] at h;simp only at h;exact .inl (by rw[h])
  |none =>
   rw[hl] at h
   have:zhg (zaI st'.ov) i=false:=by
    cases hm:zhg (zaI st'.ov) i
    ·rfl
    ·exact absurd ((zcI _ _).1 hm) (zfB.1 hl)
   simp only[this,Bool.not_false,if_true] at h
   refine .inr ⟨rfl,?_⟩
   unfold Ro.get
   exact h
 rcases hcase with hl|⟨hl,hg⟩
 ·refine .inl ?_
  unfold Ro.get;rw[hl]
 ·by_cases hi:i<cfg.N
  ·refine .inl ?_
   unfold Ro.get;rw[hl]
   obtain⟨v,key⟩:=e
   have hk:=(hc0.fr i _ hg).1
   simp only at hk
   subst hk
   simp only
   rw[zgy.2 ⟨hi,hg⟩];rfl
  ·exact .inr ⟨hi,hg⟩
theorem zpY{i:Nat}(hs:a.tmps.size=cfg.N)(hi:¬i<cfg.N):a.tmps.getD i undef=undef:=by
 unfold Array.getD;rw[dif_neg (by omega)]
theorem zmF(hc0:zt2 cfg ro st a)(hs0:zei ro st)(hw0:zb7 ro st w)(hc:zt2 cfg (zaX cfg ro st) st' a')(hs:zei (zaX cfg ro st) st')(hw:zb7 (zaX cfg ro st) st' w') :
  zt2 cfg ro (zbE st st') a'/\zei ro (zbE st st')/\zb7 ro (zbE st st') w':=by
 have hb:∀j,ro.blk (zbE st st') j=(zaX cfg ro st).blk st' j:=zF8 hw0
 refine⟨⟨hc.size,hc.defers,fun i e he=>?_⟩,fun i e he=>?_,?_⟩
 ·rcases zze hc0 he with h|⟨hi,h⟩
  ·exact hc.fr i e h
  ·obtain⟨h1,h2⟩:=hc0.fr i e h
   refine⟨h1,?_⟩
   rw[<-h2,zpY hc.size hi,zpY hc0.size hi]
 ·have key:∀u,zk5 (zaX cfg ro st) st' u->zk5 ro (zbE st st') u:=by
   intro u hu
   cases u with
   |one v =>
    cases v with
    |agg l => exact hu
    |sc x =>
     cases x with
     |loc j n off => exact⟨hu.1,fun b hbb => hu.2 b (by rw[<-hb];exact hbb)⟩
     |_ => trivial
   |tup l => exact hu
   |undef => trivial
  rcases zze hc0 he with h|⟨hi,h⟩
  ·exact key _ (hs i e h)
  ·obtain⟨h1,h2⟩:=hc0.fr i e h
   rw[zpY hc0.size hi] at h2
   have h3:=hs0 i e h
   revert h2 h3
   generalize e.1=u
   intro h2 h3
   cases u with
   |one v =>
    cases v with
    |agg l => exact h3
    |sc x =>
     cases x with
     |loc j n off => exact absurd h2 (by simp[SL.toV,SV.toV,Sc.toV,undef])
     |_ => trivial
   |tup l => exact h3
   |undef => trivial
 ·have hdn:ro.dn (zbE st st')=(zaX cfg ro st).dn st':=by
   unfold Ro.dn
   have:(zbE st st').dirty=st'.dirty:=rfl
   rw[this];congr 1;funext j;rw[hb]
  refine⟨by rw[hdn];exact hw.but,fun j b h=>hw.bk j b (by rw[<-hb];exact h),fun j b h=>hw.lt j b (by rw[<-hb];exact h),
   fun i j b c h1 h2=>hw.ord i j b c (by rw[<-hb];exact h1) (by rw[<-hb];exact h2),fun j b h=>hw.ax j b (by rw[<-hb];exact h),fun j b h=>hw.nol j b (by rw[<-hb];exact h),fun j b b0 h0 h=>?_⟩
  have h1:∃b1,ro.blk st j=some b1:=by
   unfold Ro.blk
   cases hl:zdD st.bl j with
   |some x => exact⟨x,rfl⟩
   |none => exact⟨b0,h0⟩
  obtain⟨b1,h1⟩:=h1
  obtain⟨e1,e2⟩:=hw0.same j b1 b0 h0 h1
  obtain⟨e3,e4⟩:=hw.same j b b1 (by rw[zbg hw0];exact h1) (by rw[<-hb];exact h)
  exact⟨by rw[e3,e1],by rw[e4,e2]⟩
theorem zo2{hv:Hv}{body:Code}{cs:List (Sc (sem P Q))}{wa:World}{shs:List Sh}{vs:List At}(hc0:zt2 cfg ro st a)(hs0:zei ro st)(hw0:zb7 ro st w)(hex:∀j n,(j,n)∈hv.blocks->∃b,ro.blk st j=some b)
  (h:zox hv st (zaM ro st hv body cs wa) shs (zaX cfg ro st) st'=some vs)
  (hc:zt2 cfg (zaX cfg ro st) st' a') (hs:zei (zaX cfg ro st) st') (hw:zb7 (zaX cfg ro st) st' w') :
  ∃cs',zwC shs vs/\zbZ shs vs=some cs'/\zyC cfg ro st hv body cs' st'.anchor a' w':=by
 unfold zox at h
 simp only[Option.bind_eq_some_iff,cond_eq_ite] at h
 obtain⟨l,hl,al,hal,h⟩:=h
 split at h
 ·rename_i hchk
  obtain rfl:=Option.some.inj h
  simp only[Bool.and_eq_true,List.all_eq_true,Bool.or_eq_true] at hchk
  obtain⟨⟨⟨k1,k2⟩,k3⟩,k4⟩:=hchk
  have k1:=zzX k1
  subst k1
  obtain⟨cs',e1,e2,e3,e4⟩:=zsn hal
  have hkeys:∀cs₂ wa₂,zaI (zaM ro st hv body cs₂ wa₂).ov=zaI (zaM ro st hv body cs wa).ov:=by
   intro cs₂ wa₂
   have:∀c,zaI (zd1 hv.slots c).1=zaI hv.slots:=znN (P:=P) (Q:=Q) hv.slots
   unfold zaM zly
   simp only[zaI,List.map_append] at this ⊢
   rw[this,this]
  have hnot:∀j,j<st.nx->j∉zaI hv.blocks->zdD st'.bl j=none:=by
   intro j hj hn
   rw[zfB]
   intro hm
   simp only[zaI,List.mem_map] at hm
   obtain⟨x,hx,rfl⟩:=hm
   rcases k2 x hx with h|h
   ·exact absurd (Nat.le_of_ble_eq_true h) (by omega)
   ·exact hn ((zcI _ _).1 h)
  refine⟨cs',e4,e1,zH2 (ro2:=zaX cfg ro st) (st2:=st') hw0 hs0 hl e2 e3 hc hw ?_ hex ?_ ?_ hw.but ?_ ?_⟩
  ·intro i v hi hg hN
   rw[hkeys] at hi
   have hn:zdD st'.ov i=none:=by
    rw[zfB]
    intro hm
    simp only[zaI,List.mem_map] at hm
    obtain⟨x,hx,rfl⟩:=hm
    exact hi ((zcI _ _).1 (k3 x hx))
   exact(hc.fr i (v,none) (by unfold Ro.get;rw[hn];simp only;rw[zgy.2 ⟨hN,hg⟩];rfl)).2
  ·intro j b b2 h1 h2
   exact hw.same j b2 b (by rw[zbg hw0];exact h1) h2
  ·intro j b hj hb
   unfold Ro.blk
   rw[hnot j (hw0.lt j b hb) hj]
   simp only
   rw[zbg hw0];exact hb
  ·intro j hj
   exact(zcI _ _).1 (k4 j hj).1
  ·intro j b2 hj hb2
   have hlt:j<st.nx:=by have:=(k4 j hj).2;simp[Nat.blt] at this;omega
   by_cases hk:j∈zaI hv.blocks
   ·simp only[zaI,List.mem_map] at hk
    obtain⟨x,hx,rfl⟩:=hk
    exact hex x.1 x.2 hx
   ·unfold Ro.blk at hb2
    rw[hnot j hlt hk] at hb2
    simp only at hb2
    rw[zbg hw0] at hb2
    exact⟨b2,hb2⟩
 ·cases h
theorem zsz{hv:Hv}{body:Code}{al:List (Sh×At)}(hc:zt2 cfg ro st a)(hs:zei ro st)(hw:zb7 ro st w)(h:(zlq ro st hv).bind zks=some al) :
  ∃cs l0,zlq ro st hv=some l0/\zwC (al.map (·.1)) (al.map (·.2))/\zbZ (al.map (·.1)) (al.map (·.2))=some cs/\zyC cfg ro st hv body cs st.anchor a w:=by
 simp only[Option.bind_eq_some_iff] at h
 obtain⟨l,hl,hal⟩:=h
 obtain⟨cs,e1,e2,e3,e4⟩:=zsn hal
 have hex:∀j n,(j,n)∈hv.blocks->∃b,ro.blk st j=some b:=by
  have hg0:=hl
  unfold zlq at hg0
  simp only[Option.bind_eq_some_iff,Option.map_eq_some_iff] at hg0
  obtain⟨ss,_,bs,hbs,_⟩:=hg0
  exact zkz hbs
 refine⟨cs,l,hl,e4,e1,zH2 (ro2:=ro) (st2:=st) hw hs hl e2 e3 hc hw ?_ hex ?_ ?_ hw.but ?_ ?_⟩
 ·intro i v _ hg _
  exact(hc.fr i _ hg).2
 ·intro j b b2 h1 h2
  rw[h1] at h2;obtain rfl:=Option.some.inj h2;exact⟨rfl,rfl⟩
 ·intro j b _ hb;exact hb
 ·intro j hj;unfold zlx;exact List.mem_append_right _ hj
 ·intro j b2 _ hb2;exact⟨b2,hb2⟩
end
theorem zAK{ro:Ro (sem P Q)}{st:St (sem P Q)}{hv:Hv}{l0:List (Sc (sem P Q))}(hg0:zlq ro st hv=some l0):∀j n,(j,n)∈hv.blocks->∃b,ro.blk st j=some b:=by
 unfold zlq at hg0
 simp only[Option.bind_eq_some_iff,Option.map_eq_some_iff] at hg0
 obtain⟨ss,_,bs,hbs,_⟩:=hg0
 exact zkz hbs
theorem zhI:∀{shs:List Sh}{l:List At},zwC shs l->shs.length=l.length
 |[],[],_ => rfl
 |.int _::r,.int _::l,h|.bool::r,.bool _::l,h|.str::r,.str _::l,h|.slc::r,.slc _ _ _::l,h|.ptr::r,.ptr _::l,h|.val::r,.val _::l,h => by
  simp only[zwC] at h
  simp[zhI h]
 |.bool::_,.int _::_,hf|.bool::_,.str _::_,hf|.bool::_,.slc _ _ _::_,hf|.bool::_,.ptr _::_,hf|.bool::_,.val _::_,hf => hf.elim
 |.int _::_,.bool _::_,hf|.int _::_,.str _::_,hf|.int _::_,.slc _ _ _::_,hf|.int _::_,.ptr _::_,hf|.int _::_,.val _::_,hf => hf.elim
 |.str::_,.int _::_,hf|.str::_,.bool _::_,hf|.str::_,.slc _ _ _::_,hf|.str::_,.ptr _::_,hf|.str::_,.val _::_,hf => hf.elim
 |.slc::_,.int _::_,hf|.slc::_,.str _::_,hf|.slc::_,.bool _::_,hf|.slc::_,.ptr _::_,hf|.slc::_,.val _::_,hf => hf.elim
 |.ptr::_,.int _::_,hf|.ptr::_,.str _::_,hf|.ptr::_,.slc _ _ _::_,hf|.ptr::_,.bool _::_,hf|.ptr::_,.val _::_,hf => hf.elim
 |.val::_,.int _::_,hf|.val::_,.str _::_,hf|.val::_,.slc _ _ _::_,hf|.val::_,.ptr _::_,hf|.val::_,.bool _::_,hf => hf.elim
 |[],_::_,hf => hf.elim
 |.int _::_,[],hf|.bool::_,[],hf|.str::_,[],hf|.slc::_,[],hf|.ptr::_,[],hf|.val::_,[],hf => hf.elim
theorem ze9{w:World}:∀{shs:List Sh}{I:zBB shs Prop}{l:List At},zop False shs I l w->shs.length=l.length
 |[],I,[],_ => rfl
 |.int _::r,I,.int _::l,h => by simp only[zop] at h;simp[ze9 h]
 |.bool::r,I,.bool _::l,h => by simp only[zop] at h;simp[ze9 h]
 |.str::r,I,.str _::l,h => by simp only[zop] at h;simp[ze9 h]
 |.slc::r,I,.slc _ _ _::l,h => by simp only[zop] at h;simp[ze9 h]
 |.ptr::r,I,.ptr _::l,h => by simp only[zop] at h;simp[ze9 h]
 |.val::r,I,.val _::l,h => by simp only[zop] at h;simp[ze9 h]
 |.bool::_,_,.int _::_,hf|.bool::_,_,.str _::_,hf|.bool::_,_,.slc _ _ _::_,hf|.bool::_,_,.ptr _::_,hf|.bool::_,_,.val _::_,hf => hf.elim
 |.int _::_,_,.bool _::_,hf|.int _::_,_,.str _::_,hf|.int _::_,_,.slc _ _ _::_,hf|.int _::_,_,.ptr _::_,hf|.int _::_,_,.val _::_,hf => hf.elim
 |.str::_,_,.int _::_,hf|.str::_,_,.bool _::_,hf|.str::_,_,.slc _ _ _::_,hf|.str::_,_,.ptr _::_,hf|.str::_,_,.val _::_,hf => hf.elim
 |.slc::_,_,.int _::_,hf|.slc::_,_,.str _::_,hf|.slc::_,_,.bool _::_,hf|.slc::_,_,.ptr _::_,hf|.slc::_,_,.val _::_,hf => hf.elim
 |.ptr::_,_,.int _::_,hf|.ptr::_,_,.str _::_,hf|.ptr::_,_,.slc _ _ _::_,hf|.ptr::_,_,.bool _::_,hf|.ptr::_,_,.val _::_,hf => hf.elim
 |.val::_,_,.int _::_,hf|.val::_,_,.str _::_,hf|.val::_,_,.slc _ _ _::_,hf|.val::_,_,.ptr _::_,hf|.val::_,_,.bool _::_,hf => hf.elim
 |[],_,_::_,hf => hf.elim
 |.int _::_,_,[],hf|.bool::_,_,[],hf|.str::_,_,[],hf|.slc::_,_,[],hf|.ptr::_,_,[],hf|.val::_,_,[],hf => hf.elim
theorem zDh{shs:List (String×Sh)}{init:List At}{w:World}{body:(List At->World->Prop)->List At->World->Prop}(h:(sem P Q).loop shs init w body) :
 ∃shs':List Sh,shs'=shs.map (·.2)/\∃(I:zBB shs' Prop) (M:zBB shs' Nat),zop False shs' I init w /\
  zFp shs' fun vs=>∀w':World,zop False shs' I vs w'->body (fun vs' w''=>zop False shs' I vs' w''/\zop 0 shs' M vs' w''<zop 0 shs' M vs w') vs w':=⟨_,rfl,h⟩
theorem zuO{shs:List (String×Sh)}{br:(List At->World->Prop)->Prop}{body:List At->World->Prop}(h:(sem P Q).join shs br body) :
 ∃shs':List Sh,shs'=shs.map (·.2)/\∃(I:zBB shs' Prop),br (fun vs w=>zop False shs' I vs w)/\zFp shs' fun vs=>∀w':World,zop False shs' I vs w'->body vs w':=⟨_,rfl,h⟩
theorem zyx{α:Type}{names:List α}{shs l:List Sh}(h:l=(List.zip names shs).map (·.2))(hl:l.length=shs.length):l=shs:=by
 subst h
 induction shs generalizing names with
 |nil => simp
 |cons s r ih =>
  cases names with
  |nil => simp at hl
  |cons n ns =>
   simp only[List.zip_cons_cons,List.map_cons,List.length_cons,Nat.add_right_cancel_iff] at hl ⊢
   rw[ih hl]
theorem ziW{ops:Array Oper}{kd:Oper->Kd}{Qx:Exit->Act->World->Prop}:∀(l:List Nat)(C:World->Prop)(a:Act)(w:World),zjQ P ops kd (Qx .normal) (.chain l) C a->C w->wpOps P ops Qx l a w
 |[],C,a,w,h,hw => h w hw
 |i::l,C,a,w,h,hw => by
  simp only[DT.chain,zjQ] at h
  simp only[wpOps]
  split at h
  ·rename_i ho
   simp only[ho]
   exact ziW l C a w h hw
  ·rename_i o ho
   simp only[ho]
   split at h
   ·rename_i hwant
    rw[if_pos hwant]
    refine .inl ?_
    rcases h with⟨v,hv,hc⟩|⟨_,h⟩
    ·have hg:=hv w (.inr hw)
     unfold zbe at hg
     unfold Oper.wp
     rw[hg]
     exact ziW l C _ w hc hw
    ·refine Oper.wp_mono (fun a' w' hk=>?_) (zEK (h w hw))
     obtain⟨v,_,C',hC',_,hc⟩:=hk
     exact ziW l C' a' w' hc hC'
   ·rename_i hwant
    rw[if_neg hwant]
    exact ziW l C _ w h hw
theorem zAA{cfg:Cfg}{ops:Array Oper}{t:DT}(h:zJx P cfg ops=some t):P.follows .mixedOrders=true/\(∀(j:Nat) (o:Oper) cs b,ops[j]?=some o->o.op≠.select cs b)/\(∀(j:Nat)(o:Oper),ops[j]?=some o->∀e∈o.after,e.on<ops.size)/\okD .any ops (kdD P cfg true) ops.size false t (List.range ops.size)=true:=by
 unfold zJx at h
 simp only[cond_eq_ite] at h
 split at h
 ·rename_i hc
  obtain rfl:=Option.some.inj h
  simp only[Bool.and_eq_true,List.all_eq_true] at hc
  obtain⟨⟨⟨h1,h2⟩,h3⟩,h4⟩:=hc
  refine⟨h1,Region.noSelect_spec h2,fun j o ho e he=>?_,h4⟩
  have:=h3 o (by have:=(Array.getElem?_eq_some_iff.1 ho);obtain⟨hl,hv⟩:=this;rw[<-hv];simp) e (by simpa using he)
  simp[Nat.blt] at this;omega
 ·cases h
theorem zu1{md:Region.Mode}{ops:Array Oper}:Lst md ops (List.range ops.size) (Array.replicate ops.size false):=by
 refine⟨by simp,fun k hk=>?_,fun k hk=>List.mem_range.1 hk,fun k o ho hn=>?_⟩
 ·simp[Array.getD,hk]
 ·exact absurd (List.mem_range.2 (Array.getElem?_eq_some_iff.1 ho).1) hn
theorem zr4{ro:Ro (sem P Q)}{st:St (sem P Q)}{w:World}{n:Nat}(hw:zb7 ro st w):zb7 ro st { w with drawn:=n } :=
 ⟨⟨hw.but.os,hw.but.tape,hw.but.output,hw.but.size,hw.but.block⟩,hw.bk,hw.lt,hw.ord,hw.ax,hw.nol,hw.same⟩
theorem sx_ok{cfg:Cfg}:∀(c:Code) (ro:Ro (sem P Q)) (st:St (sem P Q)) (k:Ex->St (sem P Q)->Prop) (Qx:Exit->Act->World->Prop) (a:Act) (w:World),sx (A:=sem P Q) P cfg c ro st k->zt2 cfg ro st a->zei ro st->zb7 ro st w ->
  (∀e st' a' w',k e st'->zt2 cfg ro st' a'->zei ro st'->zb7 ro st' w'->Qx (zz4 e) a' w')->c.wp P Qx a w:=by
 intro c
 induction c with
 |skip => exact fun ro st k Qx a w h hc hs hw hk => wp_skip (hk .normal st a w h hc hs hw)
 |label _ => exact fun ro st k Qx a w h hc hs hw hk => wp_label (hk .normal st a w h hc hs hw)
 |exit id => exact fun ro st k Qx a w h hc hs hw hk => wp_exit (hk (.exit id) st a w h hc hs hw)
 |ret => exact fun ro st k Qx a w h hc hs hw hk => wp_ret (hk .ret st a w h hc hs hw)
 |seq x y ihx ihy =>
  intro ro st k Qx a w h hc hs hw hk
  refine wp_seq (ihx ro st _ _ a w h hc hs hw ?_)
  intro e st' a' w' h' hc' hs' hw'
  cases e with
  |normal => exact ihy ro st' k Qx a' w' h' hc' hs' hw' hk
  |exit id => exact hk (.exit id) st' a' w' h' hc' hs' hw'
  |ret => exact hk .ret st' a' w' h' hc' hs' hw'
 |cond b x y ihx ihy =>
  intro ro st k Qx a w h hc hs hw hk
  unfold sx at h
  split at h
  ·rename_i t ht
   have hev:a.eval b=.bool t.den:=by
    have:=zGV (ops:=#[]) (cur:=none) hc.relF (fun c hc=>by cases hc) b _ (sc?_some ht)
    simpa[SL.toV,SV.toV,Sc.toV] using this
   split at h
   ·exact wp_cond hev (by simp only[BE.den];exact ihx ro st k Qx a w h hc hs hw hk)
   ·exact wp_cond hev (by simp only[BE.den];exact ihy ro st k Qx a w h hc hs hw hk)
   ·obtain⟨h1,h2⟩:=h
    refine wp_cond_split hev (fun hd=>?_) (fun hd=>?_)
    ·exact ihx ro st k Qx a w (h1 (by rw[zey,hd])) hc hs hw hk
    ·exact ihy ro st k Qx a w (h2 (by rw[zey,zdr,hd];rfl)) hc hs hw hk
  ·exact h.elim
 |block id x ih =>
  intro ro st k Qx a w h hc hs hw hk
  unfold sx at h
  split at h
  ·refine wp_block (ih ro st _ _ a w h hc hs hw ?_)
   intro e st' a' w' h' hc' hs' hw'
   cases e with
   |normal => exact hk .normal st' a' w' h' hc' hs' hw'
   |exit i =>
    simp only[zHO,cond_eq_ite] at h'
    simp only[zz4,Exit.inBlock]
    split at h'
    ·rename_i hi
     have hi:=Nat.eq_of_beq_eq_true hi
     rw[if_pos hi];exact hk .normal st' a' w' h' hc' hs' hw'
    ·rename_i hi
     have hi:¬i=id:=fun he=>hi (by rw[he];exact Nat.beq_refl _)
     rw[if_neg hi];exact hk (.exit i) st' a' w' h' hc' hs' hw'
   |ret => exact hk .ret st' a' w' h' hc' hs' hw'
  ·rename_i l hl
   simp only[cond_eq_ite] at h
   split at h
   ·exact h.elim
   ·rename_i hchk
    simp only[Bool.not_eq_true',Bool.not_eq_false,Bool.and_eq_true,List.all_eq_true] at hchk
    generalize hhv:zCW (A:=sem P Q) P ro st l (zq9 x)=hv at h hchk
    generalize hshs:zGm (A:=sem P Q) P ro st hv (zq9 x).toArray=shs at h
    obtain⟨shs',hz,I,hbr,hbody⟩:=zuO (P:=P) (Q:=Q) (shs:=List.zip (zmL cfg hv) shs)
     (br:=fun leave=>sx (A:=sem P Q) P cfg x (zaX cfg ro st) (zaM ro st ⟨[],[]⟩ .skip [] st.anchor) (zB8 (A:=sem P Q) cfg ro st hv x shs id leave k))
     (body:=fun vars w=>zr1 (A:=sem P Q) (fun cs=>k .normal (zbE st (zaM ro st hv x cs w))) (zbZ shs vars)) h
    have hex:∀j n,(j,n)∈hv.blocks->∃b,ro.blk st j=some b:=fun j n hm=>by
     have:=hchk.2 (j,n) hm
     cases hb:ro.blk st j with
     |some b => exact⟨b,rfl⟩
     |none => simp[hb] at this
    obtain⟨cs0,l0,hg0,hf0,ho0,hh0⟩:=zsz (hv:=⟨[],[]⟩) (body:=.skip) (al:=[]) hc hs hw rfl
    have hcs0:cs0=[]:=by
     have:zbZ (A:=sem P Q) [] []=some cs0:=ho0
     simp[zbZ] at this;exact this
    subst hcs0
    have hjoin : ∀ (st' : St (sem P Q)) (a' : Act) (w' : World), zxp (A := sem P Q) cfg ro st hv x shs "block back" (fun vs w => zop False shs' I vs w) st' -> zt2 cfg (zaX cfg ro st) st' a' -> zei (zaX cfg ro st) st' -> zb7 (zaX cfg ro st) st' w' -> Qx .normal a' w' := by
     intro st' a' w' h' hc' hs' hw'
     unfold zxp at h'
     split at h'
     ·rename_i vs hback
      have hsz:shs'=shs:=by
       refine zyx hz ?_
       obtain⟨cs',hf',ho',hh'⟩:=zo2 hc hs hw hex hback hc' hs' hw'
       exact(ze9 h').trans (zhI hf').symm
      subst hsz
      obtain⟨cs',hf',ho',hh'⟩:=zo2 hc hs hw hex hback hc' hs' hw'
      have hb:=zhA hbody vs hf' _ h'
      rw[ho'] at hb
      obtain⟨e1,e2,e3⟩:=zmF hc hs hw hh'.c hh'.s hh'.w
      exact hk .normal _ a' w' hb e1 e2 e3
     ·exact h'.elim
    refine wp_block (ih _ _ _ _ a w hbr hh0.c hh0.s hh0.w ?_)
    intro e st' a' w' h' hc' hs' hw'
    cases e with
    |normal => exact hjoin st' a' w' h' hc' hs' hw'
    |exit i =>
     simp only[zB8,cond_eq_ite] at h'
     simp only[zz4,Exit.inBlock]
     split at h'
     ·rename_i hi
      have hi:=Nat.eq_of_beq_eq_true hi
      rw[if_pos hi];exact hjoin st' a' w' h' hc' hs' hw'
     ·rename_i hi
      have hi:¬i=id:=fun he=>hi (by rw[he];exact Nat.beq_refl _)
      rw[if_neg hi]
      obtain⟨e1,e2,e3⟩:=zmF hc hs hw hc' hs' hw'
      exact hk (.exit i) _ a' w' h' e1 e2 e3
    |ret =>
     obtain⟨e1,e2,e3⟩:=zmF hc hs hw hc' hs' hw'
     exact hk .ret _ a' w' h' e1 e2 e3
 |region id ops draw =>
  intro ro st k Qx a w h hc hs hw hk
  unfold sx at h
  cases draw with
  |true =>
   simp only[cond_true] at h
   split at h
   ·rename_i t ht
    obtain⟨hm,hsel,hin,hok⟩:=zAA ht
    simp only[cond_eq_ite] at h
    split at h
    ·split at h
     ·exact h.elim
     ·rename_i hchk
      simp only[Bool.not_eq_true',Bool.not_eq_false,Bool.and_eq_true,List.all_eq_true] at hchk
      generalize hshs:zGm (A:=sem P Q) P ro st (zrM P cfg ro st ops) ops=shs at h
      obtain⟨shs',hz,I,hbr,hbody⟩:=zuO (P:=P) (Q:=Q) (shs:=List.zip (zmL cfg (zrM P cfg ro st ops)) shs)
       (br:=fun leave=>zha (A:=sem P Q) P cfg true ops (zaX cfg ro st) (4*ops.size+4+ops.size*ops.size) t (zaM ro st ⟨[],[]⟩ .skip [] st.anchor)
        (zxp (A := sem P Q) cfg ro st (zrM P cfg ro st ops) (.region id ops true) shs ("join back " ++ match ops[0]? with | some o => o.pos | none => "") leave))
       (body:=fun vars w=>zr1 (A:=sem P Q) (fun cs=>k .normal (zbE st (zaM ro st (zrM P cfg ro st ops) (.region id ops true) cs w))) (zbZ shs vars)) h
      have hex:∀j n,(j,n)∈(zrM P cfg ro st ops).blocks->∃b,ro.blk st j=some b:=fun j n hm=>by
       have:=hchk.2 (j,n) hm
       cases hb:ro.blk st j with
       |some b => exact⟨b,rfl⟩
       |none => simp[hb] at this
      obtain⟨cs0,l0,hg0,hf0,ho0,hh0⟩:=zsz (hv:=⟨[],[]⟩) (body:=.skip) (al:=[]) hc hs hw rfl
      have hcs0:cs0=[]:=by
       have:zbZ (A:=sem P Q) [] []=some cs0:=ho0
       simp[zbZ] at this;exact this
      subst hcs0
      refine wp_region_any hm (zo6 (kd:=kdD P cfg true) (n:=ops.size) hsel hin ops.size t _ _ (zb7 (zaX cfg ro st) (zaM ro st ⟨[],[]⟩ .skip [] st.anchor)) a _ (by simp) List.nodup_range hok zu1 ?_ (zr4 hh0.w))
      refine zcR _ _ _ a _ hbr hh0.c.relF hh0.s ⟨_,hh0.w⟩ fun st' a' h' hc' hs' w' hw'=>?_
      unfold zxp at h'
      split at h'
      ·rename_i vs hback
       have hsz:shs'=shs:=by
        refine zyx hz ?_
        obtain⟨cs',hf',ho',hh'⟩:=zo2 hc hs hw hex hback hc' hs' hw'
        exact(ze9 h').trans (zhI hf').symm
       subst hsz
       obtain⟨cs',hf',ho',hh'⟩:=zo2 hc hs hw hex hback hc' hs' hw'
       have hb:=zhA hbody vs hf' _ h'
       rw[ho'] at hb
       obtain⟨e1,e2,e3⟩:=zmF hc hs hw hh'.c hh'.s hh'.w
       exact hk .normal _ a' w' hb e1 e2 e3
      ·exact h'.elim
    ·refine wp_region_any hm (zo6 (kd:=kdD P cfg true) (n:=ops.size) hsel hin ops.size t _ _ (zb7 ro st) a _ (by simp) List.nodup_range hok zu1 ?_ (zr4 hw))
     exact zcR _ _ st a _ h hc.relF hs ⟨_,hw⟩ fun st' a' h' hc' hs' w' hw'=>hk .normal st' a' w' h' hc' hs' hw'
   ·exact h.elim
  |false =>
   simp only[cond_false] at h
   refine wp_region (ziW (kd:=kdD P cfg false) _ (zb7 ro st) a w ?_ hw)
   exact zcR _ _ st a _ h hc.relF hs ⟨_,hw⟩ fun st' a' h' hc' hs' w' hw'=>hk .normal st' a' w' h' hc' hs' hw'
 |loop body ih =>
  intro ro st k Qx a w h hc hs hw hk
  unfold sx at h
  simp only at h
  split at h
  ·exact h.elim
  ·rename_i al hal
   simp only[cond_eq_ite] at h
   split at h
   ·exact h.elim
   ·rename_i hdup
    generalize hshs:al.map (·.1)=shs at h
    obtain⟨cs0,l0,hg0,hf0,ho0,hh0⟩:=zsz (body:=body) hc hs hw hal
    rw[hshs] at hf0 ho0
    obtain⟨shs',hz,I,M,hI,hbody⟩:=zDh (P:=P) (Q:=Q) (shs:=List.zip (zmL cfg (hvOf ro st body)) shs) (init:=al.map (·.2)) (w:=st.anchor) (body:=fun back vars w=>zr1 (A:=sem P Q) (fun cs=>sx (A:=sem P Q) P cfg body (zaX cfg ro st) (zaM ro st (hvOf ro st body) body cs w) (zD2 (A:=sem P Q) cfg ro st (hvOf ro st body) body shs cs w back k)) (zbZ shs vars)) h
    have hsz:shs'=shs:=by
     refine zyx hz ?_
     exact(ze9 hI).trans (zhI hf0).symm
    subst hsz
    let Pn (a':Act) (w':World) (n:Nat):Prop:=∃(vs:List At) (wa:World) (cs:List (Sc (sem P Q))),zwC shs' vs/\zbZ shs' vs=some cs/\zop False shs' I vs wa/\zyC cfg ro st (hvOf ro st body) body cs wa a' w'/\zop 0 shs' M vs wa=n
    refine wp_loop (fun a' w'=>∃n,Pn a' w' n) (fun a' w'=>zpu (Pn a' w')) ⟨_,_,_,cs0,hf0,ho0,hI,hh0,rfl⟩ ?_
    intro a1 w1 hex
    obtain⟨⟨vs,wa,cs,hf,ho,hIv,hhd,hm⟩,hmin⟩:=znO hex
    have hb:=zhA hbody vs hf wa hIv
    rw[ho] at hb
    refine ih _ _ _ _ a1 w1 hb hhd.c hhd.s hhd.w ?_
    intro e st' a' w' h' hc' hs' hw'
    cases e with
    |normal =>
     simp only[zD2] at h'
     split at h'
     ·rename_i vs' hback
      obtain⟨cs',hf',ho',hh'⟩:=zo2 hc hs hw (zAK hg0) hback hc' hs' hw'
      simp only[zz4,Exit.then]
      have hPn:Pn a' w' (zop 0 shs' M vs' st'.anchor):=⟨vs',_,cs',hf',ho',h'.1,hh',rfl⟩
      refine⟨⟨_,hPn⟩,?_⟩
      have h2:=(znO ⟨_,hPn⟩).2 _ hPn
      have h3:=h'.2
      rw[hm] at h3
      omega
     ·exact h'.elim
    |exit id =>
     obtain⟨e1,e2,e3⟩:=zmF hc hs hw hc' hs' hw'
     exact hk (.exit id) _ a' w' h' e1 e2 e3
    |ret =>
     obtain⟨e1,e2,e3⟩:=zmF hc hs hw hc' hs' hw'
     exact hk .ret _ a' w' h' e1 e2 e3
 |scope _ _ => exact fun ro st k Qx a w h => h.elim
 |rangeFunc => exact fun ro st k Qx a w h => h.elim
 |goto _ => exact fun ro st k Qx a w h => h.elim
 |refuse _ => exact fun ro st k Qx a w h => h.elim
variable {P:Program} {Q:Value->World->Prop}
theorem zGA{ps:List (SV (sem P Q))}{w:World}{i:Nat}{e:Option (Ent (sem P Q))}(h:zdD (st0 ps w).ov i=some e):∃v,ps[i]?=some v/\e=some (.one v,none):=by
 have hm:=zem h
 simp only[st0,List.mem_map] at hm
 obtain⟨⟨v,j⟩,hx,he⟩:=hm
 simp only[Prod.mk.injEq] at he
 obtain⟨rfl,rfl⟩:=he
 exact⟨v,List.mem_zipIdx_iff_getElem?.1 hx,rfl⟩
theorem zCR{ps:List (SV (sem P Q))}{w:World}{i:Nat}{e:Ent (sem P Q)}(h:Ro.get { sl:=[],bl:=[] } (st0 ps w) i=some e):∃v,ps[i]?=some v/\e=(.one v,none):=by
 unfold Ro.get at h
 split at h
 ·rename_i e' he
  subst h
  obtain⟨v,h1,h2⟩:=zGA he
  exact⟨v,h1,Option.some.inj h2⟩
 ·simp[zdD] at h
theorem ztt{cfg:Cfg}{ro:Ro (sem P Q)}{st:St (sem P Q)}{a:Act}{w:World}(hc:zt2 cfg ro st a)(hs:zei ro st)(hw:zb7 ro st w):∀{rs:List ResultVar} {l:List (SV (sem P Q))},zxY P ro st rs=some l ->
  (rs.mapM (m:=Sem) fun|.tmp t=>pure (a.tmps.getD t undef)|.cell c t=>do loadVar t (<-asAddr (a.tmps.getD c undef))).run P w=.ok (l.map SV.toV) w
 |[],l,h => by simp[zxY] at h;subst h;simp
 |.tmp t::r,l,h => by
  unfold zxY at h
  split at h
  ·rename_i v l' hv hl
   obtain rfl:=Option.some.inj h
   have h1:=one?_some hv
   simp only[Option.bind_eq_some_iff] at h1
   obtain⟨e,he,h2⟩:=h1
   have h3:=(hc.fr t e he).2
   obtain⟨u,key⟩:=e
   cases key with
   |none =>
    simp only[Option.some.injEq] at h2
    subst h2
    simp only[List.mapM_cons,Sem.run_bind,Sem.run_pure,Result.andThen_ok,ztt hc hs hw hl]
    rw[h3];rfl
   |some k => cases h2
  ·cases h
 |.cell c t::r,l,h => by
  unfold zxY at h
  split at h
  ·rename_i j b off l' hv hl
   split at h
   ·rename_i blk hb
    split at h
    ·rename_i v hp
     simp only[cond_eq_ite] at h
     split at h
     ·rename_i hlen
      obtain rfl:=Option.some.inj h
      have h1:=sc?_some hv
      simp only[Option.bind_eq_some_iff] at h1
      obtain⟨e,he,h2⟩:=h1
      have h3:=(hc.fr c e he).2
      have h4:=hs c e he
      obtain⟨u,key⟩:=e
      cases key with
      |none =>
       simp only[Option.some.injEq] at h2
       subst h2
       have hn:=h4.2 blk hb
       have hbk:=hw.bk j blk hb
       unfold zmx at hbk
       have hload:=zr8 (P:=P) (t:=t) (v:=v) hbk hp hlen
       rw[hn] at hload
       simp only[List.mapM_cons,Sem.run_bind]
       rw[h3]
       have hl2:(loadVar t ⟨b,off,none⟩).run P w=.ok v.toV w:=by
        simpa[Instr.loadAt,Instr.sureAddr] using hload
       have e1:(asAddr (SL.toV (SL.one (SV.sc (Sc.loc (A:=sem P Q) j b off))))).run P w=.ok ⟨b,off,none⟩ w:=by
        simp[SL.toV,SV.toV,Sc.toV,asAddr]
       rw[e1]
       simp only[Result.andThen_ok,hl2,Sem.run_pure,ztt hc hs hw hl]
       rfl
      |some k => cases h2
     ·cases h
    ·cases h
   ·cases h
  ·cases h
theorem zIn(l:List (SV (sem P Q))):(zbF l).toV=if h:l.length=1 then (l[0]'(by omega)).toV else .tuple (l.map SV.toV).toArray:=by
 match l with
 |[] => rfl
 |[v] => rfl
 |a::b::r => simp[zbF,SL.toV]
theorem zJN(l:List (SV (sem P Q))):(if h:(l.map SV.toV).toArray.size=1 then (l.map SV.toV).toArray[0] else .tuple (l.map SV.toV).toArray)=(zbF l).toV:=by
 match l with
 |[] => rfl
 |[v] => rfl
 |a::b::r => simp[zbF,SL.toV]
theorem sx_fn{f:FuncId}{fn:Func}{c:Code}{cfg:Cfg}{ps:List (SV (sem P Q))}{args:Array Value}{w:World}(hf:P.funcs[f]?=some fn)(hb:fn.body=some c)(hent:znF P f)
  (hN:cfg.N=fn.ntmps) (hlen:Nat.ble ps.length fn.ntmps=true) (hargs:args=(ps.map SV.toV).toArray) (hn:ps.all zaY=true) (h:zHZ (A:=sem P Q) P cfg fn c ps w):FnP P f args w Q:=by
 have hlen:=Nat.le_of_ble_eq_true hlen
 refine⟨hent,calls_of_wp hf hb (sx_ok (cfg:=cfg) c { sl:=[],bl:=[] } (st0 ps w) _ _ _ w h ?_ ?_ ?_ ?_)⟩
 ·subst hargs
  refine⟨?_,rfl,fun i e he=>?_⟩
  ·simp;omega
  ·obtain⟨v,hv,rfl⟩:=zCR he
   refine⟨rfl,?_⟩
   have hi:i<ps.length:=by
    rw[List.getElem?_eq_some_iff] at hv;exact hv.1
   have h2:ps[i]=v:=by rw[List.getElem?_eq_some_iff] at hv;exact hv.2
   simp[SL.toV,Array.getD,Array.getElem_append,hi,h2]
   intro h;omega
 ·intro i e he
  obtain⟨v,hv,rfl⟩:=zCR he
  refine zc6 ?_
  simp only[List.all_eq_true] at hn
  exact hn v (List.mem_of_getElem? hv)
 ·have hno:∀j,(Ro.blk { sl:=[],bl:=[] } (st0 ps w) j:Option (Blk (sem P Q)))=none:=fun j=>rfl
  refine⟨But.refl _ _,?_,?_,?_,?_,?_,?_⟩
  ·intro j b h;rw[hno] at h;cases h
  ·intro j b h;rw[hno] at h;cases h
  ·intro i j b c h;rw[hno] at h;cases h
  ·intro j b h;rw[hno] at h;cases h
  ·intro j b h;rw[hno] at h;cases h
  ·intro j b b0 h0 h;rw[hno] at h;cases h
 ·intro e st' a' w' hk hc hs hw
  have key:zxZ (A:=sem P Q) P fn { sl:=[],bl:=[] } st'->a'.defers=[]/\∃v,(results fn a'.tmps).run P w'=.ok v w'/\∃u,Ending.returned v=.returned u/\Q u w':=by
   intro hr
   unfold zxZ at hr
   split at hr
   ·rename_i l hl
    simp only[cond_eq_ite] at hr
    split at hr
    ·have hq:=ziR (P:=P) (Q:=Q) hr hw.but (fun b hb=>by cases hb)
     refine⟨hc.defers,(zbF l).toV,?_,_,rfl,hq⟩
     have h1:=ztt hc hs hw hl
     unfold results
     obtain⟨rs,hrs⟩:∃rs,fn.results=⟨rs⟩:=⟨_,rfl⟩
     rw[hrs] at h1 ⊢
     simp only[List.mapM_toArray,Sem.run_bind,Sem.run_map]
     show(((Sem.run P (List.mapM _ rs) w').andThen _).andThen _)=_
     have h1':(List.mapM (m:=Sem) (fun|ResultVar.tmp t=>pure (a'.tmps.getD t undef)|.cell c t=>do loadVar t (<-asAddr (a'.tmps.getD c undef))) rs).run P w'=.ok (l.map SV.toV) w':=h1
     erw [h1']
     simp only[Result.andThen_ok]
     exact congrArg (fun v=>Result.ok v w') (zJN l)
    ·exact hr.elim
   ·exact hr.elim
  cases e with
  |normal => exact key hk
  |exit id => exact hk.elim
  |ret => exact key hk
@[irreducible] def Runs(P:Program)(Q:Value->World->Prop)(cfg:Cfg)(fn:Func)(c:Code)(ps:List (SV (sem P Q)))(w:World):Prop:=zHZ (A:=sem P Q) P cfg fn c ps w
theorem zab {f:FuncId} {fn:Func} {c:Code} {cfg:Cfg} {ps:List (SV (sem P Q))} {args:Array Value} {w:World} (h:Runs P Q cfg fn c ps w) (hf:P.funcs[f]?=some fn) (hb:fn.body=some c) (hent:znF P f)
  (hN:cfg.N=fn.ntmps) (hlen:Nat.ble ps.length fn.ntmps=true) (hargs:args=(ps.map SV.toV).toArray) (hn:ps.all zaY=true):FnP P f args w Q:=by
 unfold Runs at h
 exact sx_fn hf hb hent hN hlen hargs hn h
end Go.Sx
namespace Go.Sx
open Go.ChangeShapes Go.WideShapes Go.ChangeAt Go.RowKit
variable {H:Type} {enc:TypeId×Value->H} {P:Program}
def Good(P:Program)(w:World):Nat->TypeId->List Value->Prop
 |0,_,_ => False
 |n+1,t,cs =>
  match P.underlying t with
  |some .bool => ∃b,cs=[.bool b]
  |some (.int k) => ∃x,cs=[.int k x]/\InR k x
  |some .string => ∃s:ByteArray,cs=[.string s]/\s.size<=9223372036854775807
  |some (.pointer e) => cs=[.pointer none]\/∃a es,cs=[.pointer (some a)]/\w.cells? 0 a (P.cellsOf e)=some es/\Good P w n e es
  |some (.slice e) => cs=[.slice none 0 0]\/∃a len cap,cs=[.slice (some a) len cap]/\len<=cap/\cap<=9223372036854775807 /\
   ∀i,i<cap->∃es,w.cells? 0 (a.add (i*P.cellsOf e)) (P.cellsOf e)=some es/\Good P w n e es
  |some (.struct fs) => cs.length=P.cellsOf t/\∀f∈fs.toList,Good P w n f.type ((cs.drop f.offset).take (P.cellsOf f.type))
  |some (.array m e) => cs.length=P.cellsOf t/\∀i,i<m->Good P w n e ((cs.drop (i*P.cellsOf e)).take (P.cellsOf e))
  |_ => ∃v,cs=[v]
theorem wf_inR{k:IntKind}{x:Int}(h:(Lit.int k x).wf=true):InR k x:=by
 simpa[Lit.wf,InR] using h
theorem zpD{α β:Type}{f:α->Option β}:∀{l:List α}{ys:List β},l.mapM f=some ys->∀x∈l,∃y,f x=some y
 |[],ys,_,x,hx => by cases hx
 |a::r,ys,h,x,hx => by
  simp only[List.mapM_cons,Option.bind_eq_bind,Option.bind_eq_some_iff] at h
  obtain⟨y,hy,ys',hr,_⟩:=h
  rcases List.mem_cons.1 hx with rfl|hx
  ·exact⟨y,hy⟩
  ·exact zpD hr x hx
theorem zeE{w:World}:∀{n:Nat}{t:TypeId}{cs:List Value}{x:DataW H×List MemPlace},DataW.trod enc P w 0 (fun _=>true) true n t cs=some x->Good P w n t cs
 |0,t,cs,x,h => by cases h
 |n+1,t,cs,x,h => by
  unfold DataW.trod at h
  unfold Good
  cases hu:P.underlying t with
  |none => simp[hu] at h
  |some u =>
   rw[hu] at h
   cases u with
   |bool => simp only at h ⊢;split at h<;>simp_all
   |int k =>
    simp only at h ⊢
    split at h<;>simp_all
    obtain⟨⟨h1,h2⟩,_⟩:=h
    exact wf_inR h2
   |string =>
    simp only at h ⊢
    split at h<;>simp_all
    simp only[maxLen] at h
    omega
   |pointer e =>
    simp only at h ⊢
    split at h
    all_goals first|(simp_all;done)|skip
    rename_i a heq
    simp only[Option.some.injEq,TypeDesc.pointer.injEq] at heq
    subst heq
    rw[Option.map_eq_some_iff] at h
    obtain⟨y,h,_⟩:=h
    rw[Option.bind_eq_some_iff] at h
    obtain⟨es,h1,h2⟩:=h
    exact .inr ⟨a,es,rfl,h1,zeE h2⟩
   |slice e =>
    simp only
    have h':DataW.trod enc P w 0 (fun _=>true) true (n+1) t cs=some x:=by unfold DataW.trod;rw[hu];exact h
    rcases DataW.trod_slice hu h' with h0|⟨a,len,cap,elems,zat,n',hn,hcs,hx,hb,hl,hm,hlen,hel,hsp,_⟩
    ·exact .inl h0.1
    ·obtain rfl:n=n':=by omega
     refine .inr ⟨a,len,cap,hcs,hl,by simp only[maxLen] at hm;omega,fun i hi=>?_⟩
     obtain⟨hrl,hrest⟩:=hsp rfl
     have hsome:∃y,(w.cells? 0 (a.add (i*P.cellsOf e)) (P.cellsOf e)).bind (DataW.trod enc P w 0 (fun _=>true) true n e)=some y:=by
      by_cases hil:i<len
      ·exact⟨elems[i]'(by omega),by rw[hel i hil];exact List.getElem?_eq_getElem (by omega)⟩
      ·have:=hrest (i-len) (by omega)
       rw[show len+(i-len)=i by omega] at this
       exact⟨zat[i-len]'(by omega),by rw[this];exact List.getElem?_eq_getElem (by omega)⟩
     obtain⟨y,hy⟩:=hsome
     rw[Option.bind_eq_some_iff] at hy
     obtain⟨es,h1,h2⟩:=hy
     exact⟨es,h1,zeE h2⟩
   |struct fs =>
    simp only at h ⊢
    split at h
    ·rename_i hl
     rw[Option.map_eq_some_iff] at h
     obtain⟨y,h,_⟩:=h
     refine⟨hl,fun f hf=>?_⟩
     obtain⟨z,hz⟩:=zpD h f hf
     exact zeE hz
    ·cases h
   |array m e =>
    simp only at h ⊢
    split at h
    ·rename_i hl
     rw[Option.map_eq_some_iff] at h
     obtain⟨y,h,_⟩:=h
     refine⟨hl,fun i hi=>?_⟩
     obtain⟨z,hz⟩:=zpD h i (by simpa using hi)
     exact zeE hz
    ·cases h
   |_ =>
    simp only at h ⊢
    match cs,h with
    |[],h => simp at h
    |[v],h => exact⟨v,rfl⟩
    |_::_::_,h => simp at h
def zBA(P:Program)(w:World)(t:TypeId)(v:Value):Prop :=
 ∃n cs,Good P w n t cs/\v=bif zda P t then .agg cs.toArray else cs.headD undef
theorem zGi{w:World}{r:Reach}{b:Nat}{t:TypeId}{v:Value}{d:DataW H}{ps:List MemPlace}(hok:Value.okWide P w r b t v)(h:DataW.Trod enc P w 0 (fun _=>true) true t v d ps):zBA P w t v:=by
 obtain⟨n,h⟩:=h
 refine⟨n,v.cells.toList,zeE h,?_⟩
 cases n with
 |zero => cases h
 |succ n =>
  unfold Value.okWide at hok
  unfold zda
  cases hu:P.underlying t with
  |none => unfold DataW.trod at h;rw[hu] at h;simp at h
  |some u =>
   rw[hu] at hok
   cases u with
   |struct fs => obtain⟨cs,rfl,_⟩:=hok;rfl
   |array m e => obtain⟨cs,rfl,_⟩:=hok;rfl
   |_ => cases v<;>first|rfl|(unfold Cell.okWide at hok;rw[hu] at hok;simp[Cell.ok] at hok)
inductive zcD(P:Program)(w:World):List TypeId->List Value->Prop
 |nil:zcD P w [] []
 |cons {t ts v vs}:zBA P w t v->zcD P w ts vs->zcD P w (t::ts) (v::vs)
theorem zmI{w:World}{r:Reach}{b:Nat}:∀{ts:List TypeId} {vs:List Value} {ds:List (DataW H)} {ps:List MemPlace},(∀(j:Nat) t v,ts[j]?=some t->vs[j]?=some v->Value.okWide P w r b t v) ->
  DataW.TrodAll enc P w 0 (fun _=>true) true ts vs ds ps->zcD P w ts vs/\ds.length=ts.length
 |[],[],[],ps,_,_ => ⟨.nil,rfl⟩
 |[],[],_::_,ps,_,h => h.elim
 |[],_::_,_,ps,_,h => by simp[DataW.TrodAll] at h
 |_::_,[],_,ps,_,h => by simp[DataW.TrodAll] at h
 |_::_,_::_,[],ps,_,h => by simp[DataW.TrodAll] at h
 |t::ts,v::vs,d::ds,ps,hok,h => by
  obtain⟨p,q,h1,h2,_⟩:=h
  obtain⟨g,e⟩:=zmI (fun j t v ht hv=>hok (j+1) t v (by simpa using ht) (by simpa using hv)) h2
  exact⟨.cons (zGi (hok 0 t v rfl rfl) h1) g,by simp[e]⟩
theorem zfM{w:World}{sp:Nat->Bool}:∀{ns:List String} {gs:List (DataW H)} {ps:List MemPlace},DataW.TrodVars enc P w sp ns gs ps->gs.length=ns.length
 |[],[],_,_ => rfl
 |[],_::_,_,h => h.elim
 |_::_,[],_,h => h.elim
 |_::_,_::_,_,h => by
  obtain⟨g,t,cs,fuel,p,q,_,_,_,_,hs,_⟩:=h
  simp[zfM hs]
theorem zle(hl:laidOutB P=true){W W':World}(hb:Below W.heap.size W W'):∀{ts:List TypeId} {vs:List Value} {ds:List (DataW H)} {ps:List MemPlace},(ts.all fun t=>P.readableRec t&&decide (t<P.types.size))=true ->
  DataW.TrodAll enc P W 0 (fun _=>true) true ts vs ds ps->(∀x∈ps,x.block<W.heap.size)->DataW.TrodAll enc P W' 0 (fun b=>decide (b<W.heap.size)) true ts vs ds ps
 |[],[],[],ps,_,h,_ => h
 |[],[],_::_,ps,_,h,_ => h.elim
 |[],_::_,_,ps,_,h,_ => by simp[DataW.TrodAll] at h
 |_::_,[],_,ps,_,h,_ => by simp[DataW.TrodAll] at h
 |_::_,_::_,[],ps,_,h,_ => by simp[DataW.TrodAll] at h
 |t::ts,v::vs,d::ds,ps,hr,h,hlt => by
  obtain⟨p,q,h1,h2,e⟩:=h
  simp only[List.all_cons,Bool.and_eq_true,decide_eq_true_eq] at hr
  exact⟨p,q,Below.trod hl hr.1.1 hr.1.2 h1 hb (fun x hx=>hlt x (by rw[e];simp[hx])),zle hl hb (by simpa using hr.2) h2 (fun x hx=>hlt x (by rw[e];simp[hx])),e⟩
theorem zzt{f:Func}{s:ChangeSpec}{apart fresh handsOn:Bool}{W W':World}{args:Array Value}{ds gs:List (DataW H)}{zcN:List MemPlace}{tb:TypeId}(hl:laidOutB P=true)
  (hrow:(f.params.toList.all fun t=>P.readableRec t&&decide (t<P.types.size))=true) (hres:f.resultTypes=#[tb]) (htb:P.underlying tb=some .bool)
  (hvars:∀q,DataW.TrodVars enc P W (fun _=>true) s.vars gs q->(∀x∈q,x.block<W.heap.size)->DataW.TrodVars enc P W' (fun b=>decide (b<W.heap.size)) s.vars gs q)
  (hs:s.fn H (ds++gs)={ results:=[.lit (.bool true)],args:=ds,vars:=gs }) (hW:DataW.Whole enc P f.params.toList s.vars apart W args.toList ds gs zcN) (hB:Ext W W') :
  s.post enc P f apart fresh handsOn false W args (.bool true) W':=by
 have hlt:=hW.lt
 have hW':=hW
 obtain⟨p,q,hA,hV,he,_,_⟩:=hW
 refine⟨ds,gs,zcN,[],p,q,hW',?_,?_,?_,Below.frame hB _,fun h=>by cases h⟩
 ·rw[hs,hres]
  exact⟨[],[],⟨1,by simp[DataW.trod,htb,Value.cells]⟩,rfl,rfl⟩
 ·rw[hs]
  exact zle hl hB hrow hA (fun x hx=>hlt x (by rw[he];simp[hx]))
 ·rw[hs]
  exact hvars q hV (fun x hx=>hlt x (by rw[he];simp[hx]))
theorem zH6{f:Func}{F:FuncId}{s:ChangeSpec}{apart fresh handsOn:Bool}{tb:TypeId}(hl:laidOutB P=true)
  (hrow:(f.params.toList.all fun t=>P.readableRec t&&decide (t<P.types.size))=true) (hres:f.resultTypes=#[tb]) (htb:P.underlying tb=some .bool) (hv:s.vars=[])
  (hs:∀ds:List (DataW H),ds.length=f.params.toList.length->s.fn H ds={ results:=[.lit (.bool true)],args:=ds,vars:=[] })
  (law:∀W args,zcD P W f.params.toList args.toList->FnP P F args W fun v W'=>v=.bool true/\Ext W W')
  (W:World) (base:Nat) (args:Array Value) (ds gs:List (DataW H)) (zcN:List MemPlace)
  (hval:∀(j:Nat) t v,f.params[j]?=some t->args[j]?=some v->Value.okWide P W .any base t v)
  (hW:DataW.Whole enc P f.params.toList s.vars apart W args.toList ds gs zcN) :
  Calls P F args W fun e W'=>∃v,e=.returned v/\s.post enc P f apart fresh handsOn false W args v W':=by
 have hW':=hW
 obtain⟨p,q,hA,hV,_,_,_⟩:=hW
 obtain⟨hg,hlen⟩:=zmI (fun j t v ht hv=>hval j t v (by simpa using ht) (by simpa using hv)) hA
 refine(law W args hg).2.mono fun e W' ⟨v,he,hvt,hE⟩=>⟨v,he,?_⟩
 subst hvt
 have hg0:gs=[]:=by
  have:=zfM hV
  rw[hv] at this
  exact List.length_eq_zero_iff.1 this
 refine zzt hl hrow hres htb (fun q h _=>?_) (by subst hg0;simpa using hs ds hlen) hW' hE
 subst hg0
 rw[hv] at h ⊢
 exact h
theorem law_at{f:Func}{F:FuncId}{s:ChangeSpec}{apart fresh handsOn:Bool}{tb:TypeId}(hl:laidOutB P=true)
  (hrow:(f.params.toList.all fun t=>P.readableRec t&&decide (t<P.types.size))=true) (hres:f.resultTypes=#[tb]) (htb:P.underlying tb=some .bool) (hv:s.vars=[])
  (hs:∀ds:List (DataW H),ds.length=f.params.toList.length->s.fn H ds={ results:=[.lit (.bool true)],args:=ds,vars:=[] })
  (W:World) (base:Nat) (args:Array Value) (law:zcD P W f.params.toList args.toList->FnP P F args W fun v W'=>v=.bool true/\Ext W W') (ds gs:List (DataW H)) (zcN:List MemPlace)
  (hval:∀(j:Nat) t v,f.params[j]?=some t->args[j]?=some v->Value.okWide P W .any base t v)
  (hW:DataW.Whole enc P f.params.toList s.vars apart W args.toList ds gs zcN) :
  Calls P F args W fun e W'=>∃v,e=.returned v/\s.post enc P f apart fresh handsOn false W args v W':=by
 have hW':=hW
 obtain⟨p,q,hA,hV,_,_,_⟩:=hW
 obtain⟨hg,hlen⟩:=zmI (fun j t v ht hv=>hval j t v (by simpa using ht) (by simpa using hv)) hA
 refine(law hg).2.mono fun e W' ⟨v,he,hvt,hE⟩=>⟨v,he,?_⟩
 subst hvt
 have hg0:gs=[]:=by
  have:=zfM hV
  rw[hv] at this
  exact List.length_eq_zero_iff.1 this
 refine zzt hl hrow hres htb (fun q h _=>?_) (by subst hg0;simpa using hs ds hlen) hW' hE
 subst hg0
 rw[hv] at h ⊢
 exact h
end Go.Sx
namespace Go.Sx
open Go.RowKit
variable {P:Program}
def zpv(P:Program)(rec:TypeId->Option (List TypeId)):Nat->List Field->Option (List TypeId)
 |_,[] => some []
 |off,f::r =>
  match rec f.type,zpv P rec (off+P.cellsOf f.type) r with
  |some l,some l' => bif Nat.beq f.offset off&&Nat.beq l.length (P.cellsOf f.type) then some (l++l') else none
  |_,_ => none
def zkB(l:List TypeId):Nat->List TypeId
 |0 => []
 |n+1 => l++zkB l n
def znP(P:Program):Nat->TypeId->Option (List TypeId)
 |0,_ => none
 |d+1,t =>
  match P.underlying t with
  |some (.struct fs) =>
   match zpv P (znP P d) 0 fs.toList with
   |some l => bif Nat.beq l.length (P.cellsOf t) then some l else none
   |none => none
  |some (.array m e) =>
   match znP P d e with
   |some l => bif Nat.beq l.length (P.cellsOf e)&&Nat.beq (zkB l m).length (P.cellsOf t) then some (zkB l m) else none
   |none => none
  |some _ => some [t]
  |none => none
def zHC(P:Program)(w:World)(t:TypeId)(v:Value):Prop:=∃n,Good P w n t [v]
inductive zdy(P:Program)(w:World):List TypeId->List Value->Prop
 |nil:zdy P w [] []
 |cons {t ts v vs}:zHC P w t v->zdy P w ts vs->zdy P w (t::ts) (v::vs)
theorem zdy.append{w:World}{ts us:List TypeId}{vs ws:List Value}(h:zdy P w ts vs)(k:zdy P w us ws):zdy P w (ts++us) (vs++ws):=by
 induction h with
 |nil => exact k
 |cons h1 _ ih => exact .cons h1 ih
theorem zrQ{w:World}{rec:TypeId->Option (List TypeId)}{n:Nat}(ih:∀t l cs,rec t=some l->Good P w n t cs->zdy P w l cs):∀(fs:List Field)(off:Nat)(l:List TypeId)(cs:List Value),zpv P rec off fs=some l ->
  (∀f∈fs,Good P w n f.type ((cs.drop f.offset).take (P.cellsOf f.type)))->∃l',zdy P w l l'/\l'=(cs.drop off).take l.length
 |[],off,l,cs,h,_ => by simp[zpv] at h;subst h;exact⟨[],.nil,by simp⟩
 |f::r,off,l,cs,h,hg => by
  unfold zpv at h
  split at h
  ·rename_i l1 l2 h1 h2
   simp only[cond_eq_ite] at h
   split at h
   ·rename_i hc
    simp only[Bool.and_eq_true,Nat.beq_eq] at hc
    obtain⟨ho,hl⟩:=hc
    obtain rfl:=Option.some.inj h
    have g1:=ih _ _ _ h1 (hg f (List.mem_cons_self ..))
    obtain⟨l2',g2,e2⟩:=zrQ ih r _ l2 cs h2 (fun x hx=>hg x (List.mem_cons_of_mem _ hx))
    refine⟨_,g1.append g2,?_⟩
    rw[e2,ho,<-hl,List.length_append,<-List.drop_drop,List.take_add]
   ·cases h
  ·cases h
theorem zrP{w:World}{l:List TypeId}{cs:List Value}{c:Nat}(hc:l.length=c):∀(m off:Nat),(∀i,i<m->zdy P w l ((cs.drop (off+i*c)).take c))->∃l',zdy P w (zkB l m) l'/\l'=(cs.drop off).take (zkB l m).length
 |0,off,_ => ⟨[],.nil,by simp[zkB]⟩
 |m+1,off,h => by
  have h0:=h 0 (by omega)
  obtain⟨l',g,e⟩:=zrP hc m (off+c) (fun i hi=>by
   have:=h (i+1) (by omega)
   rw[show off+(i+1)*c=off+c+i*c by rw[Nat.add_mul];omega] at this
   exact this)
  refine⟨_,h0.append g,?_⟩
  simp only[zkB,List.length_append,Nat.zero_mul,Nat.add_zero]
  rw[e,hc,<-List.drop_drop,List.take_add]
theorem zcO{w:World}:∀(d:Nat)(t:TypeId)(l:List TypeId)(n:Nat)(cs:List Value),znP P d t=some l->Good P w n t cs->zdy P w l cs
 |0,t,l,n,cs,h,_ => by cases h
 |d+1,t,l,0,cs,h,hg => hg.elim
 |d+1,t,l,n+1,cs,h,hg => by
  unfold znP at h
  have hg0:=hg
  unfold Good at hg
  cases hu:P.underlying t with
  |none => rw[hu] at h;cases h
  |some u =>
   rw[hu] at h hg
   have hleaf:cs.length=1->zdy P w [t] cs:=by
    intro h1
    match cs,h1 with
    |[v],_ => exact .cons ⟨n+1,hg0⟩ .nil
   cases u with
   |struct fs =>
    simp only at h hg
    split at h
    ·rename_i l0 hl0
     simp only[cond_eq_ite] at h
     split at h
     ·rename_i hc
      have hc:l0.length=P.cellsOf t:=by simpa using hc
      obtain rfl:=Option.some.inj h
      obtain⟨l',g,e⟩:=zrQ (fun t' l1 cs' h1 hg1=>zcO d t' l1 n cs' h1 hg1) fs.toList 0 l0 cs hl0 hg.2
      rw[hc,<-hg.1] at e
      simp at e
      rw[<-e];exact g
     ·cases h
    ·cases h
   |array m e =>
    simp only at h hg
    split at h
    ·rename_i l0 hl0
     simp only[cond_eq_ite] at h
     split at h
     ·rename_i hc
      simp only[Bool.and_eq_true,Nat.beq_eq] at hc
      obtain rfl:=Option.some.inj h
      obtain⟨l',g,e⟩:=zrP (P:=P) (w:=w) (cs:=cs) hc.1 m 0 (fun i hi=>by
       have:=zcO d e l0 n _ hl0 (hg.2 i hi)
       simpa using this)
      rw[hc.2,<-hg.1] at e
      simp at e
      rw[<-e];exact g
     ·cases h
    ·cases h
   |bool => obtain rfl:=Option.some.inj h;obtain⟨_,rfl⟩:=hg;exact hleaf rfl
   |string => obtain rfl:=Option.some.inj h;obtain⟨_,rfl,_⟩:=hg;exact hleaf rfl
   |int k => obtain rfl:=Option.some.inj h;obtain⟨_,rfl,_⟩:=hg;exact hleaf rfl
   |pointer e => obtain rfl:=Option.some.inj h;rcases hg with rfl|⟨_,_,rfl,_⟩<;>exact hleaf rfl
   |slice e => obtain rfl:=Option.some.inj h;rcases hg with rfl|⟨_,_,_,rfl,_⟩<;>exact hleaf rfl
   |_ => obtain rfl:=Option.some.inj h;obtain⟨_,rfl⟩:=hg;exact hleaf rfl
theorem zaL{w:World}{t:TypeId}{v:Value}{k:IntKind}(hu:P.underlying t=some (.int k))(h:zHC P w t v):∃x,v=.int k x/\InR k x:=by
 obtain⟨n,h⟩:=h
 cases n with
 |zero => exact h.elim
 |succ n => unfold Good at h;rw[hu] at h;simpa using h
theorem zuU{w:World}{t:TypeId}{v:Value}(hu:P.underlying t=some .bool)(h:zHC P w t v):∃b,v=.bool b:=by
 obtain⟨n,h⟩:=h
 cases n with
 |zero => exact h.elim
 |succ n => unfold Good at h;rw[hu] at h;simpa using h
theorem zc3{w:World}{t:TypeId}{v:Value}(hu:P.underlying t=some .string)(h:zHC P w t v):∃s:ByteArray,v=.string s/\s.size<=9223372036854775807:=by
 obtain⟨n,h⟩:=h
 cases n with
 |zero => exact h.elim
 |succ n => unfold Good at h;rw[hu] at h;simpa using h
theorem zfh{w:World}{t e:TypeId}{v:Value}(hu:P.underlying t=some (.slice e))(h:zHC P w t v):∃(p:Option Addr) (len cap:Nat),v=.slice p len cap/\len<=cap/\cap<=9223372036854775807/\(p=none->cap=0) /\
  ∀a,p=some a->∀i,i<cap->∃n es,w.cells? 0 (a.add (i*P.cellsOf e)) (P.cellsOf e)=some es/\Good P w n e es:=by
 obtain⟨n,h⟩:=h
 cases n with
 |zero => exact h.elim
 |succ n =>
  unfold Good at h
  rw[hu] at h
  rcases h with h|⟨a,len,cap,h,h1,h2,h3⟩
  ·simp only[List.cons.injEq,and_true] at h
   exact⟨none,0,0,h,Nat.le_refl _,by omega,fun _=>rfl,fun a ha=>by cases ha⟩
  ·simp only[List.cons.injEq,and_true] at h
   refine⟨some a,len,cap,h,h1,h2,fun ha=>(by cases ha),fun b hb i hi=>?_⟩
   obtain rfl:=Option.some.inj hb
   obtain⟨es,h4,h5⟩:=h3 i hi
   exact⟨n,es,h4,h5⟩
theorem zuC{w:World}{t:TypeId}{v:Value}{d:Nat}{l:List TypeId}(hl:znP P d t=some l)(h:zBA P w t v):∃cs,zdy P w l cs/\v=bif zda P t then .agg cs.toArray else cs.headD undef:=by
 obtain⟨n,cs,hg,hv⟩:=h
 exact⟨cs,zcO d t l n cs hl hg,hv⟩
theorem zai{w:World}{t:TypeId}{ts:List TypeId}{cs:List Value}(h:zdy P w (t::ts) cs):∃v vs,cs=v::vs/\zHC P w t v/\zdy P w ts vs:=by
 cases h with
 |cons h1 h2 => exact⟨_,_,rfl,h1,h2⟩
theorem zhN{w:World}{cs:List Value}(h:zdy P w [] cs):cs=[]:=by cases h;rfl
theorem zuB{w:World}{t:TypeId}{ts:List TypeId}{cs:List Value}(h:zcD P w (t::ts) cs):∃v vs,cs=v::vs/\zBA P w t v/\zcD P w ts vs:=by
 cases h with
 |cons h1 h2 => exact⟨_,_,rfl,h1,h2⟩
theorem zxg{w:World}{cs:List Value}(h:zcD P w [] cs):cs=[]:=by cases h;rfl
end Go.Sx
namespace Go.Sx
open Go.RowKit
variable {P:Program}
structure zaC(P:Program)(w:World)(e:TypeId)(p:Option Addr)(l c:Nat):Prop where
 le:l<=c
 max:c<=9223372036854775807
 nil:p=none->c=0
 el:∀a,p=some a->∀i,i<c->∃n es,w.cells? 0 (a.add (i*P.cellsOf e)) (P.cellsOf e)=some es/\Good P w n e es
def zwE(P:Program)(w:World)(t:TypeId)(R:Value->Prop):Prop :=
 match P.underlying t with
 |some (.int k) => ∀x:Int,InR k x->R (.int k x)
 |some .bool => ∀b:Bool,R (.bool b)
 |some .string => ∀s:ByteArray,s.size<=9223372036854775807->R (.string s)
 |some (.slice e) => ∀(p:Option Addr)(l c:Nat),zaC P w e p l c->R (.slice p l c)
 |_ => ∀v,zHC P w t v->R v
def zoX(P:Program)(w:World):List TypeId->(List Value->Prop)->Prop
 |[],R => R []
 |t::ts,R => zwE P w t fun v => zoX P w ts fun vs => R (v::vs)
def zeP(P:Program)(w:World):List TypeId->(List Value->Prop)->Prop
 |[],R => R []
 |t::ts,R =>
  match znP P 6 t with
  |some l => zoX P w l fun cs => zeP P w ts fun vs => R ((bif zda P t then .agg cs.toArray else cs.headD undef)::vs)
  |none => ∀v,zBA P w t v->zeP P w ts fun vs => R (v::vs)
theorem zAQ{w:World}{t:TypeId}{R:Value->Prop}(h:zwE P w t R){v:Value}(hl:zHC P w t v):R v:=by
 unfold zwE at h
 split at h
 ·rename_i k hu
  obtain⟨x,rfl,hx⟩:=zaL hu hl
  exact h x hx
 ·rename_i hu
  obtain⟨b,rfl⟩:=zuU hu hl
  exact h b
 ·rename_i hu
  obtain⟨s,rfl,hs⟩:=zc3 hu hl
  exact h s hs
 ·rename_i e hu
  obtain⟨p,l,c,rfl,h1,h2,h3,h4⟩:=zfh hu hl
  exact h p l c ⟨h1,h2,h3,h4⟩
 ·exact h v hl
theorem znQ{w:World}:∀{l:List TypeId}{R:List Value->Prop},zoX P w l R->∀{cs:List Value},zdy P w l cs->R cs
 |[],R,h,cs,hl => by obtain rfl:=zhN hl;exact h
 |t::ts,R,h,cs,hl => by
  obtain⟨v,vs,rfl,h1,h2⟩:=zai hl
  exact znQ (zAQ h h1) h2
theorem zmt{w:World}:∀{ts:List TypeId}{R:List Value->Prop},zeP P w ts R->∀{vs:List Value},zcD P w ts vs->R vs
 |[],R,h,vs,hg => by obtain rfl:=zxg hg;exact h
 |t::ts,R,h,vs,hg => by
  obtain⟨v,vs,rfl,h1,h2⟩:=zuB hg
  unfold zeP at h
  split at h
  ·rename_i l hl
   obtain⟨cs,h3,rfl⟩:=zuC hl h1
   exact zmt (R:=fun vs=>R ((bif zda P t then .agg cs.toArray else cs.headD undef)::vs)) (znQ h h3) h2
  ·exact zmt (R:=fun vs=>R (v::vs)) (h v h1) h2
theorem zfu{w:World}{ts:List TypeId}{R:Array Value->Prop}(h:zeP P w ts fun l=>R l.toArray)(args:Array Value)(hg:zcD P w ts args.toList):R args:=by
 have:=zmt h hg
 simpa using this
end Go.Sx
namespace Go.Sx
open Go.RowKit
variable {P:Program}
theorem add_zero(a:Addr):a.add 0=a:=by simp[Addr.add]
theorem zft(a:Addr)(m n:Nat):(a.add m).add n=a.add (m+n):=by
 unfold Addr.add
 by_cases hm:m=0
 ·subst hm;simp
 ·by_cases hn:n=0
  ·subst hn;simp[hm]
  ·rw[if_neg hm,if_neg hn,if_neg (by omega)];simp[Nat.add_assoc]
theorem zae(w:World)(p:Option Addr)(i:Int)(n j:Nat):cell w (pIdx p i n) j=cell w p (i.toNat*n+j):=by
 cases p with
 |none => rfl
 |some a => simp[cell,pIdx,zft]
theorem zak(w:World)(p:Option Addr)(m j:Nat):cell w (pAdd p m) j=cell w p (m+j):=by
 cases p with
 |none => rfl
 |some a => simp[cell,pAdd,zft]
theorem zo7(w:World)(p:Option Addr)(c:Nat)(l:Int)(n j:Nat)(h:c≠l.toNat):cell w (pCut p c l n) j=cell w p (l.toNat*n+j):=by
 unfold pCut
 rw[if_neg h]
 cases p with
 |none => rfl
 |some a => simp[cell,zft]
theorem zfF(p:Option Addr)(c n:Nat):pCut p c 0 n=p:=by
 unfold pCut
 split
 ·rfl
 ·cases p<;>simp[add_zero]
theorem zah{p:Option Addr}{i:Int}{n:Nat}:pIdx p i n=none↔p=none:=by cases p<;>simp[pIdx]
theorem zdk{p:Option Addr}{n:Nat}:pAdd p n=none↔p=none:=by cases p<;>simp[pAdd]
theorem zdQ{w:World}{p:Option Addr}{i:Nat}{v:Value}(h:cell w p i=some v):∃a,p=some a/\a.block<w.heap.size/\w.cell? (a.add i)=some v:=by
 cases p with
 |none => cases h
 |some a =>
  refine⟨a,rfl,?_,h⟩
  have:=World.block_lt_of_cell? w (a.add i) h
  rwa [zaU] at this
theorem zJe{w:World}{p:Option Addr}{i:Nat}{v:Value}(h:cell w p i=some v):p≠none:=by
 intro hp;subst hp;cases h
theorem zaz{w w':World}(he:Ext w w'){p:Option Addr}{i:Nat}{v:Value}(h:cell w p i=some v):cell w' p i=some v:=by
 obtain⟨a,rfl,hb,h⟩:=zdQ h
 have:=Below.cell he (p:=a.add i) (by rw[zaU];exact hb)
 simp only[cell,Option.bind_some] at this ⊢
 rw[this];exact h
def zau(w:World)(p:Option Addr)(vs:List Value):Prop:=∀i v,vs[i]?=some v->cell w p i=some v
theorem zau.ext{w w':World}{p:Option Addr}{vs:List Value}(h:zau w p vs)(he:Ext w w'):zau w' p vs:=fun i v hv=>zaz he (h i v hv)
theorem zau.nil{w:World}{p:Option Addr}:zau w p []:=fun i v hv=>by simp at hv
theorem zau.at{w:World}{p:Option Addr}{vs:List Value}(h:zau w p vs)(i:Nat)(hi:i<vs.length):cell w p i=some vs[i]:=h i _ (List.getElem?_eq_getElem hi)
theorem zau.lt{w:World}{p:Option Addr}{vs:List Value}(h:zau w p vs)(hv:vs≠[]):∀a,p=some a->a.block<w.heap.size:=by
 intro a ha
 subst ha
 have:=h.at 0 (by cases vs<;>simp_all)
 obtain⟨b,hb,hl,_⟩:=zdQ this
 obtain rfl:=Option.some.inj hb
 exact hl
theorem zau.ne{w:World}{p:Option Addr}{vs:List Value}(h:zau w p vs)(hv:vs≠[]):p≠none:=by
 have:=h.at 0 (by cases vs<;>simp_all)
 exact zJe this
abbrev zeh(k:IntKind)(w:World)(p:Option Addr)(xs:List Int):Prop:=zau w p (xs.map (.int k))
theorem zeh.idx{k:IntKind}{w:World}{p:Option Addr}{xs:List Int}(h:zeh k w p xs){i:Int}(h0:0<=i)(hi:i<xs.length):cell w (pIdx p i 1) 0=some (.int k (xs.getD i.toNat 0)):=by
 rw[zae]
 refine h _ _ ?_
 have:i.toNat<xs.length:=by omega
 simp[this,List.getD_eq_getElem?_getD]
theorem zpC{f:Nat->Option Value}:∀{n:Nat}{es:List Value},(List.range n).mapM f=some es->es.length=n/\∀i u,es[i]?=some u->f i=some u:=by
 intro n es h
 have hg:∀(l:List Nat)(es:List Value),l.mapM f=some es->es.length=l.length/\∀(i:Nat)(u:Value),es[i]?=some u->∃j:Nat,l[i]?=some j/\f j=some u:=by
  intro l
  induction l with
  |nil => intro es h;simp at h;subst h;exact⟨rfl,fun i u h => by simp at h⟩
  |cons a r ih =>
   intro es h
   simp only[List.mapM_cons,Option.bind_eq_bind,Option.bind_eq_some_iff,Option.pure_def,Option.some.injEq] at h
   obtain⟨y,hy,ys,hys,rfl⟩:=h
   obtain⟨h1,h2⟩:=ih ys hys
   refine⟨by simp[h1],fun i u hu=>?_⟩
   cases i with
   |zero => simp at hu;subst hu;exact⟨a,rfl,hy⟩
   |succ i => simp at hu;simpa using h2 i u hu
 obtain⟨h1,h2⟩:=hg _ _ h
 refine⟨by simpa using h1,fun i u hu=>?_⟩
 obtain⟨j,hj,hf⟩:=h2 i u hu
 obtain⟨_,rfl⟩:=List.getElem?_eq_some_iff.1 hj
 simpa using hf
theorem cells?_some{w:World}{a:Addr}{n:Nat}{es:List Value}(h:w.cells? 0 a n=some es):es.length=n/\zau w (some a) es:=by
 unfold World.cells? at h
 rw[if_pos (Nat.zero_le _)] at h
 obtain⟨h1,h2⟩:=zpC h
 exact⟨h1,fun i v hv=>h2 i v hv⟩
theorem zaC.list{w:World}{e:TypeId}{p:Option Addr}{l c:Nat}{α:Type}(h:zaC P w e p l c)(enc:α->List Value)(ok:α->Prop)
  (hr:∀n es,Good P w n e es->es.length=P.cellsOf e->∃x,es=enc x/\ok x) :
  ∃xs:List α,xs.length=l/\(∀x∈xs,ok x)/\∀(i:Nat)(x:α),xs[i]?=some x->∀j u,(enc x)[j]?=some u->cell w p (i*P.cellsOf e+j)=some u:=by
 have key:∀m,m<=l->∃xs:List α,xs.length=m/\(∀x∈xs,ok x)/\∀(i:Nat)(x:α),xs[i]?=some x->∀j u,(enc x)[j]?=some u->cell w p (i*P.cellsOf e+j)=some u:=by
  intro m
  induction m with
  |zero => exact fun _ => ⟨[],rfl,(fun x hx => by cases hx),(fun i x hx => by simp at hx)⟩
  |succ m ih =>
   intro hm
   obtain⟨xs,h1,h2,h3⟩:=ih (by omega)
   have hc:=h.le
   cases p with
   |none => have:=h.nil rfl;omega
   |some a =>
    obtain⟨n,es,h4,h5⟩:=h.el a rfl m (by omega)
    obtain⟨h6,h7⟩:=cells?_some h4
    obtain⟨x,rfl,hx⟩:=hr n es h5 h6
    refine⟨xs++[x],by simp[h1],fun y hy=>?_,fun i y hy j u hu=>?_⟩
    ·rcases List.mem_append.1 hy with hy|hy
     ·exact h2 y hy
     ·simp at hy;subst hy;exact hx
    ·by_cases hi:i<xs.length
     ·rw[List.getElem?_append_left hi] at hy
      exact h3 i y hy j u hu
     ·rw[List.getElem?_append_right (by omega)] at hy
      obtain⟨hlt,he⟩:=List.getElem?_eq_some_iff.1 hy
      simp at hlt he
      obtain rfl:i=m:=by omega
      subst he
      have:=h7 j u hu
      simpa[cell,zft] using this
 exact key l (Nat.le_refl _)
theorem zaC.ints{w:World}{e:TypeId}{p:Option Addr}{l c:Nat}{k:IntKind}(h:zaC P w e p l c)(hu:P.underlying e=some (.int k))(hc:P.cellsOf e=1) :
  ∃xs:List Int,xs.length=l/\(∀x∈xs,InR k x)/\zeh k w p xs:=by
 obtain⟨xs,h1,h2,h3⟩:=h.list (fun x=>[Value.int k x]) (InR k) (fun n es hg _=>by
  cases n with
  |zero => exact hg.elim
  |succ n => unfold Good at hg;rw[hu] at hg;exact hg)
 refine⟨xs,h1,h2,fun i v hv=>?_⟩
 simp only[List.getElem?_map,Option.map_eq_some_iff] at hv
 obtain⟨x,hx,rfl⟩:=hv
 have:=h3 i x hx 0 _ rfl
 simpa[hc] using this
abbrev Own(B:Nat)(w:World)(e:TypeId)(s:Nat)(p:Option Addr)(n c:Nat)(xs:List Value):Prop:=w.ownsRow B e s (.slice p n c) n xs
def blk(p:Option Addr):Option Nat:=p.map (·.block)
structure zco(w w':World)(p q:Option Addr):Prop where
 by_:w.grownBy w' (blk p)
 new:blk q=blk p\/∀a,q=some a->w.heap.size<=a.block
def zbU(p q:Option Addr):Prop:=∀a b,p=some a->q=some b->a.block≠b.block
theorem zbU.symm{p q:Option Addr}(h:zbU p q):zbU q p:=fun a b ha hb he=>h b a hb ha he.symm
theorem zbU.nil{p:Option Addr}:zbU p none:=fun a b _ hb=>by cases hb
theorem Own.nil{B:Nat}{w:World}{e:TypeId}{s:Nat}:Own B w e s none 0 0 []:=World.ownsRow_nil w B e s
theorem Own.lt{B:Nat}{w:World}{e:TypeId}{s:Nat}{p:Option Addr}{n c:Nat}{xs:List Value}(h:Own B w e s p n c xs):∀a,p=some a->B<=a.block/\a.block<w.heap.size:=by
 intro a ha
 subst ha
 exact World.ownsRow.lt h a.block rfl
theorem Own.len{B:Nat}{w:World}{e:TypeId}{s:Nat}{p:Option Addr}{n c:Nat}{xs:List Value}(h:Own B w e s p n c xs):xs.length=n*s:=h.1
theorem Own.le{B:Nat}{w:World}{e:TypeId}{s:Nat}{p:Option Addr}{n c:Nat}{xs:List Value}(h:Own B w e s p n c xs):n<=c/\c<=9223372036854775807:=by
 rcases h.2 with⟨h1,h2⟩|⟨g,cap,cur,h1,_,_,h2,h3,_⟩
 ·simp at h1;omega
 ·simp at h1;simp[maxLen] at h3;omega
theorem Own.cells{B:Nat}{w:World}{e:TypeId}{s:Nat}{p:Option Addr}{n c:Nat}{xs:List Value}(h:Own B w e s p n c xs):zau w p xs:=by
 intro i v hv
 rcases h.2 with⟨h1,h2⟩|⟨g,cap,cur,h1,_⟩
 ·have:=h.1;subst h2;simp at this;subst this;simp at hv
 ·simp at h1
  obtain⟨rfl,rfl⟩:=h1
  have:=World.ownsRow.cells h (g:=g) rfl i v hv
  exact this
theorem Own.grew{B B':Nat}{w w':World}{e:TypeId}{s:Nat}{p q q':Option Addr}{n c:Nat}{xs:List Value}(h:Own B w e s p n c xs)(ha:zbU p q)(hg:zco w w' q q'):Own B w' e s p n c xs:=by
 refine World.ownsRow.kept h hg.by_ ?_
 cases p with
 |none => exact .inl rfl
 |some a =>
  refine .inr ?_
  cases q with
  |none => simp[blk,Value.ownBlock]
  |some b => simp[blk,Value.ownBlock];exact ha a b rfl rfl
theorem zbU.grew{B:Nat}{w w':World}{e:TypeId}{s:Nat}{p q q':Option Addr}{n c:Nat}{xs:List Value}(ha:zbU p q)(h:Own B w e s p n c xs)(hg:zco w w' q q'):zbU p q':=by
 intro a b h1 h2 he
 rcases hg.new with hn|hn
 ·subst h2;subst h1
  cases q with
  |none => simp[blk] at hn
  |some x => simp[blk] at hn;exact ha a x rfl rfl (by omega)
 ·have:=hn b h2
  have:=(h.lt a h1).2
  omega
theorem zau.grew{w w':World}{p q q':Option Addr}{vs:List Value}(h:zau w p vs)(ha:zbU p q)(hg:zco w w' q q'):zau w' p vs:=by
 intro i v hv
 obtain⟨a,rfl,hb,hc⟩:=zdQ (h i v hv)
 refine World.grownBy.cell hg.by_ hc ?_
 rw[zaU]
 cases q with
 |none => simp[blk]
 |some b => simp[blk];exact ha a b rfl rfl
theorem zbU.grewC{w w':World}{p q q':Option Addr}(ha:zbU p q)(h:∀a,p=some a->a.block<w.heap.size)(hg:zco w w' q q'):zbU p q':=by
 intro a b h1 h2 he
 rcases hg.new with hn|hn
 ·subst h2;subst h1
  cases q with
  |none => simp[blk] at hn
  |some x => simp[blk] at hn;exact ha a x rfl rfl (by omega)
 ·have:=hn b h2
  have:=h a h1
  omega
theorem zco.below{B:Nat}{w0 w w':World}{p q:Option Addr}(hg:zco w w' p q)(h:Below B w0 w)(hB:B<=w.heap.size)(hp:∀a,p=some a->B<=a.block):Below B w0 w' :=
 Below.grown h hg.by_ hB (fun k hk=>by
  cases p with
  |none => cases hk
  |some a => simp[blk] at hk;subst hk;exact hp a rfl)
theorem zco.ext{w0 w w':World}{e:TypeId}{s:Nat}{p q:Option Addr}{n c:Nat}{xs:List Value}(hg:zco w w' p q)(h:Ext w0 w)(ho:Own w0.heap.size w e s p n c xs):Ext w0 w' :=
 zco.below hg h h.size (fun a ha=>(Own.lt ho a ha).1)
theorem zco.size{w w':World}{p q:Option Addr}(hg:zco w w' p q):w.heap.size<=w'.heap.size:=hg.by_.size
theorem zzi{w w':World}(h:Ext w w'):zco w w' none none:=⟨⟨h.os,h.tape,h.output,h.size,fun k hk _=>h.block k hk⟩,.inl rfl⟩
theorem zco.of_ext{w w' w'':World}{p q:Option Addr}(h:Ext w w')(hg:zco w' w'' p q):zco w w'' p q :=
 ⟨⟨hg.by_.os.trans h.os,hg.by_.tape.trans h.tape,hg.by_.output.trans h.output,Nat.le_trans h.size hg.by_.size,
  fun k hk hne=>(hg.by_.block k (Nat.lt_of_lt_of_le hk h.size) hne).trans (h.block k hk)⟩,hg.new.imp id (fun f a ha=>Nat.le_trans h.size (f a ha))⟩
theorem Own.ext{B:Nat}{w w':World}{e:TypeId}{s:Nat}{p:Option Addr}{n c:Nat}{xs:List Value}(h:Own B w e s p n c xs)(he:Ext w w'):Own B w' e s p n c xs :=
 Own.grew (B':=B) h zbU.nil (zzi he)
theorem Own.weak{B B':Nat}{w:World}{e:TypeId}{s:Nat}{p:Option Addr}{n c:Nat}{xs:List Value}(h:Own B w e s p n c xs)(hb:B'<=B):Own B' w e s p n c xs:=by
 refine⟨h.1,h.2.imp id ?_⟩
 rintro⟨g,cap,cur,h1,h2,h3⟩
 exact⟨g,cap,cur,h1,by omega,h3⟩
def zfW(P:Program)(t:TypeId):Option (TypeId×Nat×Nat×Value) :=
 match P.underlying t with
 |some (.slice e) =>
  match P.info? e with
  |some i => match i.zero with
   |some z => bif Nat.beq z.cells.size i.size then some (e,i.size,i.bytes,z) else none
   |none => none
  |none => none
 |_ => none
theorem zd0{t e:TypeId}{s b:Nat}{z:Value}(h:zfW P t=some (e,s,b,z)):∃i,P.underlying t=some (.slice e)/\P.info? e=some i/\i.zero=some z/\i.size=s/\i.bytes=b/\z.cells.size=s:=by
 unfold zfW at h
 split at h
 ·rename_i e' hu
  split at h
  ·rename_i i hi
   split at h
   ·rename_i z' hz
    simp only[cond_eq_ite] at h
    split at h
    ·rename_i hc
     simp only[Option.some.injEq,Prod.mk.injEq] at h
     obtain⟨rfl,rfl,rfl,rfl⟩:=h
     exact⟨i,hu,hi,hz,rfl,rfl,Nat.eq_of_beq_eq_true hc⟩
    ·cases h
   ·cases h
  ·cases h
 ·cases h
theorem zuy(off:Nat):∀(l:List Value)(k:Nat)(cs:Array Value),off+k+l.length<=cs.size ->
  ((l.zipIdx k).foldl (fun(cs:Array Value) (x:Value×Nat)=>cs.setIfInBounds (off+x.2) x.1) cs).toList=cs.toList.take (off+k)++l++cs.toList.drop (off+k+l.length)
 |[],k,cs,h => by simp
 |v::r,k,cs,h => by
  simp only[List.zipIdx_cons,List.foldl_cons]
  simp only[List.length_cons] at h
  rw[zuy off r (k+1) _ (by simp;omega)]
  have hlt:off+k<cs.size:=by omega
  simp only[Array.toList_setIfInBounds]
  have e1:(cs.toList.set (off+k) v).take (off+(k+1))=cs.toList.take (off+k)++[v]:=by
   rw[<-Nat.add_assoc,List.take_set]
   rw[List.take_succ_eq_append_getElem (by simpa using hlt)]
   rw[List.set_append_right _ _ (by simp;omega)]
   simp[Nat.min_eq_left (Nat.le_of_lt hlt)]
  have e2:(cs.toList.set (off+k) v).drop (off+(k+1)+r.length)=cs.toList.drop (off+k+(r.length+1)):=by
   rw[List.drop_set_of_lt (by omega)]
   congr 1;omega
  rw[e1,e2]
  simp
def znb:Nat->List Value->List (Nat×Value)
 |_,[] => []
 |i,v::r => (i,v)::znb (i+1) r
theorem zrL(s:Nat):∀(vs:List Value)(i:Nat)(cs:Array Value),(∀v∈vs,v.cells.size=s)->i*s+vs.length*s<=cs.size ->
  ∃out,Instr.fill (fun i=>some (i*s,s)) cs (znb i vs)=some out/\out.toList=cs.toList.take (i*s)++vs.flatMap (fun v=>v.cells.toList)++cs.toList.drop (i*s+vs.length*s)
 |[],i,cs,_,h => ⟨cs,rfl,by simp⟩
 |v::r,i,cs,hs,h => by
  have hv:=hs v (List.mem_cons_self ..)
  simp only[List.length_cons,Nat.add_mul,Nat.one_mul] at h
  have h1:i*s+s<=cs.size:=by omega
  let cs':=v.cells.zipIdx.foldl (fun(cs:Array Value) (x:Value×Nat)=>cs.setIfInBounds (i*s+x.2) x.1) cs
  have e1:cs'.toList=cs.toList.take (i*s)++v.cells.toList++cs.toList.drop (i*s+s):=by
   have:=zuy (i*s) v.cells.toList 0 cs (by simp;omega)
   simp only[Nat.add_zero,Array.length_toList,hv] at this
   rw[<-this]
   have e0:cs'=v.cells.zipIdx.toList.foldl (fun(cs:Array Value) (x:Value×Nat)=>cs.setIfInBounds (i*s+x.2) x.1) cs:=by rw[Array.foldl_toList]
   rw[e0,Array.toList_zipIdx]
  have hsz:cs'.size=cs.size:=by
   have:=congrArg List.length e1
   simp[hv] at this;omega
  obtain⟨out,h2,h3⟩:=zrL s r (i+1) cs' (fun u hu=>hs u (List.mem_cons_of_mem _ hu)) (by rw[hsz,Nat.add_mul];omega)
  refine⟨out,?_,?_⟩
  ·simp only[znb,Instr.fill]
   rw[if_neg (by simp[hv];omega)]
   exact h2
  ·rw[h3,e1]
   have hl:(cs.toList.take (i*s)).length=i*s:=by simp;omega
   have hl2:(cs.toList.take (i*s)++v.cells.toList).length=(i+1)*s:=by simp[hv,Nat.add_mul];omega
   rw[List.take_append_of_le_length (by omega),List.take_of_length_le (by omega)]
   rw[List.drop_append,List.drop_of_length_le (by omega),hl2,List.drop_drop]
   simp only[List.nil_append,List.flatMap_cons,List.length_cons,List.append_assoc]
   congr 4
   simp only[Nat.add_mul,Nat.one_mul];omega
theorem zcG{t e:TypeId}{s b:Nat}{z:Value}(he:zfW P t=some (e,s,b,z))(vs:List Value){n:Nat}{parts:List (Nat×Value)}{w:World}{K:Value->World->Prop}(hp:parts=znb 0 vs)(hn:n=vs.length)
  (hs:∀v∈vs,v.cells.size=s) (h0:0<n*s) (h24:n*s<=16777216)
  (hk:∀w',(∀B,B<=w.heap.size->Own B w' e s (some ⟨w.heap.size,0,none⟩) n n (vs.flatMap fun v=>v.cells.toList))->Ext w w'->K (.slice (some ⟨w.heap.size,0,none⟩) n n) w'):Run P (.buildSlice t n parts) w K:=by
 obtain⟨i,h1,h2,h3,rfl,rfl,h6⟩:=zd0 he
 subst hp;subst hn
 obtain⟨out,h7,h8⟩:=zrL i.size vs 0 ((Array.range (vs.length*i.size)).map (z.cells[·%z.cells.size]!)) hs (by simp)
 have h9:out.toList=vs.flatMap fun v=>v.cells.toList:=by rw[h8];simp
 have hlen:(vs.flatMap fun v=>v.cells.toList).length=vs.length*i.size:=by
  clear h7 h8 h9 hk h24 h0
  induction vs with
  |nil => simp
  |cons v r ih =>
   simp only[List.flatMap_cons,List.length_append,Array.length_toList,List.length_cons,Nat.add_mul,Nat.one_mul]
   rw[ih (fun u hu=>hs u (List.mem_cons_of_mem _ hu)),hs v (List.mem_cons_self ..)];omega
 refine⟨_,w.alloc (.cells out e),?_,hk _ (fun B hB=>⟨hlen,.inr ⟨w.heap.size,vs.length,out,rfl,hB,heap_alloc_new w _,Nat.le_refl _,?_,?_,?_⟩⟩) ?_⟩
 ·show(Instr.buildSlice t vs.length _).run P w=_
  exact run_buildSlice w t e vs.length _ out i z h1 h2 h3 (by omega) (by omega) (by simpa using h7)
 ·simp only[maxLen]
  have:vs.length<=vs.length*i.size:=Nat.le_mul_of_pos_right _ (by rcases Nat.eq_zero_or_pos i.size with h|h;(· rw[h] at h0;simp at h0);exact h)
  omega
 ·rw[<-Array.length_toList,h9,hlen]
 ·rw[h9,<-hlen,List.take_length]
 ·exact Below.alloc (Below.refl _ _) (Nat.le_refl _) _
theorem zB1{t ty e:TypeId}{i:TypeInfo}{z:Value}(g1:P.underlying t=some (.slice e))(g2:P.info? e=some i)(g3:i.zero=some z)(g6:z.cells.size=i.size)(hs:0<i.size)
  {B:Nat} {w:World} {p:Option Addr} {a:Addr} {n c m d:Nat} {xs news:List Value}
  (ho:Own B w e i.size p n c xs) (hB:B<=w.heap.size) (hl:news.length=m*i.size) (hn:zau w (some a) news) (h1:∀u∈news,u.oneCell'=true) (hb:(n+m)*i.bytes<=140737488355328) (hm:n+m<=9223372036854775807) :
  ∃p' c' w',(Builtin.append_ #[t,t] ty #[.slice p n c,.slice (some a) m d]).run P w=.ok (.slice p' (n+m) c') w'/\Own B w' e i.size p' (n+m) c' (xs++news)/\zco w w' p p'/\(p'=none↔p=none/\m=0):=by
 have hlen:(xs++news).length=(n+m)*i.size:=by rw[List.length_append,ho.1,hl,Nat.add_mul]
 have hmax:n+m<=maxLen:=by simp only[maxLen];omega
 have fresh:∀(old:Nat),old<n+m->∀cur:Array Value,cur=xs.toArray++news.toArray++Builtin.zeroCells z.cells (grownCap w (n+m) old e-(n+m)) ->
   Own B (w.drew.alloc (.cells cur e)) e i.size (some ⟨w.heap.size,0,none⟩) (n+m) (grownCap w (n+m) old e) (xs++news)/\zco w (w.drew.alloc (.cells cur e)) p (some ⟨w.heap.size,0,none⟩):=by
  intro old hold cur hcur
  have hge:=grownCap_ge w (n+m) old e
  refine⟨⟨hlen,.inr ⟨w.heap.size,_,_,rfl,hB,heap_alloc_new w.drew _,hge,grownCap_le_maxLen w (n+m) old e hmax,?_,?_⟩⟩,⟨⟨rfl,rfl,rfl,by simp,fun k hk _=>World.grownBy_alloc w.drew _ none |>.block k hk (by simp)⟩,.inr fun x hx=>?_⟩⟩
  ·subst hcur
   simp only[Array.size_append,List.size_toArray,size_zeroCells,g6,ho.1,hl,<-Nat.add_mul]
   congr 1;omega
  ·subst hcur
   simp only[Array.toList_append]
   rw[<-hlen];exact List.take_left
  ·obtain rfl:=Option.some.inj hx;exact Nat.le_refl _
 rcases ho.2 with⟨hv,hn0⟩|⟨g,cap,cur,hv,hbg,hg,hnc,hcm,hcs,htake⟩
 ·obtain⟨rfl,_,rfl⟩:p=none/\n=0/\c=0:=by simpa using hv
  subst hn0
  have hx:xs=[]:=List.eq_nil_of_length_eq_zero (by simpa using ho.1)
  subst hx
  by_cases hm0:m=0
  ·subst hm0
   have hnn:news=[]:=List.eq_nil_of_length_eq_zero (by simpa using hl)
   subst hnn
   refine⟨none,0,w,?_,Own.nil,zzi (Below.refl _ _),by simp⟩
   simp[Builtin.append_,run_underlying g1,sizeOf,typeInfo,g2,Builtin.lenOf,Builtin.firstCells,loadCells,loadCellsFrom]
  ·have hr:=run_append_nil (P:=P) w t ty e i z g1 g2 g3 a m d news hl hn (by omega) (by omega) (by have h:=hb;simp only[Nat.zero_add] at h;omega)
   have hf:=fresh 0 (by omega) _ rfl
   simp only[Nat.zero_add,List.nil_append,Array.empty_append] at hf ⊢
   exact⟨_,_,_,hr,hf.1,hf.2,by simp[hm0]⟩
 ·obtain⟨rfl,_,rfl⟩:p=some ⟨g,0,none⟩/\n=n/\c=cap:=by simpa using hv
  by_cases hroom:n+m<=c
  ·have hfit:n*i.size+news.length<=cur.size:=by rw[hl,hcs,<-Nat.add_mul];exact Nat.mul_le_mul_right _ hroom
   have hr:=run_append_room (P:=P) w t ty e i g1 g2 g n c cur hg a m d news hl hn h1 hroom hfit
   refine⟨_,_,_,hr,⟨hlen,.inr ⟨g,c,_,rfl,hbg,setRow_heap w g cur _ e _ hg,hroom,hcm,?_,?_⟩⟩,⟨⟨rfl,rfl,rfl,by simp,fun k _ hk=>setRow_other w g k _ (fun e=>hk (by simp[blk,e]))⟩,.inl rfl⟩,by simp⟩
   ·simp only[List.size_toArray,List.length_append,List.length_take,List.length_drop,Array.length_toList]
    omega
   ·rw[htake,<-hlen]
    exact List.take_left
  ·have hr:=run_append_grow (P:=P) w t ty e i z g1 g2 g3 ⟨g,0,none⟩ n c xs ho.1 (World.ownsRow.cells ho (g:=g) rfl) a m d news hl hn (by omega) (by omega) (growslice_fits (by omega) hb)
   have hf:=fresh c (by omega) _ rfl
   exact⟨_,_,_,hr,hf.1,hf.2,by simp⟩
theorem zkR{t ty e:TypeId}{s b:Nat}{z:Value}(he:zfW P t=some (e,s,b,z))(hs:0<s){B:Nat}{w:World}{p q:Option Addr}{n c m d:Nat}{xs news:List Value}{K:Value->World->Prop}
  (ho:Own B w e s p n c xs) (hB:B<=w.heap.size) (hq:q≠none) (hl:news.length=m*s) (hn:zau w q news) (h1:∀u∈news,u.oneCell'=true) (hb:(n+m)*b<=140737488355328) (hm:n+m<=9223372036854775807)
  (hk:∀p' c' w',Own B w' e s p' (n+m) c' (xs++news)->zco w w' p p'->(p'=none↔p=none/\m=0)->K (.slice p' (n+m) c') w'):Run P (.append #[t,t] ty [.slice p n c,.slice q m d]) w K:=by
 obtain⟨i,g1,g2,g3,rfl,rfl,g6⟩:=zd0 he
 cases q with
 |none => exact absurd rfl hq
 |some a =>
  obtain⟨p',c',w',hr,h2,h3,h4⟩:=zB1 (ty:=ty) (d:=d) g1 g2 g3 g6 hs ho hB hl hn h1 hb hm
  exact⟨_,w',hr,hk p' c' w' h2 h3 h4⟩
theorem push{t ty e:TypeId}{s b:Nat}{z:Value}(he:zfW P t=some (e,s,b,z))(hs:0<s){B:Nat}{w:World}{p:Option Addr}{n c:Nat}{xs:List Value}{v:Value}
  {K:Option Addr->Nat->Nat->World->Prop} (ho:Own B w e s p n c xs) (hB:B<=w.heap.size) (hv:v.cells.size=s) (h1:∀u∈v.cells.toList,u.oneCell'=true) (hb:(n+1)*b<=140737488355328) (hs24:s<=16777216) (hm:n+1<=9223372036854775807)
  (hk:∀p' c' w',Own B w' e s p' (n+1) c' (xs++v.cells.toList)->zco w w' p p'->p'≠none->K p' (n+1) c' w') :
  ∀w1,Ext w w1->Run P (.buildSlice t 1 [(0,v)]) w1 fun v2 w2=>Ext w1 w2/\∃q:Option Addr,∃m:Nat,∃d:Nat,v2=.slice q m d/\∀w3,Ext w2 w3 ->
   Run P (.append #[t,t] ty [.slice p n c,.slice q m d]) w3 fun v4 w4=>∃q':Option Addr,∃m':Nat,∃d':Nat,v4=.slice q' m' d'/\K q' m' d' w4:=by
 intro w1 e1
 refine zcG he [v] rfl rfl (fun u hu=>by simp at hu;subst hu;exact hv) (by omega) (by omega) fun w2 o2 e2=>⟨e2,_,_,_,rfl,fun w3 e3=>?_⟩
 have o2:=(o2 w1.heap.size (Nat.le_refl _)).ext e3
 have ho':=((ho.ext e1).ext e2).ext e3
 have hsz:B<=w3.heap.size:=Nat.le_trans hB (Nat.le_trans e1.size (Nat.le_trans e2.size e3.size))
 refine zkR he hs ho' hsz (by simp) (news:=v.cells.toList) (by simp[hv]) (by simpa using o2.cells) h1 hb hm fun p' c' w4 h2 h3 h4=>⟨_,_,_,rfl,hk p' c' w4 h2 ?_ ?_⟩
 ·exact zco.of_ext e1 (zco.of_ext e2 (zco.of_ext e3 h3))
 ·intro hn;have:=h4.1 hn;omega
def zdt:List Value->Nat->List Value->List Value
 |xs,_,[] => xs
 |xs,i,v::r => zdt (xs.set i v) (i+1) r
theorem zKr{B:Nat}{w:World}{e:TypeId}{s:Nat}{a:Addr}{n c:Nat}{xs:List Value}(ho:Own B w e s (some a) n c xs){i:Nat}(hi:i<xs.length)(v:Value) :
  Own B (w.setCell (a.add i) v) e s (some a) n c (xs.set i v)/\zco w (w.setCell (a.add i) v) (some a) (some a):=by
 rcases ho.2 with⟨hv,_⟩|⟨g,cap,cur,hv,hbg,hg,hnc,hcm,hcs,htake⟩
 ·simp at hv
 ·obtain⟨rfl,rfl⟩:a=⟨g,0,none⟩/\c=cap:=by simpa using hv
  have hadd:(⟨g,0,none⟩:Addr).add i=⟨g,i,none⟩:=by unfold Addr.add;split<;>simp_all
  have hlt:g<w.heap.size:=(Array.getElem?_eq_some_iff.1 hg).1
  have hgv:w.heap[g]=.cells cur e (0,0):=(Array.getElem?_eq_some_iff.1 hg).2
  have hnew:(w.setCell ⟨g,i,none⟩ v).heap[g]?=some (.cells (cur.setIfInBounds i v) e (0,0)):=by
   unfold World.setCell
   rw[Array.getElem?_eq_getElem (by simpa using hlt),Array.getElem_modify]
   simp[hgv]
  have hle:xs.length<=cur.size:=by rw[ho.1,hcs];exact Nat.mul_le_mul_right _ hnc
  refine⟨⟨by simp[ho.1],.inr ⟨g,c,_,rfl,hbg,by rw[hadd];exact hnew,hnc,hcm,by simpa using hcs,?_⟩⟩,⟨⟨rfl,rfl,rfl,by simp[World.setCell],fun k hk hne=>?_⟩,.inl rfl⟩⟩
  ·rw[Array.toList_setIfInBounds,List.take_set,htake]
  ·refine Below.heap_setCell w _ v k ?_
   rw[hadd];intro he;exact hne (by simp[blk,he])
theorem zn0{B:Nat}{e:TypeId}{s:Nat}{a:Addr}{n c:Nat}:∀(vs:List Value)(k:Nat)(w:World)(xs:List Value)(off:Nat),Own B w e s (some a) n c xs->off+k+vs.length<=xs.length ->
  Own B (setCells w (a.add off) vs k) e s (some a) n c (zdt xs (off+k) vs)/\zco w (setCells w (a.add off) vs k) (some a) (some a)
 |[],k,w,xs,off,ho,_ => ⟨ho,⟨⟨rfl,rfl,rfl,Nat.le_refl _,fun _ _ _ => rfl⟩,.inl rfl⟩⟩
 |v::r,k,w,xs,off,ho,h => by
  simp only[List.length_cons] at h
  obtain⟨h1,h2⟩:=zKr ho (i:=off+k) (by omega) v
  obtain⟨h3,h4⟩:=zn0 r (k+1) _ _ off h1 (by simp;omega)
  simp only[setCells,zdt,zft]
  refine⟨by rw[Nat.add_assoc];exact h3,⟨⟨h4.by_.os.trans h2.by_.os,h4.by_.tape.trans h2.by_.tape,h4.by_.output.trans h2.by_.output,Nat.le_trans h2.by_.size h4.by_.size,fun j hj hne=>?_⟩,.inl rfl⟩⟩
  exact(h4.by_.block j (Nat.lt_of_lt_of_le hj h2.by_.size) hne).trans (h2.by_.block j hj hne)
theorem zaS{B:Nat}{w:World}{e:TypeId}{s:Nat}{q a:Option Addr}{n c off:Nat}{xs vs:List Value}{ns:List Nat}{K:World->Prop}
  (ho:Own B w e s q n c xs) (ha:a=q.map (·.add off)) (hlen:off+vs.length<=xs.length) (hpos:vs≠[]) (h1:∀v∈vs,v.oneCell'=true) (hns:∀b∈ns,∀x,q=some x->x.block≠b)
  (hk:∀w',Own B w' e s q n c (zdt xs off vs)->zco w w' q q->K w'):zan w a vs ns K:=by
 cases q with
 |none =>
  rcases ho.2 with⟨_,h2⟩|⟨g,cap,cur,hv,_⟩
  ·have:=ho.1;rw[h2] at this;simp at this;subst this
   cases vs with
   |nil => exact absurd rfl hpos
   |cons v r => simp at hlen
  ·simp at hv
 |some x =>
  simp only[Option.map_some] at ha
  subst ha
  have hcells:=ho.cells
  refine⟨⟨by simp,fun i hi=>?_,fun i hi y hy=>?_,?_,h1⟩,fun w' hw'=>?_⟩
  ·have:=hcells (off+i) _ (List.getElem?_eq_getElem (by omega))
   simp only[cell,Option.bind_some] at this ⊢
   rw[zft,this];rfl
  ·obtain rfl:=Option.some.inj hy
   rcases ho.2 with⟨hv,_⟩|⟨g,cap,cur,hv,hbg,hg,_⟩
   ·simp at hv
   ·obtain⟨rfl,rfl⟩:x=⟨g,0,none⟩/\c=cap:=by simpa using hv
    unfold World.frozen?
    rw[zaU,zaU,hg]
    simp
  ·intro b hb y hy
   obtain rfl:=Option.some.inj hy
   rw[zaU];exact hns b hb x rfl
  ·obtain⟨h2,h3⟩:=zn0 vs 0 w xs off ho (by simpa using hlen)
   rw[hw']
   exact hk _ h2 h3
theorem ztk{q:Option Addr}{i:Int}{n:Nat}:pIdx q i n=q.map (·.add (i.toNat*n)):=rfl
theorem zoF{q:Option Addr}{i:Int}{n m:Nat}:pAdd (pIdx q i n) m=q.map (·.add (i.toNat*n+m)):=by
 cases q<;>simp[pAdd,pIdx,zft]
end Go.Sx
namespace Go.Sx
open Go.RowKit
variable {P:Program}
def zfQ{α:Type}(s:Nat)(enc:α->List Value)(w:World)(p:Option Addr)(xs:List α):Prop:=∀(i:Nat)(x:α),xs[i]?=some x->∀(j:Nat)(u:Value),(enc x)[j]?=some u->cell w p (i*s+j)=some u
theorem zfQ.ext{α:Type}{s:Nat}{enc:α->List Value}{w w':World}{p:Option Addr}{xs:List α}(h:zfQ s enc w p xs)(he:Ext w w'):zfQ s enc w' p xs:=fun i x hx j u hu=>zaz he (h i x hx j u hu)
theorem zfQ.at{α:Type}{s:Nat}{enc:α->List Value}{w:World}{p:Option Addr}{xs:List α}(h:zfQ s enc w p xs){k:Int}(h0:0<=k){x:α}(hx:xs[k.toNat]?=some x){j:Nat}{u:Value}(hu:(enc x)[j]?=some u):cell w (pIdx p k s) j=some u:=by
 rw[zae];exact h _ x hx j u hu
theorem getElem?_getD{α:Type}(xs:List α)(d:α){i:Nat}(h:i<xs.length):xs[i]?=some (xs.getD i d):=by
 simp[h,List.getD_eq_getElem?_getD]
theorem zfQ.idx{α:Type}{s:Nat}{enc:α->List Value}{w:World}{p:Option Addr}{xs:List α}(h:zfQ s enc w p xs)(d:α){k:Int}(h0:0<=k)(hk:k<xs.length){j:Nat}{u:Value}(hu:(enc (xs.getD k.toNat d))[j]?=some u):cell w (pIdx p k s) j=some u :=
 h.at h0 (getElem?_getD xs d (by omega)) hu
theorem zaj{w:World}{p:Option Addr}{j:Nat}{u:Value}(h:cell w p j=some u):p≠none:=by
 intro hp;subst hp;cases h
theorem zfQ.ne{α:Type}{s:Nat}{enc:α->List Value}{w:World}{p:Option Addr}{xs:List α}(h:zfQ s enc w p xs){x:α}(hx:x∈xs)(he:enc x≠[]):p≠none:=by
 obtain⟨i,hi⟩:=List.mem_iff_getElem?.1 hx
 cases hx2:enc x with
 |nil => exact absurd hx2 he
 |cons a r => exact zaj (h i x hi 0 a (by rw[hx2];rfl))
theorem zfQ.lt{α:Type}{s:Nat}{enc:α->List Value}{w:World}{p:Option Addr}{xs:List α}(h:zfQ s enc w p xs){x:α}(hx:x∈xs)(he:enc x≠[]):∀a,p=some a->a.block<w.heap.size:=by
 intro a ha
 obtain⟨i,hi⟩:=List.mem_iff_getElem?.1 hx
 cases hx2:enc x with
 |nil => exact absurd hx2 he
 |cons b r =>
  obtain⟨c,hc,hl,_⟩:=zdQ (h i x hi 0 b (by rw[hx2];rfl))
  rw[ha] at hc
  obtain rfl:=Option.some.inj hc
  exact hl
theorem Own.recs{α:Type}{B:Nat}{w:World}{e:TypeId}{s:Nat}{p:Option Addr}{n c:Nat}{xs:List α}{enc:α->List Value}(h:Own B w e s p n c (xs.flatMap enc))(hs:∀x∈xs,(enc x).length=s):zfQ s enc w p xs:=by
 intro i x hx j u hu
 refine h.cells _ u ?_
 clear h
 induction xs generalizing i with
 |nil => simp at hx
 |cons a r ih =>
  have ha:=hs a (List.mem_cons_self ..)
  simp only[List.flatMap_cons]
  cases i with
  |zero =>
   simp at hx;subst hx
   rw[Nat.zero_mul,Nat.zero_add,List.getElem?_append_left (List.getElem?_eq_some_iff.1 hu).1];exact hu
  |succ i =>
   rw[List.getElem?_append_right (by rw[Nat.add_mul];omega)]
   have:=ih (fun x hx=>hs x (List.mem_cons_of_mem _ hx)) i (by simpa using hx)
   rw[show(i+1)*s+j-(enc a).length=i*s+j by rw[Nat.add_mul];omega]
   exact this
theorem Own.leni{B:Nat}{w:World}{e:TypeId}{p:Option Addr}{n c:Nat}{α:Type}{f:α->Value}{xs:List α}(h:Own B w e 1 p n c (xs.map f)):xs.length=n:=by
 have:=h.len;simpa using this
theorem Own.ne{B:Nat}{w:World}{e:TypeId}{s:Nat}{p:Option Addr}{n c:Nat}{xs:List Value}(h:Own B w e s p n c xs)(hx:xs≠[]):p≠none:=h.cells.ne hx
theorem Own.ne1{B:Nat}{w:World}{e:TypeId}{s:Nat}{p:Option Addr}{n c:Nat}{xs:List Value}(h:Own B w e s p n c xs)(hn:0<n)(hs:0<s):p≠none:=by
 refine h.ne (fun hx=>?_)
 have h2:=Nat.mul_pos hn hs
 rw[<-h.len,hx] at h2
 simp at h2
theorem zGS{t ty e:TypeId}{z:Value}{k:IntKind}{b:Nat}(he:zfW P t=some (e,1,b,z)){B:Nat}{w:World}{p:Option Addr}{n c:Nat}{xs:List Int}{x:Int}
  {K:Option Addr->Nat->Nat->World->Prop} (ho:Own B w e 1 p n c (xs.map (.int k))) (hB:B<=w.heap.size) (hb:(n+1)*b<=140737488355328) (hm:n+1<=9223372036854775807)
  (hk:∀p' c' w',Own B w' e 1 p' (n+1) c' ((xs++[x]).map (.int k))->zco w w' p p'->p'≠none->K p' (n+1) c' w') :
  ∀w1,Ext w w1->Run P (.buildSlice t 1 [(0,.int k x)]) w1 fun v2 w2=>Ext w1 w2/\∃q:Option Addr,∃m:Nat,∃d:Nat,v2=.slice q m d/\∀w3,Ext w2 w3 ->
   Run P (.append #[t,t] ty [.slice p n c,.slice q m d]) w3 fun v4 w4=>∃q':Option Addr,∃m':Nat,∃d':Nat,v4=.slice q' m' d'/\K q' m' d' w4 :=
 push he (by omega) ho hB rfl (by intro u hu;simp[Value.cells] at hu;subst hu;rfl) hb (by omega) hm fun p' c' w' h1 h2 h3=>hk p' c' w' (by simpa[Value.cells] using h1) h2 h3
end Go.Sx
namespace Go.Sx
variable {P:Program}
end Go.Sx
namespace Go.Sx
variable {P:Program}
end Go.Sx
namespace Go.Sx
end Go.Sx
namespace Go.Sx
open Go.RowKit
theorem zaa{ns:List Nat}{w w':World}(h:zag [] ns w w'):Ext w w':=⟨h.os,h.tape,h.output,h.size,fun k hk=>h.block k hk (by simp)⟩
theorem zCa{B:Nat}{ds:List Nat}{w0 w w':World}(h:But ds w w')(hb:Below B w0 w)(hB:B<=w.heap.size)(hd:∀d∈ds,B<=d):Below B w0 w' :=
 ⟨h.os.trans hb.os,h.tape.trans hb.tape,h.output.trans hb.output,Nat.le_trans hb.size h.size,fun k hk=>(h.block k (by omega) (fun hm=>by have:=hd k hm;omega)).trans (hb.block k hk)⟩
theorem zav{ds ns:List Nat}{w0 w w':World}(h:zag ds ns w w')(hb:Ext w0 w)(hd:∀d∈ds,w0.heap.size<=d):Ext w0 w':=zCa h.toBut hb hb.size hd
theorem Own.but{B:Nat}{w w':World}{e:TypeId}{s:Nat}{p:Option Addr}{n c:Nat}{xs:List Value}{ds:List Nat}(h:Own B w e s p n c xs)(hb:But ds w w')(hd:∀d∈ds,∀x,p=some x->x.block≠d):Own B w' e s p n c xs:=by
 refine⟨h.1,h.2.imp id ?_⟩
 rintro⟨g,cap,cur,h1,h2,h3,h4⟩
 refine⟨g,cap,cur,h1,h2,?_,h4⟩
 have hlt:=(Array.getElem?_eq_some_iff.1 h3).1
 rw[hb.block g hlt (fun hm=>?_)]
 ·exact h3
 ·simp at h1
  exact hd g hm _ h1.1 rfl
theorem zbp{w:World}{t:TypeId}{vs:List Value}{K:Option Addr->World->Prop}(h1:∀v∈vs,v.oneCell'=true)
  (h:∀w',(∀B,B<=w.heap.size->Own B w' t vs.length (some ⟨w.heap.size,0,none⟩) 1 1 vs)->Ext w w'->K (some ⟨w.heap.size,0,none⟩) w'):New w t vs K:=by
 refine⟨h1,fun p w' hn=>?_⟩
 rw[hn.at_]
 refine h w' (fun B hB=>⟨by simp,.inr ⟨w.heap.size,1,vs.toArray,rfl,hB,hn.block,Nat.le_refl _,by simp[maxLen],by simp,by simp⟩⟩) hn.ext
theorem zfc(p:Option Addr):p=p.map (·.add 0):=by cases p<;>simp[add_zero]
theorem Own.size_lt{B:Nat}{w:World}{e:TypeId}{s:Nat}{b n c:Nat}{xs:List Value}(h:Own B w e s (some ⟨b,0,none⟩) n c xs):b<w.heap.size:=(h.lt _ rfl).2
end Go.Sx
namespace Go.Sx
open Go.RowKit
variable {P:Program}
theorem zg6{t ty e:TypeId}{z:Value}{k:IntKind}{b:Nat}(he:zfW P t=some (e,1,b,z)){B:Nat}{w:World}{p:Option Addr}{n c:Nat}{xs:List Int}{x:Int}{ns:List Nat}
  {K:Option Addr->Nat->Nat->World->Prop} (ho:Own B w e 1 p n c (xs.map (.int k))) (hB:B<=w.heap.size) (hns:∀b∈ns,∀x,p=some x->x.block≠b) (hb:(n+1)*b<=140737488355328) (hm:n+1<=9223372036854775807)
  (hk:∀p' c' w',Own B w' e 1 p' (n+1) c' ((xs++[x]).map (.int k))->zco w w' p p'->p'≠none->(∀b∈ns,∀x,p'=some x->x.block≠b)->K p' (n+1) c' w') :
  ∀w1,zag [] ns w w1->Run P (.buildSlice t 1 [(0,.int k x)]) w1 fun v2 w2=>Ext w1 w2/\∃q:Option Addr,∃m:Nat,∃d:Nat,v2=.slice q m d/\∀w3,zag [] ns w2 w3 ->
   Run P (.append #[t,t] ty [.slice p n c,.slice q m d]) w3 fun v4 w4=>zbK ns w3 w4/\∃q':Option Addr,∃m':Nat,∃d':Nat,v4=.slice q' m' d'/\K q' m' d' w4:=by
 intro w1 x1
 have e1:=zaa x1
 refine zcG he [.int k x] rfl rfl (fun u hu=>by simp at hu;subst hu;rfl) (by omega) (by omega) fun w2 o2 e2=>⟨e2,_,_,_,rfl,fun w3 x3=>?_⟩
 have e3:=zaa x3
 have o2:=(o2 w1.heap.size (Nat.le_refl _)).ext e3
 have ho':=((ho.ext e1).ext e2).ext e3
 have hsz:B<=w3.heap.size:=Nat.le_trans hB (Nat.le_trans e1.size (Nat.le_trans e2.size e3.size))
 refine zkR he (by omega) ho' hsz (by simp) (news:=[.int k x]) (by simp) (by simpa[Value.cells] using o2.cells) (by intro u hu;simp at hu;subst hu;rfl) hb hm fun p' c' w4 h2 h3 h4=>⟨fun b hb=>?_,_,_,_,rfl,hk p' c' w4 (by simpa using h2) ?_ ?_ ?_⟩
 ·refine h3.by_.block b (x3.lt b hb) fun he=>?_
  cases p with
  |none => cases he
  |some y => simp[blk] at he;exact hns b hb y rfl he.symm
 ·exact zco.of_ext e1 (zco.of_ext e2 (zco.of_ext e3 h3))
 ·intro hn;have:=h4.1 hn;omega
 ·intro b hb y hy heq
  rcases h3.new with hn|hn
  ·subst hy
   cases p with
   |none => simp[blk] at hn
   |some z' => simp[blk] at hn;exact hns b hb z' rfl (by omega)
  ·have:=hn y hy
   have:=x3.lt b hb
   omega
end Go.Sx
namespace Go.Sx
open Go.RowKit
variable {P:Program}
theorem zzR{t e:TypeId}{s b:Nat}{z:Value}(he:zfW P t=some (e,s,b,z)){w:World}{K:Value->World->Prop}
  (hk:∀w',(∀B,B<=w.heap.size->Own B w' e s (some ⟨w.heap.size,0,none⟩) 0 0 [])->Ext w w'->K (.slice (some ⟨w.heap.size,0,none⟩) 0 0) w'):Run P (.buildSlice t 0 []) w K:=by
 obtain⟨i,h1,h2,h3,rfl,rfl,h6⟩:=zd0 he
 refine⟨_,w.alloc (.cells #[] e),?_,hk _ (fun B hB=>⟨by simp,.inr ⟨w.heap.size,0,#[],rfl,hB,heap_alloc_new w _,Nat.le_refl _,by simp[maxLen],by simp,by simp⟩⟩) ?_⟩
 ·show(Instr.buildSlice t 0 #[]).run P w=_
  simp[Instr.buildSlice,run_underlying h1,sizeOf,typeInfo,zeroValue,h2,h3,newRow,Instr.fill]
  congr 2
  apply Array.eq_empty_of_size_eq_zero;simp
 ·exact Below.alloc (Below.refl _ _) (Nat.le_refl _) _
theorem Own.pre{B:Nat}{w:World}{e:TypeId}{s:Nat}{p:Option Addr}{n c m:Nat}{xs:List Value}(h:Own B w e s p n c xs)(hm:m<=n):Own B w e s p m c (xs.take (m*s)):=by
 have hle:m*s<=n*s:=Nat.mul_le_mul_right _ hm
 refine⟨by rw[List.length_take,h.1];omega,?_⟩
 rcases h.2 with⟨hv,hn⟩|⟨g,cap,cur,hv,hb,hg,hnc,hcm,hcs,ht⟩
 ·left
  obtain⟨rfl,_,rfl⟩:p=none/\n=0/\c=0:=by simpa using hv
  exact⟨by rw[show m=0 by omega],by omega⟩
 ·right
  obtain⟨rfl,_,rfl⟩:p=some ⟨g,0,none⟩/\n=n/\c=cap:=by simpa using hv
  refine⟨g,c,cur,rfl,hb,hg,by omega,hcm,hcs,?_⟩
  rw[<-ht,List.take_take,Nat.min_eq_left hle]
end Go.Sx
namespace Go.Sx
open Go.RowKit
variable {P:Program}
section flat
variable {α:Type} {enc:α->List Value} {s:Nat}
theorem zfe(hs:∀x,(enc x).length=s)(L:List α):(L.flatMap enc).length=L.length*s:=by
 induction L with
 |nil => simp
 |cons a r ih => rw[List.flatMap_cons,List.length_append,ih,hs,List.length_cons,Nat.add_mul];omega
theorem recs_take(hs:∀x,(enc x).length=s)(L:List α)(m:Nat):(L.flatMap enc).take (m*s)=(L.take m).flatMap enc:=by
 induction L generalizing m with
 |nil => simp
 |cons a r ih =>
  cases m with
  |zero => simp
  |succ m => rw[List.flatMap_cons,List.take_succ_cons,List.flatMap_cons,<-ih m,show(m+1)*s=(enc a).length+m*s by rw[hs,Nat.add_mul];omega,List.take_length_add_append]
theorem zDW(hs:∀x,(enc x).length=s)(L:List α)(m:Nat):(L.flatMap enc).drop (m*s)=(L.drop m).flatMap enc:=by
 induction L generalizing m with
 |nil => simp
 |cons a r ih =>
  cases m with
  |zero => simp
  |succ m => rw[List.flatMap_cons,List.drop_succ_cons,<-ih m,show(m+1)*s=(enc a).length+m*s by rw[hs,Nat.add_mul];omega,List.drop_length_add_append]
theorem znd(hs:∀x,(enc x).length=s){w:World}{p:Option Addr}{L:List α}(h:zfQ s enc w p L):zau w p (L.flatMap enc):=by
 have key:∀(L:List α)(off:Nat),(∀(i:Nat)(x:α),L[i]?=some x->∀(j:Nat)(u:Value),(enc x)[j]?=some u->cell w p ((off+i)*s+j)=some u)->∀(k:Nat)(v:Value),(L.flatMap enc)[k]?=some v->cell w p (off*s+k)=some v:=by
  intro L
  induction L with
  |nil => intro off _ k v hv;simp at hv
  |cons a r ih =>
   intro off hc k v hv
   rw[List.flatMap_cons] at hv
   by_cases hk:k<s
   ·rw[List.getElem?_append_left (by rw[hs];exact hk)] at hv
    exact hc 0 a rfl k v hv
   ·rw[List.getElem?_append_right (by rw[hs];omega),hs] at hv
    have:=ih (off+1) (fun i x hx j u hu=>by
     have:=hc (i+1) x (by simpa using hx) j u hu
     rwa [show off+1+i=off+(i+1) by omega]) (k-s) v hv
    rwa [show(off+1)*s+(k-s)=off*s+k by rw[Nat.add_mul];omega] at this
 intro k v hv
 have:=key L 0 (fun i x hx j u hu=>by rw[Nat.zero_add];exact h i x hx j u hu) k v hv
 simpa using this
theorem zzJ(h1:∀x,∀u∈enc x,u.oneCell'=true)(L:List α):∀u∈L.flatMap enc,u.oneCell'=true:=fun u hu=>by
 obtain⟨x,_,hx⟩:=List.mem_flatMap.1 hu
 exact h1 x u hx
end flat
theorem zo8{t ty e:TypeId}{s b:Nat}{z:Value}(he:zfW P t=some (e,s,b,z))(hs:0<s){w:World}{q:Option Addr}{n c:Nat}{xs:List Value}{Q:Value->World->Prop}
  (hx:zau w q xs) (hl:xs.length=n*s) (h1:∀u∈xs,u.oneCell'=true) (hb:n*b<=140737488355328) (hn:n<=9223372036854775807) (hq:q≠none)
  (hk:∀p' c' w',Ext w w'->Own w.heap.size w' e s p' n c' xs->Q (.slice p' n c') w') :
  ∀w0,Ext w w0->Run P (.buildSlice t 0 []) w0 fun v1 w1=>Ext w0 w1/\∃t2:Option Addr,∃tl3:Nat,∃tc4:Nat,v1=(.slice t2 tl3 tc4) /\
   ∀w5,Ext w1 w5->Run P (.append #[t,t] ty [(.slice t2 tl3 tc4),(.slice q n c)]) w5 fun v6 w6=>∃t7:Option Addr,∃tl8:Nat,∃tc9:Nat,v6=(.slice t7 tl8 tc9)/\∀w10,Ext w6 w10->Q (.slice t7 tl8 tc9) w10:=by
 intro w0 h0
 refine zzR he fun w1 o1 e1=>⟨e1,_,_,_,rfl,fun w5 h5=>?_⟩
 have o5:=(o1 w.heap.size h0.size).ext h5
 have hx5:=(h0.trans e1).trans h5
 refine zkR he hs o5 hx5.size hq (news:=xs) hl (hx.ext hx5) h1 (by rw[Nat.zero_add];exact hb) (by omega) fun p' c' w6 o6 g6 _=>⟨_,_,_,rfl,fun w10 h10=>?_⟩
 simp only[Nat.zero_add,List.nil_append] at o6 ⊢
 exact hk _ _ _ ((g6.ext hx5 o5).trans h10) (o6.ext h10)
theorem zhJ{w w':World}{p:Option Addr}(h:Ext w w'):zco w w' p p :=
 ⟨⟨h.os,h.tape,h.output,h.size,fun k hk _=>h.block k hk⟩,.inl rfl⟩
end Go.Sx
namespace Go.Sx
theorem Own.st{B:Nat}{w w':World}{e:TypeId}{s:Nat}{p q q':Option Addr}{n c:Nat}{xs:List Value}(h:Own B w e s p n c xs)(ha:zbU p q)(hg:zco w w' q q'):Own B w' e s p n c xs:=h.grew (B':=0) ha hg
end Go.Sx
namespace Go.Sx
open Go.RowKit
variable {P:Program}
theorem zeF{w:World}:∀{l:List (String×DataW Unit)} {ps:List MemPlace},DataW.LaidVars P w l ps->∀x∈l,
  ∃g t cs fuel p,P.globalNamed x.1=some g/\(P.globals[g]?).map (·.type)=some t/\w.var? P x.1=some cs/\DataW.trod (fun _=>()) P w 0 (fun _=>true) false fuel t cs.toList=some (x.2,p)
 |[],ps,_,x,hx => by cases hx
 |(n,d)::r,ps,h,x,hx => by
  obtain⟨g,t,cs,fuel,p,q,h1,h2,h3,h4,h5,_⟩:=h
  rcases List.mem_cons.1 hx with rfl|hx
  ·exact⟨g,t,cs,fuel,p,h1,h2,h3,h4⟩
  ·exact zeF h5 x hx
end Go.Sx
namespace Go.Sx
open Go.RowKit
variable {P:Program}
theorem zvE{t:TypeId}{k:IntKind}(h:P.underlying t=some (.int k)){xs:Array Value}{off:Nat}{v:Value}(hx:xs[off]?=some v)(w:World):(part t xs off).run P w=.ok v w:=by
 simp[part,isAgg,run_underlying h,hx]
end Go.Sx
namespace Go.Sx
open Go.RowKit
variable {P:Program}
theorem zll{k:IntKind}(xs ys:List Int)(w:World)(he:xs.length=ys.length):∀(fs:List Field)(off:Nat),off+fs.length=xs.length ->
  fs.map (fun f => (f.name != "_", P.underlying f.type, f.offset)) = (List.range' off fs.length).map (fun i => (true, some (.int k), i)) ->
  (Op.eqFields 9999 (xs.map (Value.int k)).toArray (ys.map (Value.int k)).toArray fs).run P w=.ok (decide (xs.drop off=ys.drop off)) w
 |[],off,hl,_ => by
  simp only[List.length_nil,Nat.add_zero] at hl
  rw[List.drop_of_length_le (by omega),List.drop_of_length_le (by omega)]
  simp[Op.eqFields]
 |f::fs,off,hl,hf => by
  rw[List.length_cons,List.range'_succ,List.map_cons,List.map_cons,List.cons.injEq,Prod.mk.injEq,Prod.mk.injEq] at hf
  obtain⟨⟨n1,u1,o1⟩,hr⟩:=hf
  have h1:off<xs.length:=by simp only[List.length_cons] at hl;omega
  have n1 : f.name ≠ "_" := by simpa using n1
  have p1:∀zs:List Int,(h:off<zs.length)->(part f.type (zs.map (Value.int k)).toArray f.offset).run P w=.ok (.int k zs[off]) w:=fun zs h=>zvE u1 (by rw[o1];simp[h]) w
  have q1:(Op.equalIn 9999 f.type (.int k xs[off]) (.int k (ys[off]'(he▸h1)))).run P w=.ok (xs[off]==ys[off]'(he▸h1)) w:=run_equalIn_int w 9998 _ _ _ _ _ u1
  have ih:=zll xs ys w he fs (off+1) (by simp only[List.length_cons] at hl;omega) hr
  have d1:xs.drop off=xs[off]::xs.drop (off+1):=List.drop_eq_getElem_cons h1
  have d2:ys.drop off=ys[off]'(he▸h1)::ys.drop (off+1):=List.drop_eq_getElem_cons (he▸h1)
  simp only[Op.eqFields,n1,ne_eq,not_false_eq_true,if_true,Sem.run_bind,p1 xs h1,p1 ys (he▸h1),q1,Result.andThen_ok,Sem.run_ite,Sem.run_pure]
  have hd:decide (xs.drop off=ys.drop off)=decide (xs[off]=ys[off]'(he▸h1)/\xs.drop (off+1)=ys.drop (off+1)):=by
   rw[decide_eq_decide,d1,d2,List.cons.injEq]
  rw[hd]
  clear d1 d2 hd
  by_cases e1:xs[off]=ys[off]'(he▸h1)
  ·simp[e1,ih]
  ·simp[e1]
theorem znK{t:TypeId}{k:IntKind}{n:Nat}(ht:P.underlying t=some (.struct (P.fieldsOf t)))(hp:P.stoodInHeld t=false)
  (hf : (P.fieldsOf t).toList.map (fun f => (f.name != "_", P.underlying f.type, f.offset)) = (List.range' 0 n).map (fun i => (true, some (.int k), i))) (xs ys : List Int) (hx : xs.length = n) (hy : ys.length = n) (w : World) :
  (Op.equalIn 10000 t (.agg (xs.map (Value.int k)).toArray) (.agg (ys.map (Value.int k)).toArray)).run P w=.ok (decide (xs=ys)) w:=by
 have hn:(P.fieldsOf t).toList.length=n:=by simpa using congrArg List.length hf
 rw[run_equalIn_struct w 9999 t _ _ ht hp,zll xs ys w (by omega) _ 0 (by omega) (by rw[hn];exact hf)]
 simp
theorem zKB{t:TypeId}{k:IntKind}{n:Nat}(ht:P.underlying t=some (.struct (P.fieldsOf t)))(hp:P.stoodInHeld t=false)(hm:P.eqGuardType P.depth t=false)
  (hf : (P.fieldsOf t).toList.map (fun f => (f.name != "_", P.underlying f.type, f.offset)) = (List.range' 0 n).map (fun i => (true, some (.int k), i))) (xs ys : List Int) (hx : xs.length = n) (hy : ys.length = n)
  {cx cy:Bool} {w:World} {K:Value->World->Prop} (hk:K (.bool (decide (xs=ys))) w):Run P (.eq .eql t cx cy (.agg (xs.map (Value.int k)).toArray) (.agg (ys.map (Value.int k)).toArray)) w K:=by
 refine⟨_,w,?_,hk⟩
 show(do eqGuard .eql t _ _ (.agg (xs.map (Value.int k)).toArray) (.agg (ys.map (Value.int k)).toArray);binOp .eql t (.agg (xs.map (Value.int k)).toArray) (.agg (ys.map (Value.int k)).toArray):Sem Value).run P w=_
 rw[Sem.run_bind,run_eqGuard_agg w _ _ _ _ _ _ hm,Result.andThen_ok,run_eql_struct,znK ht hp hf xs ys hx hy]
 rfl
theorem zKD{t:TypeId}{k:IntKind}{n:Nat}(ht:P.underlying t=some (.struct (P.fieldsOf t)))(hp:P.stoodInHeld t=false)(hm:P.eqGuardType P.depth t=false)
  (hf : (P.fieldsOf t).toList.map (fun f => (f.name != "_", P.underlying f.type, f.offset)) = (List.range' 0 n).map (fun i => (true, some (.int k), i))) (xs ys : List Int) (hx : xs.length = n) (hy : ys.length = n)
  {cx cy:Bool} {w:World} {K:Value->World->Prop} (hk:K (.bool (!decide (xs=ys))) w):Run P (.eq .neq t cx cy (.agg (xs.map (Value.int k)).toArray) (.agg (ys.map (Value.int k)).toArray)) w K:=by
 refine⟨_,w,?_,hk⟩
 show(do eqGuard .neq t _ _ (.agg (xs.map (Value.int k)).toArray) (.agg (ys.map (Value.int k)).toArray);binOp .neq t (.agg (xs.map (Value.int k)).toArray) (.agg (ys.map (Value.int k)).toArray):Sem Value).run P w=_
 rw[Sem.run_bind,run_eqGuard_agg w _ _ _ _ _ _ hm,Result.andThen_ok,run_neq_struct,znK ht hp hf xs ys hx hy]
 rfl
end Go.Sx
namespace Go.Sx
end Go.Sx
namespace Go.Sx
end Go.Sx
namespace Go.Sx
theorem zaq{α:Type}(l:List α)(d:α){i:Nat}(h:i<l.length):l.getD i d∈l:=by
 rw[List.getD_eq_getElem?_getD];simp[h]
end Go.Sx
namespace Go.Sx
end Go.Sx
namespace Go.Proofs.YtcceeahmcecbnaaGreatDoor
open Go.Sx Go.RowKit
abbrev zb4:FuncId:=38
abbrev zbb:FuncId:=43
abbrev zdo:FuncId:=66
abbrev zcY:FuncId:=80
abbrev ze8:FuncId:=83
abbrev zb2:FuncId:=84
abbrev za1:FuncId:=85
abbrev ziP:FuncId:=86
abbrev zb1:FuncId:=88
abbrev zbz:FuncId:=90
abbrev zbj:FuncId:=92
abbrev zbP:FuncId:=94
abbrev zbh:FuncId:=109
abbrev zhm:FuncId:=127
abbrev zee:FuncId:=128
abbrev zdg:FuncId:=129
abbrev zhk:FuncId:=131
abbrev zdM:FuncId:=149
abbrev zeC:FuncId:=158
abbrev zhs:FuncId:=171
abbrev zbd:FuncId:=173
abbrev zfq:FuncId:=176
abbrev zef:FuncId:=228
abbrev zde:TypeId:=2
abbrev zfR:TypeId:=3
abbrev zt5:TypeId:=4
abbrev zaF:TypeId:=5
abbrev zay:TypeId:=9
abbrev zim:TypeId:=44
abbrev zcl:TypeId:=45
abbrev zdN:TypeId:=47
abbrev zyI:TypeId:=48
abbrev zsh:TypeId:=50
abbrev zAl:TypeId:=57
abbrev zkq:TypeId:=60
abbrev zBH:TypeId:=68
abbrev zAk:TypeId:=74
abbrev zdO:TypeId:=76
abbrev zrB:TypeId:=78
abbrev zeY:TypeId:=80
abbrev zbM:TypeId:=93
abbrev zFm:TypeId:=102
abbrev zmr:TypeId:=113
abbrev zdq:TypeId:=128
abbrev zHF:TypeId:=145
abbrev zBM:TypeId:=153
abbrev zhz:TypeId:=161
abbrev zwG:TypeId:=192
abbrev zej:TypeId:=199
abbrev zgs:TypeId:=211
abbrev zek:TypeId:=213
abbrev zla:TypeId:=215
abbrev za9:TypeId:=218
abbrev zam:TypeId:=220
abbrev zb8:TypeId:=222
abbrev zgr:TypeId:=228
abbrev zt4:TypeId:=348
theorem zbY:zfW Tryz.prog 22=some (9,1,16,(.string (⟨#[]⟩:ByteArray))):=by kernel_rfl
theorem zga:zfW Tryz.prog 34=some (76,8,88,(.agg #[(.string (⟨#[]⟩:ByteArray)),(.slice none 0 0),(.int .i64 0),(.int .i64 0),(.int .i64 0),(.int .i64 0),(.int .i64 0),(.int .i64 0)])):=by kernel_rfl
theorem zfx:zfW Tryz.prog 45=some (47,5,72,(.agg #[(.int .i64 0),(.string (⟨#[]⟩:ByteArray)),(.string (⟨#[]⟩:ByteArray)),(.int .i64 0),(.slice none 0 0)])):=by kernel_rfl
theorem zfy:zfW Tryz.prog 48=some (3,1,8,(.int .i64 0)):=by kernel_rfl
theorem zsx:zfW Tryz.prog 54=some (68,2,16,(.agg #[(.int .i64 0),(.int .i64 0)])):=by kernel_rfl
theorem zlj:zfW Tryz.prog 74=some (113,2,32,(.agg #[(.string (⟨#[]⟩:ByteArray)),(.string (⟨#[]⟩:ByteArray))])):=by kernel_rfl
theorem zsw:zfW Tryz.prog 78=some (80,15,176,(.agg #[(.int .i64 0),(.string (⟨#[]⟩:ByteArray)),(.int .i64 0),(.int .i64 0),(.int .i64 0),(.int .i64 0),(.int .i64 0),(.string (⟨#[]⟩:ByteArray)),(.string (⟨#[]⟩:ByteArray)),(.int .i64 0),(.slice none 0 0),(.slice none 0 0),(.int .i64 0),(.int .i64 0),(.bool false)])):=by kernel_rfl
theorem zbf:zfW Tryz.prog 93=some (5,1,1,(.int .u8 0)):=by kernel_rfl
theorem zum:zfW Tryz.prog 153=some (44,3,24,(.agg #[(.int .i64 0),(.int .i64 0),(.int .i64 0)])):=by kernel_rfl
theorem zhH:zfW Tryz.prog 212=some (218,1,8,(.pointer none)):=by kernel_rfl
theorem zmC:zfW Tryz.prog 271=some (275,2,24,(.agg #[(.string (⟨#[]⟩:ByteArray)),(.pointer none)])):=by kernel_rfl
def ztT(n:Int)(o:ByteArray)(p:World)(q:Value->World->Prop):Prop:=
 ∀f,Ext p f->Run Tryz.prog (.convert 9 93 (.string o)) f fun m j=>Ext f j/\∃g e l,m=(.slice g e l)/\∃(h:Int->Int->World->Prop) (k:Int->Int->World->Nat),h n 0 j/\∀(b:Int)(a:Int)(d:World),h b a d->(((a<(e:Int))->g≠none/\(0:Int)<=a/\(a:Int)<(e:Int)/\∃c,cell d (pIdx g a 1) 0=some (.int .u8 c)/\InR .u64 c/\InR .i64 (a+1)/\(h (zaw .xor .u64 (IntKind.wrap .u64 ((IntKind.wrap .u64 (b+c))*11400714785074694791)) (zaw .shr .u64 (IntKind.wrap .u64 ((IntKind.wrap .u64 (b+c))*11400714785074694791)) 31)) (a+1) d/\k (zaw .xor .u64 (IntKind.wrap .u64 ((IntKind.wrap .u64 (b+c))*11400714785074694791)) (zaw .shr .u64 (IntKind.wrap .u64 ((IntKind.wrap .u64 (b+c))*11400714785074694791)) 31)) (a+1) d<k b a d)))/\(((e:Int)<=a)->∀i,Ext d i->q (.int .u64 b) i)
theorem zth(a:Int)(b:ByteArray)(c:World)(d:Value->World->Prop)(h:ztT a b c d):FnP Tryz.prog ziP #[(.int .u64 a),(.string b)] c d:=
 zab (Eq.mp (by kernel_rfl:_=Runs Tryz.prog d ({N:=27,wrap:=[19,20]}:Cfg) Tryz.f86 (Tryz.f86.body.getD .skip) [.sc (.int .u64 a),.sc (.str b)] c) h) Tryz.func86 (by kernel_rfl) (fun a w=>Tryz.call86 a w) (by kernel_rfl) (by kernel_rfl) rfl rfl
def zrl(e:ByteArray)(f k l m n:Int)(o p:ByteArray)(q:Int)(t:Option Addr)(r u:Nat)(v:Option Addr)(s w:Nat)(b:World)(g:Value->World->Prop):Prop:=
 ∀h:Nat,b.heap.size<=h->((((e=(⟨#[]⟩:ByteArray))/\(f=0))->∀a,Ext b a->Run Tryz.prog (.eq .eql 44 false false (.agg #[(.int .i64 k),(.int .i64 l),(.int .i64 m)]) (.agg #[(.int .i64 0),(.int .i64 0),(.int .i64 0)])) a fun i j=>Ext a j/\∃c,i=(.bool c)/\∀d,Ext b d->g (.bool ((((((c&&(decide ((s:Int)=0)))&&(decide (n=0)))&&(decide (o=(⟨#[]⟩:ByteArray))))&&(decide (p=(⟨#[]⟩:ByteArray))))&&(decide (q=0)))&&(decide ((r:Int)=0)))) d))/\(((e≠(⟨#[]⟩:ByteArray))\/(f≠0))->∀a,Ext b a->g (.bool false) a)
theorem zqV(a:ByteArray)(b c d e f:Int)(g i:ByteArray)(j:Int)(k:Option Addr)(l m:Nat)(n:Option Addr)(o p:Nat)(q:World)(r:Value->World->Prop)(h:zrl a b c d e f g i j k l m n o p q r):FnP Tryz.prog zhm #[(.agg #[(.string a),(.int .i64 b),(.int .i64 c),(.int .i64 d),(.int .i64 e),(.int .i64 f),(.string g),(.string i),(.int .i64 j),(.slice k l m),(.slice n o p)])] q r:=
 zab (Eq.mp (by kernel_rfl:_=Runs Tryz.prog r ({N:=54}:Cfg) Tryz.f127 (Tryz.f127.body.getD .skip) [.agg [.str a,.int .i64 b,.int .i64 c,.int .i64 d,.int .i64 e,.int .i64 f,.str g,.str i,.int .i64 j,.slc k l m,.slc n o p]] q) h) Tryz.func127 (by kernel_rfl) (fun a w=>Tryz.call127 a w) (by kernel_rfl) (by kernel_rfl) rfl rfl
def zrk(a:Int)(l:ByteArray)(m n o p q:Int)(r s:ByteArray)(t:Int)(u:Option Addr)(v w:Nat)(x:Option Addr)(y z:Nat)(e f:Int)(i:Bool)(d:World)(g:Value->World->Prop):Prop:=
 ∀C:Nat,d.heap.size<=C->(((a<1)\/(5<a))->∀b,Ext d b->g (.int .i64 1) b)/\(((1<=a)/\(a<=5))->(((a≠1)->∀b,Ext d b->FnP Tryz.prog zhm #[(.agg #[(.string l),(.int .i64 m),(.int .i64 n),(.int .i64 o),(.int .i64 p),(.int .i64 q),(.string r),(.string s),(.int .i64 t),(.slice u v w),(.slice x y z)])] b fun j k=>Ext b k/\∃h,j=(.bool h)/\((((((h=false)\/((a≠2)/\(e≠0)))\/(((a≠4)/\(a≠5))/\(f≠0)))\/((a≠4)/\(i=true)))->∀c,Ext d c->g (.int .i64 1) c))/\(((((h=true)/\((a=2)\/(e=0)))/\(((a=4)\/(a=5))\/(f=0)))/\((a=4)\/(i=false)))->(((a=1)->∀c,Ext d c->FnP Tryz.prog zdo #[(.agg #[(.string l),(.int .i64 m),(.int .i64 n),(.int .i64 o),(.int .i64 p),(.int .i64 q),(.string r),(.string s),(.int .i64 t),(.slice u v w),(.slice x y z)])] c fun D E=>Ext c E/\∃A,D=(.int .i64 A)/\∀B,Ext d B->g (.int .i64 A) B))/\((a≠1)->(((((e<0)\/(1000000000<e))\/(f<0))\/(65535<f))->∀c,Ext d c->g (.int .i64 4) c)/\(((((0<=e)/\(e<=1000000000))/\(0<=f))/\(f<=65535))->∀c,Ext d c->g (.int .i64 0) c)))))/\((a=1)->((((((a≠2)/\(e≠0))\/(((a≠4)/\(a≠5))/\(f≠0)))\/((a≠4)/\(i=true)))->∀b,Ext d b->g (.int .i64 1) b))/\(((((a=2)\/(e=0))/\(((a=4)\/(a=5))\/(f=0)))/\((a=4)\/(i=false)))->(((a=1)->∀b,Ext d b->FnP Tryz.prog zdo #[(.agg #[(.string l),(.int .i64 m),(.int .i64 n),(.int .i64 o),(.int .i64 p),(.int .i64 q),(.string r),(.string s),(.int .i64 t),(.slice u v w),(.slice x y z)])] b fun j k=>Ext b k/\∃h,j=(.int .i64 h)/\∀c,Ext d c->g (.int .i64 h) c))/\((a≠1)->(((((e<0)\/(1000000000<e))\/(f<0))\/(65535<f))->∀b,Ext d b->g (.int .i64 4) b)/\(((((0<=e)/\(e<=1000000000))/\(0<=f))/\(f<=65535))->∀b,Ext d b->g (.int .i64 0) b)))))
theorem zkd(a:Int)(b:ByteArray)(c d e f g:Int)(i j:ByteArray)(k:Int)(l:Option Addr)(m n:Nat)(o:Option Addr)(p q:Nat)(r s:Int)(t:Bool)(u:World)(v:Value->World->Prop)(h:zrk a b c d e f g i j k l m n o p q r s t u v):FnP Tryz.prog zcY #[(.agg #[(.int .i64 a),(.string b),(.int .i64 c),(.int .i64 d),(.int .i64 e),(.int .i64 f),(.int .i64 g),(.string i),(.string j),(.int .i64 k),(.slice l m n),(.slice o p q),(.int .i64 r),(.int .i64 s),(.bool t)])] u v:=
 zab (Eq.mp (by kernel_rfl:_=Runs Tryz.prog v ({N:=88}:Cfg) Tryz.f80 (Tryz.f80.body.getD .skip) [.agg [.int .i64 a,.str b,.int .i64 c,.int .i64 d,.int .i64 e,.int .i64 f,.int .i64 g,.str i,.str j,.int .i64 k,.slc l m n,.slc o p q,.int .i64 r,.int .i64 s,.bool (.atom true t)]] u) h) Tryz.func80 (by kernel_rfl) (fun a w=>Tryz.call80 a w) (by kernel_rfl) (by kernel_rfl) rfl rfl
def zqp(u:Option Addr)(v w:Nat)(x r:Int)(y:World)(z:Value->World->Prop):Prop:=
 InR .i64 (r-1)/\∃(j:Option Addr->Nat->Nat->Int->World->Prop) (q:Option Addr->Nat->Nat->Int->World->Nat),j u v w (r-1) y/\∀(c:Option Addr)(d:Nat)(e:Nat)(a:Int)(f:World),j c d e a f->(((0<=a)->InR .i64 (8*a)/\0<=((8*a):Int)/\∀b,Ext f b->Run Tryz.prog (.buildSlice 93 1 [(0,(.int .u8 (IntKind.wrap .u8 (zaw .shr .i64 x (8*a)))))]) b fun s o=>Ext b o/\∃k l m,s=(.slice k l m)/\∀n,Ext o n->Run Tryz.prog (.append #[93,93] 93 [(.slice c d e),(.slice k l m)]) n fun t p=>∃g h i,t=(.slice g h i)/\InR .i64 (a-1)/\(j g h i (a-1) p/\q g h i (a-1) p<q c d e a f)))/\((a<0)->∀b,Ext f b->z (.slice c d e) b)
theorem zpP(a:Option Addr)(b c:Nat)(d e:Int)(f:World)(g:Value->World->Prop)(h:zqp a b c d e f g):FnP Tryz.prog zdg #[(.slice a b c),(.int .i64 d),(.int .i64 e)] f g:=
 zab (Eq.mp (by kernel_rfl:_=Runs Tryz.prog g ({N:=22,wrap:=[18]}:Cfg) Tryz.f129 (Tryz.f129.body.getD .skip) [.sc (.slc a b c),.sc (.int .i64 d),.sc (.int .i64 e)] f) h) Tryz.func129 (by kernel_rfl) (fun a w=>Tryz.call129 a w) (by kernel_rfl) (by kernel_rfl) rfl rfl
def zqo(f:Int)(L:ByteArray)(M N O P R:Int)(S T:ByteArray)(U:Int)(V:Option Addr)(W X:Nat)(Y:Option Addr)(Z aa:Nat)(ab F:Int)(G:Bool)(A:World)(l:Value->World->Prop):Prop:=
 ∀b:Nat,A.heap.size<=b->∀B,Ext A B->FnP Tryz.prog zcY #[(.agg #[(.int .i64 f),(.string L),(.int .i64 M),(.int .i64 N),(.int .i64 O),(.int .i64 P),(.int .i64 R),(.string S),(.string T),(.int .i64 U),(.slice V W X),(.slice Y Z aa),(.int .i64 ab),(.int .i64 F),(.bool G)])] B fun ad ae=>Ext B ae/\∃z,ad=(.int .i64 z)/\((z≠0)->∀m,Ext A m->l (.tuple #[(.slice none 0 0),(.int .i64 z)]) m)/\((z=0)->InR .u8 f/\∀m,zag [] [b] A m->Run Tryz.prog (.buildSlice 93 1 [(0,(.int .u8 f))]) m fun af j=>Ext m j/\∃n o p,af=(.slice n o p)/\(((f=1)->∀a,Ext j a->FnP Tryz.prog zee #[(.agg #[(.string L),(.int .i64 M),(.int .i64 N),(.int .i64 O),(.int .i64 P),(.int .i64 R),(.string S),(.string T),(.int .i64 U),(.slice V W X),(.slice Y Z aa)])] a fun k e=>Ext a e/\∃d ac,k=(.tuple #[(.string d),(.int .i64 ac)])/\∀C,zag [] [b] j C->Run Tryz.prog (.append #[93,9] 93 [(.slice n o p),(.string d)]) C fun ag c=>zbK [b] C c/\∃H I J,ag=(.slice H I J)/\∀K,Ext c K->l (.tuple #[(.slice H I J),(.int .i64 0)]) K))/\((f≠1)->(((f=2)->∀a,zag [] [b] j a->FnP Tryz.prog zdg #[(.slice n o p),(.int .i64 ab),(.int .i64 4)] a fun k e=>zbK [b] a e/\∃d g h,k=(.slice d g h)/\∀c,Ext e c->l (.tuple #[(.slice d g h),(.int .i64 0)]) c))/\((f≠2)->(((f=4)->∀a,zag [] [b] j a->FnP Tryz.prog zdg #[(.slice n o p),(.int .i64 F),(.int .i64 2)] a fun k e=>zbK [b] a e/\∃d g h,k=(.slice d g h)/\(((G=true)->∀c,zag [] [b] e c->Run Tryz.prog (.buildSlice 93 1 [(0,(.int .u8 1))]) c fun D x=>Ext c x/\∃q r s,D=(.slice q r s)/\∀i,zag [] [b] x i->Run Tryz.prog (.append #[93,93] 93 [(.slice d g h),(.slice q r s)]) i fun E y=>zbK [b] i y/\∃t u v,E=(.slice t u v)/\∀w,Ext y w->l (.tuple #[(.slice t u v),(.int .i64 0)]) w))/\((G=false)->∀c,zag [] [b] e c->Run Tryz.prog (.buildSlice 93 1 [(0,(.int .u8 0))]) c fun D x=>Ext c x/\∃q r s,D=(.slice q r s)/\∀i,zag [] [b] x i->Run Tryz.prog (.append #[93,93] 93 [(.slice d g h),(.slice q r s)]) i fun E y=>zbK [b] i y/\∃t u v,E=(.slice t u v)/\∀w,Ext y w->l (.tuple #[(.slice t u v),(.int .i64 0)]) w)))/\((f≠4)->(((f=5)->∀a,zag [] [b] j a->FnP Tryz.prog zdg #[(.slice n o p),(.int .i64 F),(.int .i64 2)] a fun k e=>zbK [b] a e/\∃d g h,k=(.slice d g h)/\∀c,Ext e c->l (.tuple #[(.slice d g h),(.int .i64 0)]) c))/\((f≠5)->∀a,Ext j a->l (.tuple #[(.slice n o p),(.int .i64 0)]) a)))))
theorem zpO(a:Int)(b:ByteArray)(c d e f g:Int)(i j:ByteArray)(k:Int)(l:Option Addr)(m n:Nat)(o:Option Addr)(p q:Nat)(r s:Int)(t:Bool)(u:World)(v:Value->World->Prop)(h:zqo a b c d e f g i j k l m n o p q r s t u v):FnP Tryz.prog za1 #[(.agg #[(.int .i64 a),(.string b),(.int .i64 c),(.int .i64 d),(.int .i64 e),(.int .i64 f),(.int .i64 g),(.string i),(.string j),(.int .i64 k),(.slice l m n),(.slice o p q),(.int .i64 r),(.int .i64 s),(.bool t)])] u v:=
 zab (Eq.mp (by kernel_rfl:_=Runs Tryz.prog v ({N:=57,muts:=[129]}:Cfg) Tryz.f85 (Tryz.f85.body.getD .skip) [.agg [.int .i64 a,.str b,.int .i64 c,.int .i64 d,.int .i64 e,.int .i64 f,.int .i64 g,.str i,.str j,.int .i64 k,.slc l m n,.slc o p q,.int .i64 r,.int .i64 s,.bool (.atom true t)]] u) h) Tryz.func85 (by kernel_rfl) (fun a w=>Tryz.call85 a w) (by kernel_rfl) (by kernel_rfl) rfl rfl
def zol(Y:Int)(Z:ByteArray)(aa ab ac ad ae:Int)(af ag:ByteArray)(ah:Int)(ai:Option Addr)(aj ak:Nat)(al:Option Addr)(am an:Nat)(ao ap:Int)(aq:Bool)(M:World)(N:Value->World->Prop):Prop:=
 ∀b:Nat,M.heap.size<=b->∀l,zag [] [b] M l->FnP Tryz.prog za1 #[(.agg #[(.int .i64 Y),(.string Z),(.int .i64 aa),(.int .i64 ab),(.int .i64 ac),(.int .i64 ad),(.int .i64 ae),(.string af),(.string ag),(.int .i64 ah),(.slice ai aj ak),(.slice al am an),(.int .i64 ao),(.int .i64 ap),(.bool aq)])] l fun O v=>Ext l v/\∃m e n f,O=(.tuple #[(.slice m e n),(.int .i64 f)])/\((f≠0)->∀c,Ext v c->N (.tuple #[(.slice none 0 0),(.int .i64 f)]) c)/\((f=0)->∀c,zag [] [b] v c->Run Tryz.prog (.buildSlice 93 2 [(0,(.int .u8 (IntKind.wrap .u8 (zaw .shr .i64 (e:Int) 8)))),(1,(.int .u8 (IntKind.wrap .u8 (e:Int))))]) c fun P J=>Ext c J/\∃y z A,P=(.slice y z A)/\∀o,zag [] [b] J o->Run Tryz.prog (.append #[93,93] 93 [(.slice y z A),(.slice m e n)]) o fun R g=>zbK [b] o g/\∃B C D,R=(.slice B C D)/\∀p,Ext g p->Run Tryz.prog (.convert 93 9 (.slice m e n)) p fun S T=>Ext p T/\∃E,S=(.string E)/\∀q,Ext g q->FnP Tryz.prog ziP #[(.int .u64 0),(.string E)] q fun U V=>Ext q V/\∃F,U=(.int .u64 F)/\∃(x:Option Addr->Nat->Nat->Int->World->Prop) (L:Option Addr->Nat->Nat->Int->World->Nat),x B C D 56 g/\∀(h:Option Addr)(i:Nat)(j:Nat)(a:Int)(k:World),x h i j a k->(((0<=a)->0<=(a:Int)/\∀d,zag [] [b] k d->Run Tryz.prog (.buildSlice 93 1 [(0,(.int .u8 (IntKind.wrap .u8 (zaw .shr .u64 F a))))]) d fun W K=>Ext d K/\∃G H I,W=(.slice G H I)/\∀r,zag [] [b] K r->Run Tryz.prog (.append #[93,93] 93 [(.slice h i j),(.slice G H I)]) r fun X w=>zbK [b] r w/\∃s t u,X=(.slice s t u)/\InR .i64 (a-8)/\(x s t u (a-8) w/\L s t u (a-8) w<L h i j a k)))/\((a<0)->∀d,Ext k d->N (.tuple #[(.slice h i j),(.int .i64 0)]) d))
theorem ziq(a:Int)(b:ByteArray)(c d e f g:Int)(i j:ByteArray)(k:Int)(l:Option Addr)(m n:Nat)(o:Option Addr)(p q:Nat)(r s:Int)(t:Bool)(u:World)(v:Value->World->Prop)(h:zol a b c d e f g i j k l m n o p q r s t u v):FnP Tryz.prog zb4 #[(.agg #[(.int .i64 a),(.string b),(.int .i64 c),(.int .i64 d),(.int .i64 e),(.int .i64 f),(.int .i64 g),(.string i),(.string j),(.int .i64 k),(.slice l m n),(.slice o p q),(.int .i64 r),(.int .i64 s),(.bool t)])] u v:=
 zab (Eq.mp (by kernel_rfl:_=Runs Tryz.prog v ({N:=42,wrap:=[20,23,38]}:Cfg) Tryz.f38 (Tryz.f38.body.getD .skip) [.agg [.int .i64 a,.str b,.int .i64 c,.int .i64 d,.int .i64 e,.int .i64 f,.int .i64 g,.str i,.str j,.int .i64 k,.slc l m n,.slc o p q,.int .i64 r,.int .i64 s,.bool (.atom true t)]] u) h) Tryz.func38 (by kernel_rfl) (fun a w=>Tryz.call38 a w) (by kernel_rfl) (by kernel_rfl) rfl rfl
def zre(k:Option Addr)(l m:Nat)(n:Option Addr)(o p:Nat)(c:World)(q:Value->World->Prop):Prop:=
 ∀a,Ext c a->Run Tryz.prog (.convert 93 9 (.slice k l m)) a fun g h=>Ext a h/\∃d,g=(.string d)/\∀b,Ext c b->Run Tryz.prog (.convert 93 9 (.slice n o p)) b fun i j=>Ext b j/\∃e,i=(.string e)/\∀f,Ext c f->q (.bool (decide (d=e))) f
theorem zqS(a:Option Addr)(b c:Nat)(d:Option Addr)(e f:Nat)(g:World)(i:Value->World->Prop)(h:zre a b c d e f g i):FnP Tryz.prog zbb #[(.slice a b c),(.slice d e f)] g i:=
 zab (Eq.mp (by kernel_rfl:_=Runs Tryz.prog i ({N:=10}:Cfg) Tryz.f43 (Tryz.f43.body.getD .skip) [.sc (.slc a b c),.sc (.slc d e f)] g) h) Tryz.func43 (by kernel_rfl) (fun a w=>Tryz.call43 a w) (by kernel_rfl) (by kernel_rfl) rfl rfl
def ztR(a:Option Addr)(i:World)(j:Value->World->Prop):Prop:=
 a≠none/\a≠none/\a≠none/\a≠none/\a≠none/\a≠none/\∀b,Ext i b->Run Tryz.prog (.buildSlice 271 3 [(0,(.agg #[(.string (⟨#[99,112,117]⟩:ByteArray)),(.pointer (pAdd a 0))])),(1,(.agg #[(.string (⟨#[109,101,109]⟩:ByteArray)),(.pointer (pAdd a 1))])),(2,(.agg #[(.string (⟨#[103,112,117]⟩:ByteArray)),(.pointer (pAdd a 2))]))]) b fun h g=>Ext b g/\∃c d e,h=(.slice c d e)/\∀f,Ext g f->j (.slice c d e) f
theorem ztf(a:Option Addr)(b:World)(c:Value->World->Prop)(h:ztR a b c):FnP Tryz.prog zeC #[(.pointer a)] b c:=
 zab (Eq.mp (by kernel_rfl:_=Runs Tryz.prog c ({N:=16}:Cfg) Tryz.f158 (Tryz.f158.body.getD .skip) [.sc (.ptr a)] b) h) Tryz.func158 (by kernel_rfl) (fun a w=>Tryz.call158 a w) (by kernel_rfl) (by kernel_rfl) rfl rfl
def ztQ(w x y:Int)(z:World)(j:Value->World->Prop):Prop:=
 ∀k,Ext z k->New k 44 [(.int .i64 w),(.int .i64 x),(.int .i64 y)] fun t u=>∀g,Ext u g->FnP Tryz.prog zeC #[(.pointer t)] g fun v o=>Ext g o/\∃c e q,v=(.slice c e q)/\∃(i:Int->World->Prop) (p:Int->World->Nat),i 0 o/\∀(a:Int)(b:World),i a b->(((a<(e:Int))->c≠none/\(0:Int)<=a/\(a:Int)<(e:Int)/\(pIdx c a 2)≠none/\∃r,cell b (pIdx c a 2) 0=some (.string r)/\∃d,cell b (pIdx c a 2) 1=some (.pointer d)/\∀s:Nat,b.heap.size<=s->d≠none/\∃f,cell b d 0=some (.int .i64 f)/\((0<=f)->d≠none)/\((f<0)->∀l,Ext b l->j (.int .i64 4) l)/\((0<=f)->∃h,cell b d 0=some (.int .i64 h)/\((1099511627776<h)->∀m,Ext b m->j (.int .i64 4) m)/\((h<=1099511627776)->InR .i64 (a+1)/\(i (a+1) b/\p (a+1) b<p a b)))))/\(((e:Int)<=a)->∀n,Ext b n->j (.int .i64 0) n)
theorem zte(a b c:Int)(d:World)(e:Value->World->Prop)(h:ztQ a b c d e):FnP Tryz.prog zbh #[(.agg #[(.int .i64 a),(.int .i64 b),(.int .i64 c)])] d e:=
 zab (Eq.mp (by kernel_rfl:_=Runs Tryz.prog e ({N:=24,pub:=[1]}:Cfg) Tryz.f109 (Tryz.f109.body.getD .skip) [.agg [.int .i64 a,.int .i64 b,.int .i64 c]] d) h) Tryz.func109 (by kernel_rfl) (fun a w=>Tryz.call109 a w) (by kernel_rfl) (by kernel_rfl) rfl rfl
def zwl(g h i:Int)(b:World)(j:Value->World->Prop):Prop:=
 ∀k:Nat,b.heap.size<=k->∀d,Ext b d->FnP Tryz.prog zbh #[(.agg #[(.int .i64 g),(.int .i64 h),(.int .i64 i)])] d fun l m=>Ext d m/\∃c,l=(.int .i64 c)/\((c≠0)->∀a,Ext b a->j (.tuple #[(.string (⟨#[]⟩:ByteArray)),(.int .i64 c)]) a)/\((c=0)->∀a,Ext b a->FnP Tryz.prog zef #[(.agg #[(.int .i64 g),(.int .i64 h),(.int .i64 i)])] a fun n o=>Ext a o/\∃e,n=(.string e)/\∀f,Ext b f->j (.tuple #[(.string e),(.int .i64 0)]) f)
theorem zvs(a b c:Int)(d:World)(e:Value->World->Prop)(h:zwl a b c d e):FnP Tryz.prog zhs #[(.agg #[(.int .i64 a),(.int .i64 b),(.int .i64 c)])] d e:=
 zab (Eq.mp (by kernel_rfl:_=Runs Tryz.prog e ({N:=12}:Cfg) Tryz.f171 (Tryz.f171.body.getD .skip) [.agg [.int .i64 a,.int .i64 b,.int .i64 c]] d) h) Tryz.func171 (by kernel_rfl) (fun a w=>Tryz.call171 a w) (by kernel_rfl) (by kernel_rfl) rfl rfl
def zwn(S T U:Int)(V:World)(G:Value->World->Prop):Prop:=
 ∀x,Ext V x->New x 44 [(.int .i64 S),(.int .i64 T),(.int .i64 U)] fun I J=>∀n,Ext J n->FnP Tryz.prog zeC #[(.pointer I)] n fun K E=>Ext n E/\∃g i H,K=(.slice g i H)/\∃(l:Option Addr->Nat->Nat->Int->World->Prop) (m:Option Addr->Nat->Nat->Int->World->Nat),l none 0 0 0 E/\∀(c:Option Addr)(d:Nat)(e:Nat)(a:Int)(b:World),l c d e a b->(((a<(i:Int))->g≠none/\(0:Int)<=a/\(a:Int)<(i:Int)/\(pIdx g a 2)≠none/\∃j,cell b (pIdx g a 2) 0=some (.string j)/\∃h,cell b (pIdx g a 2) 1=some (.pointer h)/\∀k:Nat,b.heap.size<=k->h≠none/\∃o,cell b h 0=some (.int .i64 o)/\(((o≠0)->zdl j (⟨#[61]⟩:ByteArray)/\h≠none/\∃y,cell b h 0=some (.int .i64 y)/\∀p,Ext b p->FnP Tryz.prog zbz #[(.int .i64 y),(.int .i64 10)] p fun L M=>Ext p M/\∃q,L=(.string q)/\zdl (j++(⟨#[61]⟩:ByteArray)) q/\∀r,zag [] [k] b r->Run Tryz.prog (.buildSlice 22 1 [(0,(.string ((j++(⟨#[61]⟩:ByteArray))++q)))]) r fun N F=>Ext r F/\∃z A B,N=(.slice z A B)/\∀s,zag [] [k] F s->Run Tryz.prog (.append #[22,22] 22 [(.slice c d e),(.slice z A B)]) s fun O w=>zbK [k] s w/\∃t u v,O=(.slice t u v)/\InR .i64 (a+1)/\(l t u v (a+1) w/\m t u v (a+1) w<m c d e a b)))/\((o=0)->InR .i64 (a+1)/\(l c d e (a+1) b/\m c d e (a+1) b<m c d e a b))))/\(((i:Int)<=a)->((c=none)->∀f,Ext b f->G (.string (⟨#[45]⟩:ByteArray)) f)/\((c≠none)->∀f,Ext b f->FnP Tryz.prog zbd #[(.slice c d e),(.string (⟨#[44]⟩:ByteArray))] f fun P R=>Ext f R/\∃C,P=(.string C)/\∀D,Ext b D->G (.string C) D))
theorem zvu(a b c:Int)(d:World)(e:Value->World->Prop)(h:zwn a b c d e):FnP Tryz.prog zef #[(.agg #[(.int .i64 a),(.int .i64 b),(.int .i64 c)])] d e:=
 zab (Eq.mp (by kernel_rfl:_=Runs Tryz.prog e ({N:=34,pub:=[1]}:Cfg) Tryz.f228 (Tryz.f228.body.getD .skip) [.agg [.int .i64 a,.int .i64 b,.int .i64 c]] d) h) Tryz.func228 (by kernel_rfl) (fun a w=>Tryz.call228 a w) (by kernel_rfl) (by kernel_rfl) rfl rfl
def zwk(n:ByteArray)(ah:World)(o:Value->World->Prop):Prop:=
 ∀e:Nat,ah.heap.size<=e->∀N,zag [] [e] ah N->New N 44 [(.int .i64 0),(.int .i64 0),(.int .i64 0)] fun a d=>(((n≠(⟨#[45]⟩:ByteArray))->∀D,zag [] [e] d D->FnP Tryz.prog zbj #[(.string n),(.string (⟨#[44]⟩:ByteArray))] D fun ak ad=>Ext D ad/\∃p x ai,ak=(.slice p x ai)/\∃(M:Int->World->Prop) (ag:Int->World->Nat),M 0 ad/\∀(g:Int)(b:World),M g b->(((g<(x:Int))->p≠none/\(0:Int)<=g/\(g:Int)<(x:Int)/\∃h,cell b (pIdx p g 1) 0=some (.string h)/\∀k,Ext b k->FnP Tryz.prog zdM #[(.string h),(.string (⟨#[61]⟩:ByteArray))] k fun K L=>Ext k L/\∃i t j,K=(.tuple #[(.string i),(.string t),(.bool j)])/\∀q,zag [] [e] b q->FnP Tryz.prog zbP #[(.string t),(.int .i64 10),(.int .i64 64)] q fun al m=>Ext q m/\∃l O,al=(.tuple #[(.int .i64 l),O])/\∀u,Ext m u->Run Tryz.prog (.eq .neq 175 false true O .nilIface) u fun am an=>Ext u an/\∃r,am=(.bool r)/\(((r=true)\/(l<=0))->∀s,zag [e] [] m s->o (.tuple #[(.agg #[(.int .i64 0),(.int .i64 0),(.int .i64 0)]),(.int .i64 3)]) s)/\(((r=false)/\(0<l))->∀s,zag [] [e] m s->FnP Tryz.prog zeC #[(.pointer a)] s fun ao ae=>Ext s ae/\∃v y aj,ao=(.slice v y aj)/\∃(B:Int->World->Prop) (C:Int->World->Nat),B 0 ae/\∀(c:Int)(f:World),B c f->(((c<(y:Int))->v≠none/\(0:Int)<=c/\(c:Int)<(y:Int)/\(pIdx v c 2)≠none/\∃E,cell f (pIdx v c 2) 0=some (.string E)/\∃F,cell f (pIdx v c 2) 1=some (.pointer F)/\∀P:Nat,f.heap.size<=P->(((E=i)->F≠none/\zan f F [(.int .i64 l)] [e,P] fun af=>InR .i64 (c+1)/\(B (c+1) af/\C (c+1) af<C c f)))/\((E≠i)->InR .i64 (c+1)/\(B (c+1) f/\C (c+1) f<C c f))))/\(((y:Int)<=c)->InR .i64 (g+1)/\(M (g+1) f/\ag (g+1) f<ag g b)))))/\(((x:Int)<=g)->a≠none/\∃h,cell b a 0=some (.int .i64 h)/\∃R,cell b a 1=some (.int .i64 R)/\∃S,cell b a 2=some (.int .i64 S)/\∀G,Ext b G->FnP Tryz.prog zef #[(.agg #[(.int .i64 h),(.int .i64 R),(.int .i64 S)])] G fun ap A=>Ext G A/\∃j,ap=(.string j)/\((j≠n)->∀q,zag [e] [] b q->o (.tuple #[(.agg #[(.int .i64 0),(.int .i64 0),(.int .i64 0)]),(.int .i64 3)]) q)/\((j=n)->a≠none/\∃w,cell b a 0=some (.int .i64 w)/\∃T,cell b a 1=some (.int .i64 T)/\∃l,cell b a 2=some (.int .i64 l)/\∀H,Ext b H->FnP Tryz.prog zbh #[(.agg #[(.int .i64 w),(.int .i64 T),(.int .i64 l)])] H fun aq u=>Ext H u/\∃z,aq=(.int .i64 z)/\((z≠0)->∀U,zag [e] [] b U->o (.tuple #[(.agg #[(.int .i64 0),(.int .i64 0),(.int .i64 0)]),(.int .i64 z)]) U)/\((z=0)->a≠none/\∃r,cell b a 0=some (.int .i64 r)/\∃V,cell b a 1=some (.int .i64 V)/\∃W,cell b a 2=some (.int .i64 W)/\∀X,zag [e] [] b X->o (.tuple #[(.agg #[(.int .i64 r),(.int .i64 V),(.int .i64 W)]),(.int .i64 0)]) X)))))/\((n=(⟨#[45]⟩:ByteArray))->a≠none/\∃Y,cell d a 0=some (.int .i64 Y)/\∃Z,cell d a 1=some (.int .i64 Z)/\∃p,cell d a 2=some (.int .i64 p)/\∀I,Ext d I->FnP Tryz.prog zef #[(.agg #[(.int .i64 Y),(.int .i64 Z),(.int .i64 p)])] I fun ar au=>Ext I au/\∃J,ar=(.string J)/\((J≠n)->∀aa,zag [e] [] d aa->o (.tuple #[(.agg #[(.int .i64 0),(.int .i64 0),(.int .i64 0)]),(.int .i64 3)]) aa)/\((J=n)->a≠none/\∃ab,cell d a 0=some (.int .i64 ab)/\∃ac,cell d a 1=some (.int .i64 ac)/\∃h,cell d a 2=some (.int .i64 h)/\∀k,Ext d k->FnP Tryz.prog zbh #[(.agg #[(.int .i64 ab),(.int .i64 ac),(.int .i64 h)])] k fun K L=>Ext k L/\∃i,K=(.int .i64 i)/\((i≠0)->∀A,zag [e] [] d A->o (.tuple #[(.agg #[(.int .i64 0),(.int .i64 0),(.int .i64 0)]),(.int .i64 i)]) A)/\((i=0)->a≠none/\∃t,cell d a 0=some (.int .i64 t)/\∃j,cell d a 1=some (.int .i64 j)/\∃w,cell d a 2=some (.int .i64 w)/\∀m,zag [e] [] d m->o (.tuple #[(.agg #[(.int .i64 t),(.int .i64 j),(.int .i64 w)]),(.int .i64 0)]) m)))
theorem znS(a:ByteArray)(b:World)(c:Value->World->Prop)(h:zwk a b c):FnP Tryz.prog zfq #[(.string a)] b c:=
 zab (Eq.mp (by kernel_rfl:_=Runs Tryz.prog c ({N:=70,pub:=[4]}:Cfg) Tryz.f176 (Tryz.f176.body.getD .skip) [.sc (.str a)] b) h) Tryz.func176 (by kernel_rfl) (fun a w=>Tryz.call176 a w) (by kernel_rfl) (by kernel_rfl) rfl rfl
def zkh  (w:World) (Q:Value->World->Prop):Prop :=
 ∀w0,Ext w w0 ->
 New w0 228 [(.slice none 0 0),(.int .i64 0)] fun p1 w1 =>
  ∀w2,Ext w1 w2 ->
  Q (.pointer p1) w2
theorem zke  (w:World) (Q:Value->World->Prop) (h:zkh  w Q):FnP Tryz.prog ze8 #[] w Q:=by
 have e_:zkh  w Q=Runs Tryz.prog Q ({ N:=3,wrap:=[],pub:=[2],muts:=[],joins:=[] }:Cfg) Tryz.f83 (Tryz.f83.body.getD .skip) [] w:=by kernel_rfl
 rw[e_] at h
 exact zab h Tryz.func83 (by kernel_rfl) (fun args w=>Tryz.call83 args w) (by kernel_rfl) (by kernel_rfl) rfl rfl
def zjr(a t:Option Addr)(d u:Nat)(c:World)(n:Value->World->Prop):Prop:=
 a≠none/\a≠none/\∃o b p,cell c (pAdd a 0) 0=some (.slice o b p)/\InR .i64 (100000-(b:Int))/\(((100000-(b:Int))<(d:Int))->∀e,Ext c e->n (.int .i64 7) e)/\(((d:Int)<=(100000-(b:Int)))->a≠none/\a≠none/\∃f g h,cell c (pAdd a 0) 0=some (.slice f g h)/\∀i,Ext c i->Run Tryz.prog (.append #[93,93] 93 [(.slice f g h),(.slice t d u)]) i fun q r=>∃j k l,q=(.slice j k l)/\a≠none/\a≠none/\zan r (pAdd a 0) [(.slice j k l)] [] fun s=>∀m,Ext s m->n (.int .i64 0) m)
theorem zeH(a b:Option Addr)(c d:Nat)(e:World)(f:Value->World->Prop)(h:zjr a b c d e f):FnP Tryz.prog zb2 #[(.pointer a),(.slice b c d)] e f:=
 zab (Eq.mp (by kernel_rfl:_=Runs Tryz.prog f ({N:=23}:Cfg) Tryz.f84 (Tryz.f84.body.getD .skip) [.sc (.ptr a),.sc (.slc b c d)] e) h) Tryz.func84 (by kernel_rfl) (fun a w=>Tryz.call84 a w) (by kernel_rfl) (by kernel_rfl) rfl rfl
def zjq(b:Option Addr)(k:World)(m:Value->World->Prop):Prop:=
 b≠none/\b≠none/\∃c d e,cell k (pAdd b 0) 0=some (.slice c d e)/\∀a,Ext k a->FnP Tryz.prog zhk #[(.slice c d e)] a fun l j=>Ext a j/\∃f g h,l=(.slice f g h)/\∀i,Ext j i->m (.slice f g h) i
theorem zeG(a:Option Addr)(b:World)(c:Value->World->Prop)(h:zjq a b c):FnP Tryz.prog zb1 #[(.pointer a)] b c:=
 zab (Eq.mp (by kernel_rfl:_=Runs Tryz.prog c ({N:=8}:Cfg) Tryz.f88 (Tryz.f88.body.getD .skip) [.sc (.ptr a)] b) h) Tryz.func88 (by kernel_rfl) (fun a w=>Tryz.call88 a w) (by kernel_rfl) (by kernel_rfl) rfl rfl
def zrd(b:Option Addr)(q r:Nat)(l:World)(m:Value->World->Prop):Prop:=
 ((b=none)->∀a,Ext l a->m (.slice none 0 0) a)/\((b≠none)->∀a,Ext l a->Run Tryz.prog (.buildSlice 93 0 []) a fun n k=>Ext a k/\∃c d e,n=(.slice c d e)/\∀f,Ext k f->Run Tryz.prog (.append #[93,93] 93 [(.slice c d e),(.slice b q r)]) f fun o p=>∃g h i,o=(.slice g h i)/\∀j,Ext p j->m (.slice g h i) j)
theorem zqR(a:Option Addr)(b c:Nat)(d:World)(e:Value->World->Prop)(h:zrd a b c d e):FnP Tryz.prog zhk #[(.slice a b c)] d e:=
 zab (Eq.mp (by kernel_rfl:_=Runs Tryz.prog e ({N:=8}:Cfg) Tryz.f131 (Tryz.f131.body.getD .skip) [.sc (.slc a b c)] d) h) Tryz.func131 (by kernel_rfl) (fun a w=>Tryz.call131 a w) (by kernel_rfl) (by kernel_rfl) rfl rfl
abbrev zbn:FuncId:=96
abbrev zec:FuncId:=113
abbrev zhj:FuncId:=159
abbrev zhi:FuncId:=160
abbrev zjv:FuncId:=172
abbrev zmk:FuncId:=226
abbrev zdw:FuncId:=229
abbrev zaf:FuncId:=258
abbrev zbv:FuncId:=259
abbrev zf4:FuncId:=275
def zv6(a:ByteArray)(n:World)(i:Value->World->Prop):Prop:=
 ((((a≠(⟨#[]⟩:ByteArray))/\((a.size:Int)<=20))->(0:Int)<=0))/\((((a≠(⟨#[]⟩:ByteArray))/\((a.size:Int)<=20))->(0:Int)<(a.size:Int)))/\(((((a≠(⟨#[]⟩:ByteArray))/\((a.size:Int)<=20))/\(97<=(sAt a 0)))->(0:Int)<=0))/\(((((a≠(⟨#[]⟩:ByteArray))/\((a.size:Int)<=20))/\(97<=(sAt a 0)))->(0:Int)<(a.size:Int)))/\(((((a=(⟨#[]⟩:ByteArray))\/(20<(a.size:Int)))\/((sAt a 0)<97))\/(122<(sAt a 0)))->∀e,Ext n e->i (.bool false) e)/\(((((a≠(⟨#[]⟩:ByteArray))/\((a.size:Int)<=20))/\(97<=(sAt a 0)))/\((sAt a 0)<=122))->∀e,Ext n e->Run Tryz.prog (.convert 9 93 (.string a)) e fun p l=>Ext e l/\∃g f o,p=(.slice g f o)/\∃(h:Int->World->Prop) (m:Int->World->Nat),h 0 l/\∀(c:Int)(d:World),h c d->(((c<(f:Int))->g≠none/\(0:Int)<=c/\(c:Int)<(f:Int)/\∃b,cell d (pIdx g c 1) 0=some (.int .u8 b)/\((((((b<97)\/(122<b))/\((b<48)\/(57<b)))/\(b≠45))->∀j,Ext d j->i (.bool false) j))/\(((((97<=b)/\(b<=122))\/((48<=b)/\(b<=57)))\/(b=45))->InR .i64 (c+1)/\(h (c+1) d/\m (c+1) d<m c d))))/\(((f:Int)<=c)->∀k,Ext d k->i (.bool true) k))
theorem zvf(a:ByteArray)(b:World)(c:Value->World->Prop)(h:zv6 a b c):FnP Tryz.prog zbn #[(.string a)] b c:=
 zab (Eq.mp (by kernel_rfl:_=Runs Tryz.prog c ({N:=48}:Cfg) Tryz.f96 (Tryz.f96.body.getD .skip) [.sc (.str a)] b) h) Tryz.func96 (by kernel_rfl) (fun a w=>Tryz.call96 a w) (by kernel_rfl) (by kernel_rfl) rfl rfl
def zv8(x:Int)(y z:ByteArray)(A:Int)(c:Option Addr)(h B:Nat)(r:World)(w:Value->World->Prop):Prop:=
 ∀s:Nat,r.heap.size<=s->∃(g:Int->Int->World->Prop) (q:Int->Int->World->Nat),g 1 0 r/\∀(d:Int)(a:Int)(b:World),g d a b->(((a<(h:Int))->c≠none/\(0:Int)<=a/\(a:Int)<(h:Int)/\(pIdx c a 5)≠none/\∃i,cell b (pIdx c a 5) 0=some (.int .i64 i)/\∃j,cell b (pIdx c a 5) 1=some (.string j)/\∃k,cell b (pIdx c a 5) 2=some (.string k)/\∃l,cell b (pIdx c a 5) 3=some (.int .i64 l)/\∃m n o,cell b (pIdx c a 5) 4=some (.slice m n o)/\∀t:Nat,b.heap.size<=t->∀e,Ext b e->FnP Tryz.prog zhj #[(.agg #[(.int .i64 i),(.string j),(.string k),(.int .i64 l),(.slice m n o)])] e fun u v=>Ext e v/\∃f,u=(.int .i64 f)/\InR .i64 (a+1)/\(g (IntKind.wrap .i64 (d+f)) (a+1) b/\q (IntKind.wrap .i64 (d+f)) (a+1) b<q d a b)))/\(((h:Int)<=a)->∀p,Ext b p->w (.int .i64 d) p)
theorem zvh(a:Int)(b c:ByteArray)(d:Int)(e:Option Addr)(f g:Nat)(i:World)(j:Value->World->Prop)(h:zv8 a b c d e f g i j):FnP Tryz.prog zhj #[(.agg #[(.int .i64 a),(.string b),(.string c),(.int .i64 d),(.slice e f g)])] i j:=
 zab (Eq.mp (by kernel_rfl:_=Runs Tryz.prog j ({N:=19,wrap:=[16]}:Cfg) Tryz.f159 (Tryz.f159.body.getD .skip) [.agg [.int .i64 a,.str b,.str c,.int .i64 d,.slc e f g]] i) h) Tryz.func159 (by kernel_rfl) (fun a w=>Tryz.call159 a w) (by kernel_rfl) (by kernel_rfl) rfl rfl
def zv4(g:Int)(h i:ByteArray)(j:Int)(k:Option Addr)(l m:Nat)(b:World)(n:Value->World->Prop):Prop:=
 ∀o:Nat,b.heap.size<=o->∀c,Ext b c->FnP Tryz.prog zhj #[(.agg #[(.int .i64 g),(.string h),(.string i),(.int .i64 j),(.slice k l m)])] c fun p q=>Ext c q/\∃d,p=(.int .i64 d)/\((60<d)->∀a,Ext b a->n (.int .i64 2) a)/\((d<=60)->∀a,Ext b a->FnP Tryz.prog zhi #[(.agg #[(.int .i64 g),(.string h),(.string i),(.int .i64 j),(.slice k l m)])] a fun r s=>Ext a s/\∃e,r=(.int .i64 e)/\∀f,Ext b f->n (.int .i64 e) f)
theorem zvd(a:Int)(b c:ByteArray)(d:Int)(e:Option Addr)(f g:Nat)(i:World)(j:Value->World->Prop)(h:zv4 a b c d e f g i j):FnP Tryz.prog zec #[(.agg #[(.int .i64 a),(.string b),(.string c),(.int .i64 d),(.slice e f g)])] i j:=
 zab (Eq.mp (by kernel_rfl:_=Runs Tryz.prog j ({N:=8}:Cfg) Tryz.f113 (Tryz.f113.body.getD .skip) [.agg [.int .i64 a,.str b,.str c,.int .i64 d,.slc e f g]] i) h) Tryz.func113 (by kernel_rfl) (fun a w=>Tryz.call113 a w) (by kernel_rfl) (by kernel_rfl) rfl rfl
def zyi(a:ByteArray)(c:World)(d:Value->World->Prop):Prop:=
 ∀b,Ext c b->d (.bool (((decide (a=(⟨#[99,112,117]⟩:ByteArray)))||(decide (a=(⟨#[109,101,109]⟩:ByteArray))))||(decide (a=(⟨#[103,112,117]⟩:ByteArray))))) b
theorem zxB(a:ByteArray)(b:World)(c:Value->World->Prop)(h:zyi a b c):FnP Tryz.prog zmk #[(.string a)] b c:=
 zab (Eq.mp (by kernel_rfl:_=Runs Tryz.prog c ({N:=13}:Cfg) Tryz.f226 (Tryz.f226.body.getD .skip) [.sc (.str a)] b) h) Tryz.func226 (by kernel_rfl) (fun a w=>Tryz.call226 a w) (by kernel_rfl) (by kernel_rfl) rfl rfl
def zv7(d:Int)(v p:ByteArray)(a:Int)(o:Option Addr)(w U:Nat)(m:World)(f:Value->World->Prop):Prop:=
 ∀N:Nat,m.heap.size<=N->(((d<1)\/(6<d))->∀D,Ext m D->f (.int .i64 1) D)/\(((1<=d)/\(d<=6))->∃(n:Int->Bool->World->Prop),((((d=5)->(((d=5)->InR .i64 (0+1)/\InR .i64 ((0+1)+1)/\n ((0+1)+1) false m))/\((d≠5)->(((d=4)->InR .i64 (0+1)/\n (0+1) false m))/\((d≠4)->n 0 true m))))/\((d≠5)->(((d=6)->InR .i64 (0+1)/\InR .i64 ((0+1)+1)/\n ((0+1)+1) false m))/\((d≠6)->(((d=4)->InR .i64 (0+1)/\n (0+1) false m))/\((d≠4)->n 0 true m))))/\∀(A:Int)(B:Bool)(c:World),n A B c->(((((((w:Int)≠A)\/((B=false)/\(v≠(⟨#[]⟩:ByteArray))))\/((d≠2)/\(p≠(⟨#[]⟩:ByteArray))))\/((d≠3)/\(a≠0)))->∀E,Ext c E->f (.int .i64 1) E))/\((((((w:Int)=A)/\((B=true)\/(v=(⟨#[]⟩:ByteArray))))/\((d=2)\/(p=(⟨#[]⟩:ByteArray))))/\((d=3)\/(a=0)))->∃(l:World->Prop),((((d=3)->∀j,Ext c j->FnP Tryz.prog zmk #[(.string v)] j fun r s=>Ext j s/\∃h,r=(.bool h)/\(((h=false)->((h=false)->∀b,Ext c b->f (.int .i64 3) b)/\((h=true)->(((a<0)\/(1099511627776<a))->∀b,Ext c b->f (.int .i64 4) b)/\(((0<=a)/\(a<=1099511627776))->l  c))))/\((h=true)->((((d=1)\/(d=2))->∀b,Ext c b->FnP Tryz.prog zbn #[(.string v)] b fun t u=>Ext b u/\∃g,t=(.bool g)/\(((g=false)->((g=false)->∀e,Ext c e->f (.int .i64 3) e)/\((g=true)->(((a<0)\/(1099511627776<a))->∀e,Ext c e->f (.int .i64 4) e)/\(((0<=a)/\(a<=1099511627776))->l  c))))/\((g=true)->(((d=2)->∀e,Ext c e->FnP Tryz.prog zbn #[(.string p)] e fun P R=>Ext e R/\∃y,P=(.bool y)/\((y=false)->∀q,Ext c q->f (.int .i64 3) q)/\((y=true)->(((a<0)\/(1099511627776<a))->∀q,Ext c q->f (.int .i64 4) q)/\(((0<=a)/\(a<=1099511627776))->l  c))))/\((d≠2)->(((a<0)\/(1099511627776<a))->∀e,Ext c e->f (.int .i64 4) e)/\(((0<=a)/\(a<=1099511627776))->l  c)))))/\(((d≠1)/\(d≠2))->(((d=2)->∀b,Ext c b->FnP Tryz.prog zbn #[(.string p)] b fun t u=>Ext b u/\∃g,t=(.bool g)/\((g=false)->∀e,Ext c e->f (.int .i64 3) e)/\((g=true)->(((a<0)\/(1099511627776<a))->∀e,Ext c e->f (.int .i64 4) e)/\(((0<=a)/\(a<=1099511627776))->l  c))))/\((d≠2)->(((a<0)\/(1099511627776<a))->∀b,Ext c b->f (.int .i64 4) b)/\(((0<=a)/\(a<=1099511627776))->l  c))))))/\((d≠3)->((((d=1)\/(d=2))->∀j,Ext c j->FnP Tryz.prog zbn #[(.string v)] j fun r s=>Ext j s/\∃h,r=(.bool h)/\(((h=false)->((h=false)->∀b,Ext c b->f (.int .i64 3) b)/\((h=true)->(((a<0)\/(1099511627776<a))->∀b,Ext c b->f (.int .i64 4) b)/\(((0<=a)/\(a<=1099511627776))->l  c))))/\((h=true)->(((d=2)->∀b,Ext c b->FnP Tryz.prog zbn #[(.string p)] b fun t u=>Ext b u/\∃g,t=(.bool g)/\((g=false)->∀e,Ext c e->f (.int .i64 3) e)/\((g=true)->(((a<0)\/(1099511627776<a))->∀e,Ext c e->f (.int .i64 4) e)/\(((0<=a)/\(a<=1099511627776))->l  c))))/\((d≠2)->(((a<0)\/(1099511627776<a))->∀b,Ext c b->f (.int .i64 4) b)/\(((0<=a)/\(a<=1099511627776))->l  c)))))/\(((d≠1)/\(d≠2))->(((d=2)->∀j,Ext c j->FnP Tryz.prog zbn #[(.string p)] j fun r s=>Ext j s/\∃h,r=(.bool h)/\((h=false)->∀b,Ext c b->f (.int .i64 3) b)/\((h=true)->(((a<0)\/(1099511627776<a))->∀b,Ext c b->f (.int .i64 4) b)/\(((0<=a)/\(a<=1099511627776))->l  c))))/\((d≠2)->(((a<0)\/(1099511627776<a))->∀j,Ext c j->f (.int .i64 4) j)/\(((0<=a)/\(a<=1099511627776))->l  c)))))/\∀  (w6:World),l  w6->∃(C:Int->World->Prop) (M:Int->World->Nat),C 0 w6/\∀(i:Int)(k:World),C i k->(((i<(w:Int))->o≠none/\(0:Int)<=i/\(i:Int)<(w:Int)/\(pIdx o i 5)≠none/\∃F,cell k (pIdx o i 5) 0=some (.int .i64 F)/\∃G,cell k (pIdx o i 5) 1=some (.string G)/\∃g,cell k (pIdx o i 5) 2=some (.string g)/\∃H,cell k (pIdx o i 5) 3=some (.int .i64 H)/\∃I J K,cell k (pIdx o i 5) 4=some (.slice I J K)/\∀O:Nat,k.heap.size<=O->∀z,Ext k z->FnP Tryz.prog zhi #[(.agg #[(.int .i64 F),(.string G),(.string g),(.int .i64 H),(.slice I J K)])] z fun S T=>Ext z T/\∃x,S=(.int .i64 x)/\((x≠0)->∀L,Ext k L->f (.int .i64 x) L)/\((x=0)->InR .i64 (i+1)/\(C (i+1) k/\M (i+1) k<M i k))))/\(((w:Int)<=i)->∀b,Ext k b->f (.int .i64 0) b)))
theorem zvg(a:Int)(b c:ByteArray)(d:Int)(e:Option Addr)(f g:Nat)(i:World)(j:Value->World->Prop)(h:zv7 a b c d e f g i j):FnP Tryz.prog zhi #[(.agg #[(.int .i64 a),(.string b),(.string c),(.int .i64 d),(.slice e f g)])] i j:=
 zab (Eq.mp (by kernel_rfl:_=Runs Tryz.prog j ({N:=115,joins:=[(0,[3,4]),(4,[])]}:Cfg) Tryz.f160 (Tryz.f160.body.getD .skip) [.agg [.int .i64 a,.str b,.str c,.int .i64 d,.slc e f g]] i) h) Tryz.func160 (by kernel_rfl) (fun a w=>Tryz.call160 a w) (by kernel_rfl) (by kernel_rfl) rfl rfl
def zyh(e:Int)(o H:ByteArray)(N:Int)(b:Option Addr)(z O:Nat)(a:World)(r:Value->World->Prop):Prop:=
 ∀I:Nat,a.heap.size<=I->(((e=1)->zdl (⟨#[63]⟩:ByteArray) o/\∀f,Ext a f->r (.string ((⟨#[63]⟩:ByteArray)++o)) f))/\((e≠1)->(((e=2)->zdl o (⟨#[61]⟩:ByteArray)/\zdl (o++(⟨#[61]⟩:ByteArray)) H/\∀f,Ext a f->r (.string ((o++(⟨#[61]⟩:ByteArray))++H)) f))/\((e≠2)->(((e=3)->zdl o (⟨#[62,61]⟩:ByteArray)/\∀f,Ext a f->FnP Tryz.prog zbz #[(.int .i64 N),(.int .i64 10)] f fun J K=>Ext f K/\∃d,J=(.string d)/\zdl (o++(⟨#[62,61]⟩:ByteArray)) d/\∀F,Ext a F->r (.string ((o++(⟨#[62,61]⟩:ByteArray))++d)) F))/\((e≠3)->(((e=4)->b≠none/\(0:Int)<=0/\(0:Int)<(z:Int)/\(pIdx b 0 5)≠none/\∃i,cell a (pIdx b 0 5) 0=some (.int .i64 i)/\∃j,cell a (pIdx b 0 5) 1=some (.string j)/\∃d,cell a (pIdx b 0 5) 2=some (.string d)/\∃k,cell a (pIdx b 0 5) 3=some (.int .i64 k)/\∃l m n,cell a (pIdx b 0 5) 4=some (.slice l m n)/\∀A,Ext a A->FnP Tryz.prog zdw #[(.agg #[(.int .i64 i),(.string j),(.string d),(.int .i64 k),(.slice l m n)])] A fun L M=>Ext A M/\∃g,L=(.string g)/\zdl (⟨#[33]⟩:ByteArray) g/\∀G,Ext a G->r (.string ((⟨#[33]⟩:ByteArray)++g)) G))/\((e≠4)->(((e=5)->b≠none/\(0:Int)<=0/\(0:Int)<(z:Int)/\(pIdx b 0 5)≠none/\∃i,cell a (pIdx b 0 5) 0=some (.int .i64 i)/\∃j,cell a (pIdx b 0 5) 1=some (.string j)/\∃d,cell a (pIdx b 0 5) 2=some (.string d)/\∃k,cell a (pIdx b 0 5) 3=some (.int .i64 k)/\∃l m n,cell a (pIdx b 0 5) 4=some (.slice l m n)/\b≠none/\(0:Int)<=1/\(1:Int)<(z:Int)/\(pIdx b 1 5)≠none/\∃s,cell a (pIdx b 1 5) 0=some (.int .i64 s)/\∃t,cell a (pIdx b 1 5) 1=some (.string t)/\∃g,cell a (pIdx b 1 5) 2=some (.string g)/\∃u,cell a (pIdx b 1 5) 3=some (.int .i64 u)/\∃v w x,cell a (pIdx b 1 5) 4=some (.slice v w x)/\∀p,Ext a p->FnP Tryz.prog zdw #[(.agg #[(.int .i64 i),(.string j),(.string d),(.int .i64 k),(.slice l m n)])] p fun B C=>Ext p C/\∃c,B=(.string c)/\zdl (⟨#[40]⟩:ByteArray) c/\zdl ((⟨#[40]⟩:ByteArray)++c) (⟨#[38]⟩:ByteArray)/\∀q,Ext a q->FnP Tryz.prog zdw #[(.agg #[(.int .i64 s),(.string t),(.string g),(.int .i64 u),(.slice v w x)])] q fun D E=>Ext q E/\∃h,D=(.string h)/\zdl (((⟨#[40]⟩:ByteArray)++c)++(⟨#[38]⟩:ByteArray)) h/\zdl ((((⟨#[40]⟩:ByteArray)++c)++(⟨#[38]⟩:ByteArray))++h) (⟨#[41]⟩:ByteArray)/\∀y,Ext a y->r (.string (((((⟨#[40]⟩:ByteArray)++c)++(⟨#[38]⟩:ByteArray))++h)++(⟨#[41]⟩:ByteArray))) y))/\((e≠5)->b≠none/\(0:Int)<=0/\(0:Int)<(z:Int)/\(pIdx b 0 5)≠none/\∃i,cell a (pIdx b 0 5) 0=some (.int .i64 i)/\∃j,cell a (pIdx b 0 5) 1=some (.string j)/\∃d,cell a (pIdx b 0 5) 2=some (.string d)/\∃k,cell a (pIdx b 0 5) 3=some (.int .i64 k)/\∃l m n,cell a (pIdx b 0 5) 4=some (.slice l m n)/\b≠none/\(0:Int)<=1/\(1:Int)<(z:Int)/\(pIdx b 1 5)≠none/\∃s,cell a (pIdx b 1 5) 0=some (.int .i64 s)/\∃t,cell a (pIdx b 1 5) 1=some (.string t)/\∃g,cell a (pIdx b 1 5) 2=some (.string g)/\∃u,cell a (pIdx b 1 5) 3=some (.int .i64 u)/\∃v w x,cell a (pIdx b 1 5) 4=some (.slice v w x)/\∀p,Ext a p->FnP Tryz.prog zdw #[(.agg #[(.int .i64 i),(.string j),(.string d),(.int .i64 k),(.slice l m n)])] p fun B C=>Ext p C/\∃c,B=(.string c)/\zdl (⟨#[40]⟩:ByteArray) c/\zdl ((⟨#[40]⟩:ByteArray)++c) (⟨#[124]⟩:ByteArray)/\∀q,Ext a q->FnP Tryz.prog zdw #[(.agg #[(.int .i64 s),(.string t),(.string g),(.int .i64 u),(.slice v w x)])] q fun D E=>Ext q E/\∃h,D=(.string h)/\zdl (((⟨#[40]⟩:ByteArray)++c)++(⟨#[124]⟩:ByteArray)) h/\zdl ((((⟨#[40]⟩:ByteArray)++c)++(⟨#[124]⟩:ByteArray))++h) (⟨#[41]⟩:ByteArray)/\∀y,Ext a y->r (.string (((((⟨#[40]⟩:ByteArray)++c)++(⟨#[124]⟩:ByteArray))++h)++(⟨#[41]⟩:ByteArray))) y)))))
theorem zxA(a:Int)(b c:ByteArray)(d:Int)(e:Option Addr)(f g:Nat)(i:World)(j:Value->World->Prop)(h:zyh a b c d e f g i j):FnP Tryz.prog zdw #[(.agg #[(.int .i64 a),(.string b),(.string c),(.int .i64 d),(.slice e f g)])] i j:=
 zab (Eq.mp (by kernel_rfl:_=Runs Tryz.prog j ({N:=65}:Cfg) Tryz.f229 (Tryz.f229.body.getD .skip) [.agg [.int .i64 a,.str b,.str c,.int .i64 d,.slc e f g]] i) h) Tryz.func229 (by kernel_rfl) (fun a w=>Tryz.call229 a w) (by kernel_rfl) (by kernel_rfl) rfl rfl
def zyg(g:Int)(h i:ByteArray)(j:Int)(k:Option Addr)(l m:Nat)(b:World)(n:Value->World->Prop):Prop:=
 ∀o:Nat,b.heap.size<=o->∀d,Ext b d->FnP Tryz.prog zec #[(.agg #[(.int .i64 g),(.string h),(.string i),(.int .i64 j),(.slice k l m)])] d fun p q=>Ext d q/\∃c,p=(.int .i64 c)/\((c≠0)->∀a,Ext b a->n (.tuple #[(.string (⟨#[]⟩:ByteArray)),(.int .i64 c)]) a)/\((c=0)->∀a,Ext b a->FnP Tryz.prog zdw #[(.agg #[(.int .i64 g),(.string h),(.string i),(.int .i64 j),(.slice k l m)])] a fun r s=>Ext a s/\∃e,r=(.string e)/\∀f,Ext b f->n (.tuple #[(.string e),(.int .i64 0)]) f)
theorem zxz(a:Int)(b c:ByteArray)(d:Int)(e:Option Addr)(f g:Nat)(i:World)(j:Value->World->Prop)(h:zyg a b c d e f g i j):FnP Tryz.prog zjv #[(.agg #[(.int .i64 a),(.string b),(.string c),(.int .i64 d),(.slice e f g)])] i j:=
 zab (Eq.mp (by kernel_rfl:_=Runs Tryz.prog j ({N:=12}:Cfg) Tryz.f172 (Tryz.f172.body.getD .skip) [.agg [.int .i64 a,.str b,.str c,.int .i64 d,.slc e f g]] i) h) Tryz.func172 (by kernel_rfl) (fun a w=>Tryz.call172 a w) (by kernel_rfl) (by kernel_rfl) rfl rfl
def zl5(a:Option Addr)(j:Int)(c:World)(f:Value->World->Prop):Prop:=
 a≠none/\a≠none/\∃d,cell c (pAdd a 0) 0=some (.string d)/\((d≠(⟨#[]⟩:ByteArray))->a≠none)/\((d≠(⟨#[]⟩:ByteArray))->a≠none)/\((d=(⟨#[]⟩:ByteArray))->∀g,Ext c g->f (.bool false) g)/\((d≠(⟨#[]⟩:ByteArray))->∃e,cell c (pAdd a 0) 0=some (.string e)/\(0:Int)<=0/\(0:Int)<(e.size:Int)/\(((sAt e 0)≠j)->∀h,Ext c h->f (.bool false) h)/\(((sAt e 0)=j)->a≠none/\a≠none/\∃b,cell c (pAdd a 0) 0=some (.string b)/\(0:Int)<=1/\(1:Int)<=(b.size:Int)/\((b.size:Int):Int)<=(b.size:Int)/\a≠none/\a≠none/\zan c (pAdd a 0) [(.string (b.extract (1:Int).toNat (b.size:Int).toNat))] [] fun k=>∀i,Ext k i->f (.bool true) i))
theorem zgg(a:Option Addr)(b:Int)(c:World)(d:Value->World->Prop)(h:zl5 a b c d):FnP Tryz.prog zaf #[(.pointer a),(.int .u8 b)] c d:=
 zab (Eq.mp (by kernel_rfl:_=Runs Tryz.prog d ({N:=27}:Cfg) Tryz.f258 (Tryz.f258.body.getD .skip) [.sc (.ptr a),.sc (.int .u8 b)] c) h) Tryz.func258 (by kernel_rfl) (fun a w=>Tryz.call258 a w) (by kernel_rfl) (by kernel_rfl) rfl rfl
def zl6(a:Option Addr)(e:World)(k:Value->World->Prop):Prop:=
 a≠none/\a≠none/\∃i,cell e (pAdd a 0) 0=some (.string i)/\∀h,Ext e h->FnP Tryz.prog zf4 #[(.string i),(.string (⟨#[63,61,62,33,40,41,38,124]⟩:ByteArray))] h fun l m=>Ext h m/\∃d,l=(.int .i64 d)/\(((d<0)->a≠none/\a≠none/\∃b,cell e (pAdd a 0) 0=some (.string b)/\a≠none/\a≠none/\∃c,cell e (pAdd a 0) 0=some (.string c)/\(0:Int)<=0/\(0:Int)<=(b.size:Int)/\((b.size:Int):Int)<=(c.size:Int)/\a≠none/\a≠none/\∃f,cell e (pAdd a 0) 0=some (.string f)/\(0:Int)<=(b.size:Int)/\((b.size:Int):Int)<=(f.size:Int)/\((f.size:Int):Int)<=(f.size:Int)/\a≠none/\a≠none/\zan e (pAdd a 0) [(.string (f.extract (b.size:Int).toNat (f.size:Int).toNat))] [] fun g=>∀j,Ext g j->k (.string (c.extract (0:Int).toNat (b.size:Int).toNat)) j))/\((0<=d)->a≠none/\a≠none/\∃b,cell e (pAdd a 0) 0=some (.string b)/\(0:Int)<=0/\(0:Int)<=d/\(d:Int)<=(b.size:Int)/\a≠none/\a≠none/\∃c,cell e (pAdd a 0) 0=some (.string c)/\(0:Int)<=d/\(d:Int)<=(c.size:Int)/\((c.size:Int):Int)<=(c.size:Int)/\a≠none/\a≠none/\zan e (pAdd a 0) [(.string (c.extract d.toNat (c.size:Int).toNat))] [] fun n=>∀g,Ext n g->k (.string (b.extract (0:Int).toNat d.toNat)) g)
theorem zlH(a:Option Addr)(b:World)(c:Value->World->Prop)(h:zl6 a b c):FnP Tryz.prog zbv #[(.pointer a)] b c:=
 zab (Eq.mp (by kernel_rfl:_=Runs Tryz.prog c ({N:=33}:Cfg) Tryz.f259 (Tryz.f259.body.getD .skip) [.sc (.ptr a)] b) h) Tryz.func259 (by kernel_rfl) (fun a w=>Tryz.call259 a w) (by kernel_rfl) (by kernel_rfl) rfl rfl
abbrev zju:FuncId:=177
abbrev za5:FuncId:=231
abbrev zeQ:FuncId:=260
def znp(b:Option Addr)(u:World)(h:Value->World->Prop):Prop:=
 ∀a:Nat,u.heap.size<=a->b≠none/\b≠none/\∃w,cell u (pAdd b 1) 0=some (.int .i64 w)/\((w=0)->∀R,Ext u R->h (.tuple #[(.agg #[(.int .i64 0),(.string (⟨#[]⟩:ByteArray)),(.string (⟨#[]⟩:ByteArray)),(.int .i64 0),(.slice none 0 0)]),(.bool false)]) R)/\((w≠0)->b≠none/\b≠none/\∃x,cell u (pAdd b 1) 0=some (.int .i64 x)/\InR .i64 (x-1)/\b≠none/\b≠none/\zan u (pAdd b 1) [(.int .i64 (x-1))] [a] fun ax=>∀y,zag [] [a] ax y->FnP Tryz.prog zaf #[(.pointer b),(.int .u8 63)] y fun ay G=>zbK [a] y G/\∃z,ay=(.bool z)/\(((z=true)->∀i,zag [] [a] G i->FnP Tryz.prog zbv #[(.pointer b)] i fun H q=>zbK [a] i q/\∃o,H=(.string o)/\∀d,zag [a] [] q d->h (.tuple #[(.agg #[(.int .i64 1),(.string o),(.string (⟨#[]⟩:ByteArray)),(.int .i64 0),(.slice none 0 0)]),(.bool true)]) d))/\((z=false)->∀i,zag [] [a] G i->FnP Tryz.prog zaf #[(.pointer b),(.int .u8 33)] i fun H q=>zbK [a] i q/\∃o,H=(.bool o)/\(((o=true)->∀d,zag [] [a] q d->FnP Tryz.prog za5 #[(.pointer b)] d fun I m=>zbK [a] d m/\∃S T U V W X Y Z,I=(.tuple #[(.agg #[(.int .i64 S),(.string T),(.string U),(.int .i64 V),(.slice W X Y)]),(.bool Z)])/\∀aa:Nat,m.heap.size<=aa->∀A,zag [] [a,aa] m A->Run Tryz.prog (.buildSlice 45 1 [(0,(.agg #[(.int .i64 S),(.string T),(.string U),(.int .i64 V),(.slice W X Y)]))]) A fun az c=>Ext A c/\∃ab ac ad,az=(.slice ab ac ad)/\∀f,zag [a] [] c f->h (.tuple #[(.agg #[(.int .i64 4),(.string (⟨#[]⟩:ByteArray)),(.string (⟨#[]⟩:ByteArray)),(.int .i64 0),(.slice ab ac ad)]),(.bool Z)]) f))/\((o=false)->∀d,zag [] [a] q d->FnP Tryz.prog zaf #[(.pointer b),(.int .u8 40)] d fun I m=>zbK [a] d m/\∃B,I=(.bool B)/\(((B=true)->∀j,zag [] [a] m j->FnP Tryz.prog zeQ #[(.pointer b)] j fun J t=>zbK [a] j t/\∃ae af ag ah ai aj ak al,J=(.tuple #[(.agg #[(.int .i64 ae),(.string af),(.string ag),(.int .i64 ah),(.slice ai aj ak)]),(.bool al)])/\∀g,zag [a] [] t g->h (.tuple #[(.agg #[(.int .i64 ae),(.string af),(.string ag),(.int .i64 ah),(.slice ai aj ak)]),(.bool al)]) g))/\((B=false)->∀j,zag [] [a] m j->FnP Tryz.prog zbv #[(.pointer b)] j fun J t=>zbK [a] j t/\∃v,J=(.string v)/\∀C,zag [] [a] t C->FnP Tryz.prog zaf #[(.pointer b),(.int .u8 62)] C fun aA K=>zbK [a] C K/\∃D,aA=(.bool D)/\(((D=true)->∀k,zag [] [a] K k->FnP Tryz.prog zaf #[(.pointer b),(.int .u8 61)] k fun L n=>zbK [a] k n/\∃l,L=(.bool l)/\((l=false)->∀c,zag [a] [] n c->h (.tuple #[(.agg #[(.int .i64 0),(.string (⟨#[]⟩:ByteArray)),(.string (⟨#[]⟩:ByteArray)),(.int .i64 0),(.slice none 0 0)]),(.bool false)]) c)/\((l=true)->∀c,zag [] [a] n c->FnP Tryz.prog zbv #[(.pointer b)] c fun M g=>zbK [a] c g/\∃r,M=(.string r)/\∀p,zag [] [a] g p->FnP Tryz.prog zbP #[(.string r),(.int .i64 10),(.int .i64 64)] p fun aB f=>Ext p f/\∃E F,aB=(.tuple #[(.int .i64 E),F])/\∃(P:Bool->Int->ByteArray->ByteArray->Int->Option Addr->Nat->Nat->World->Prop),((∀e,Ext f e->Run Tryz.prog (.eq .eql 175 false true F .nilIface) e fun N O=>Ext e O/\∃s,N=(.bool s)/\P s 3 v (⟨#[]⟩:ByteArray) E none 0 0 f)/\∀e,zag [a] [] f e->Run Tryz.prog (.eq .eql 175 false true F .nilIface) e fun N O=>Ext e O/\∃s,N=(.bool s)/\P s 3 v (⟨#[]⟩:ByteArray) E none 0 0 f)/\∀(am:Bool)(an:Int)(ao:ByteArray)(ap:ByteArray)(aq:Int)(ar:Option Addr)(au:Nat)(av:Nat)(aw:World),P am an ao ap aq ar au av aw->∀e,zag [a] [] aw e->h (.tuple #[(.agg #[(.int .i64 an),(.string ao),(.string ap),(.int .i64 aq),(.slice ar au av)]),(.bool am)]) e)))/\((D=false)->∀k,zag [] [a] K k->FnP Tryz.prog zaf #[(.pointer b),(.int .u8 61)] k fun L n=>zbK [a] k n/\∃l,L=(.bool l)/\((l=false)->∀c,zag [a] [] n c->h (.tuple #[(.agg #[(.int .i64 0),(.string (⟨#[]⟩:ByteArray)),(.string (⟨#[]⟩:ByteArray)),(.int .i64 0),(.slice none 0 0)]),(.bool false)]) c)/\((l=true)->∀c,zag [] [a] n c->FnP Tryz.prog zbv #[(.pointer b)] c fun M g=>zbK [a] c g/\∃r,M=(.string r)/\∀p,zag [a] [] g p->h (.tuple #[(.agg #[(.int .i64 2),(.string v),(.string r),(.int .i64 0),(.slice none 0 0)]),(.bool true)]) p))))))
theorem zg3(a:Option Addr)(b:World)(c:Value->World->Prop)(h:znp a b c):FnP Tryz.prog za5 #[(.pointer a)] b c:=
 zab (Eq.mp (by kernel_rfl:_=Runs Tryz.prog c ({N:=74,muts:=[258,259,231,260]}:Cfg) Tryz.f231 (Tryz.f231.body.getD .skip) [.sc (.ptr a)] b) h) Tryz.func231 (by kernel_rfl) (fun a w=>Tryz.call231 a w) (by kernel_rfl) (by kernel_rfl) rfl rfl
def znq(y:Option Addr)(aJ:World)(ak:Value->World->Prop):Prop:=
 ∀b:Nat,aJ.heap.size<=b->∀al,zag [] [b] aJ al->FnP Tryz.prog za5 #[(.pointer y)] al fun aK aj=>zbK [b] al aj/\∃n o p q r s t am,aK=(.tuple #[(.agg #[(.int .i64 n),(.string o),(.string p),(.int .i64 q),(.slice r s t)]),(.bool am)])/\∀c:Nat,aj.heap.size<=c->((am=false)->∀ac,zag [b] [] aj ac->ak (.tuple #[(.agg #[(.int .i64 0),(.string (⟨#[]⟩:ByteArray)),(.string (⟨#[]⟩:ByteArray)),(.int .i64 0),(.slice none 0 0)]),(.bool false)]) ac)/\((am=true)->∀ac,zag [] [b,c] aj ac->FnP Tryz.prog zaf #[(.pointer y),(.int .u8 124)] ac fun aL ap=>zbK [b,c] ac ap/\∃an,aL=(.bool an)/\(((an=true)->∀Z,zag [] [b,c] ap Z->FnP Tryz.prog za5 #[(.pointer y)] Z fun aq z=>zbK [b,c] Z z/\∃J K L M N O P A,aq=(.tuple #[(.agg #[(.int .i64 J),(.string K),(.string L),(.int .i64 M),(.slice N O P)]),(.bool A)])/\∀l:Nat,z.heap.size<=l->∃(C:Bool->Int->ByteArray->ByteArray->Int->Option Addr->Nat->Nat->World->Prop),((((∀f,zag [] [b,c,l] z f->Run Tryz.prog (.buildSlice 45 2 [(0,(.agg #[(.int .i64 n),(.string o),(.string p),(.int .i64 q),(.slice r s t)])),(1,(.agg #[(.int .i64 J),(.string K),(.string L),(.int .i64 M),(.slice N O P)]))]) f fun v j=>Ext f j/\∃g w x,v=(.slice g w x)/\(((A=true)->∀aa,zag [] [b,c,l] j aa->FnP Tryz.prog zaf #[(.pointer y),(.int .u8 41)] aa fun ar u=>zbK [b,c,l] aa u/\∃ae,ar=(.bool ae)/\C ae 6 (⟨#[]⟩:ByteArray) (⟨#[]⟩:ByteArray) 0 g w x u))/\((A=false)->C false 6 (⟨#[]⟩:ByteArray) (⟨#[]⟩:ByteArray) 0 g w x j))/\(((A=true)->∀f,zag [] [b,c,l] z f->FnP Tryz.prog zaf #[(.pointer y),(.int .u8 41)] f fun v j=>zbK [b,c,l] f j/\∃g,v=(.bool g)/\∀a,zag [] [b,c,l] j a->Run Tryz.prog (.buildSlice 45 2 [(0,(.agg #[(.int .i64 n),(.string o),(.string p),(.int .i64 q),(.slice r s t)])),(1,(.agg #[(.int .i64 J),(.string K),(.string L),(.int .i64 M),(.slice N O P)]))]) a fun k e=>Ext a e/\∃d h i,k=(.slice d h i)/\C g 6 (⟨#[]⟩:ByteArray) (⟨#[]⟩:ByteArray) 0 d h i e))/\((A=false)->∀f,zag [] [b,c,l] z f->Run Tryz.prog (.buildSlice 45 2 [(0,(.agg #[(.int .i64 n),(.string o),(.string p),(.int .i64 q),(.slice r s t)])),(1,(.agg #[(.int .i64 J),(.string K),(.string L),(.int .i64 M),(.slice N O P)]))]) f fun v j=>Ext f j/\∃g w x,v=(.slice g w x)/\C false 6 (⟨#[]⟩:ByteArray) (⟨#[]⟩:ByteArray) 0 g w x j))/\(((A=true)->∀f,zag [] [b,c,l] z f->FnP Tryz.prog zaf #[(.pointer y),(.int .u8 41)] f fun v j=>zbK [b,c,l] f j/\∃g,v=(.bool g)/\∀a,zag [] [b,c,l] j a->Run Tryz.prog (.buildSlice 45 2 [(0,(.agg #[(.int .i64 n),(.string o),(.string p),(.int .i64 q),(.slice r s t)])),(1,(.agg #[(.int .i64 J),(.string K),(.string L),(.int .i64 M),(.slice N O P)]))]) a fun k e=>Ext a e/\∃d h i,k=(.slice d h i)/\C g 6 (⟨#[]⟩:ByteArray) (⟨#[]⟩:ByteArray) 0 d h i e))/\((A=false)->∀f,zag [] [b,c,l] z f->Run Tryz.prog (.buildSlice 45 2 [(0,(.agg #[(.int .i64 n),(.string o),(.string p),(.int .i64 q),(.slice r s t)])),(1,(.agg #[(.int .i64 J),(.string K),(.string L),(.int .i64 M),(.slice N O P)]))]) f fun v j=>Ext f j/\∃g w x,v=(.slice g w x)/\C false 6 (⟨#[]⟩:ByteArray) (⟨#[]⟩:ByteArray) 0 g w x j))/\(((∀f,zag [] [b,c,l] z f->Run Tryz.prog (.buildSlice 45 2 [(0,(.agg #[(.int .i64 n),(.string o),(.string p),(.int .i64 q),(.slice r s t)])),(1,(.agg #[(.int .i64 J),(.string K),(.string L),(.int .i64 M),(.slice N O P)]))]) f fun v j=>Ext f j/\∃g w x,v=(.slice g w x)/\(((A=true)->∀aa,zag [] [b,c,l] j aa->FnP Tryz.prog zaf #[(.pointer y),(.int .u8 41)] aa fun ar u=>zbK [b,c,l] aa u/\∃ae,ar=(.bool ae)/\C ae 6 (⟨#[]⟩:ByteArray) (⟨#[]⟩:ByteArray) 0 g w x u))/\((A=false)->C false 6 (⟨#[]⟩:ByteArray) (⟨#[]⟩:ByteArray) 0 g w x j))/\(((A=true)->∀f,zag [] [b,c,l] z f->FnP Tryz.prog zaf #[(.pointer y),(.int .u8 41)] f fun v j=>zbK [b,c,l] f j/\∃g,v=(.bool g)/\∀a,zag [] [b,c,l] j a->Run Tryz.prog (.buildSlice 45 2 [(0,(.agg #[(.int .i64 n),(.string o),(.string p),(.int .i64 q),(.slice r s t)])),(1,(.agg #[(.int .i64 J),(.string K),(.string L),(.int .i64 M),(.slice N O P)]))]) a fun k e=>Ext a e/\∃d h i,k=(.slice d h i)/\C g 6 (⟨#[]⟩:ByteArray) (⟨#[]⟩:ByteArray) 0 d h i e))/\((A=false)->∀f,zag [] [b,c,l] z f->Run Tryz.prog (.buildSlice 45 2 [(0,(.agg #[(.int .i64 n),(.string o),(.string p),(.int .i64 q),(.slice r s t)])),(1,(.agg #[(.int .i64 J),(.string K),(.string L),(.int .i64 M),(.slice N O P)]))]) f fun v j=>Ext f j/\∃g w x,v=(.slice g w x)/\C false 6 (⟨#[]⟩:ByteArray) (⟨#[]⟩:ByteArray) 0 g w x j))/\(((A=true)->∀f,zag [] [b,c,l] z f->FnP Tryz.prog zaf #[(.pointer y),(.int .u8 41)] f fun v j=>zbK [b,c,l] f j/\∃g,v=(.bool g)/\∀a,zag [] [b,c,l] j a->Run Tryz.prog (.buildSlice 45 2 [(0,(.agg #[(.int .i64 n),(.string o),(.string p),(.int .i64 q),(.slice r s t)])),(1,(.agg #[(.int .i64 J),(.string K),(.string L),(.int .i64 M),(.slice N O P)]))]) a fun k e=>Ext a e/\∃d h i,k=(.slice d h i)/\C g 6 (⟨#[]⟩:ByteArray) (⟨#[]⟩:ByteArray) 0 d h i e))/\((A=false)->∀f,zag [] [b,c,l] z f->Run Tryz.prog (.buildSlice 45 2 [(0,(.agg #[(.int .i64 n),(.string o),(.string p),(.int .i64 q),(.slice r s t)])),(1,(.agg #[(.int .i64 J),(.string K),(.string L),(.int .i64 M),(.slice N O P)]))]) f fun v j=>Ext f j/\∃g w x,v=(.slice g w x)/\C false 6 (⟨#[]⟩:ByteArray) (⟨#[]⟩:ByteArray) 0 g w x j))/\(((A=true)->∀f,zag [] [b,c,l] z f->FnP Tryz.prog zaf #[(.pointer y),(.int .u8 41)] f fun v j=>zbK [b,c,l] f j/\∃g,v=(.bool g)/\∀a,zag [] [b,c,l] j a->Run Tryz.prog (.buildSlice 45 2 [(0,(.agg #[(.int .i64 n),(.string o),(.string p),(.int .i64 q),(.slice r s t)])),(1,(.agg #[(.int .i64 J),(.string K),(.string L),(.int .i64 M),(.slice N O P)]))]) a fun k e=>Ext a e/\∃d h i,k=(.slice d h i)/\C g 6 (⟨#[]⟩:ByteArray) (⟨#[]⟩:ByteArray) 0 d h i e))/\((A=false)->∀f,zag [] [b,c,l] z f->Run Tryz.prog (.buildSlice 45 2 [(0,(.agg #[(.int .i64 n),(.string o),(.string p),(.int .i64 q),(.slice r s t)])),(1,(.agg #[(.int .i64 J),(.string K),(.string L),(.int .i64 M),(.slice N O P)]))]) f fun v j=>Ext f j/\∃g w x,v=(.slice g w x)/\C false 6 (⟨#[]⟩:ByteArray) (⟨#[]⟩:ByteArray) 0 g w x j))/\∀(av:Bool)(aw:Int)(ax:ByteArray)(ay:ByteArray)(ah:Int)(ai:Option Addr)(az:Nat)(aA:Nat)(aB:World),C av aw ax ay ah ai az aA aB->∀f,zag [b] [] aB f->ak (.tuple #[(.agg #[(.int .i64 aw),(.string ax),(.string ay),(.int .i64 ah),(.slice ai az aA)]),(.bool av)]) f))/\((an=false)->∀Z,zag [] [b,c] ap Z->FnP Tryz.prog zaf #[(.pointer y),(.int .u8 38)] Z fun aq z=>zbK [b,c] Z z/\∃ao,aq=(.bool ao)/\((ao=false)->∀ad,zag [b] [] z ad->ak (.tuple #[(.agg #[(.int .i64 0),(.string (⟨#[]⟩:ByteArray)),(.string (⟨#[]⟩:ByteArray)),(.int .i64 0),(.slice none 0 0)]),(.bool false)]) ad)/\((ao=true)->∀ad,zag [] [b,c] z ad->FnP Tryz.prog za5 #[(.pointer y)] ad fun aM H=>zbK [b,c] ad H/\∃R S T U V W X B,aM=(.tuple #[(.agg #[(.int .i64 R),(.string S),(.string T),(.int .i64 U),(.slice V W X)]),(.bool B)])/\∀m:Nat,H.heap.size<=m->∃(D:Bool->Int->ByteArray->ByteArray->Int->Option Addr->Nat->Nat->World->Prop),((((∀a,zag [] [b,c,m] H a->Run Tryz.prog (.buildSlice 45 2 [(0,(.agg #[(.int .i64 n),(.string o),(.string p),(.int .i64 q),(.slice r s t)])),(1,(.agg #[(.int .i64 R),(.string S),(.string T),(.int .i64 U),(.slice V W X)]))]) a fun k e=>Ext a e/\∃d h i,k=(.slice d h i)/\(((B=true)->∀ab,zag [] [b,c,m] e ab->FnP Tryz.prog zaf #[(.pointer y),(.int .u8 41)] ab fun au ag=>zbK [b,c,m] ab ag/\∃af,au=(.bool af)/\D af 5 (⟨#[]⟩:ByteArray) (⟨#[]⟩:ByteArray) 0 d h i ag))/\((B=false)->D false 5 (⟨#[]⟩:ByteArray) (⟨#[]⟩:ByteArray) 0 d h i e))/\(((B=true)->∀a,zag [] [b,c,m] H a->FnP Tryz.prog zaf #[(.pointer y),(.int .u8 41)] a fun k e=>zbK [b,c,m] a e/\∃d,k=(.bool d)/\∀u,zag [] [b,c,m] e u->Run Tryz.prog (.buildSlice 45 2 [(0,(.agg #[(.int .i64 n),(.string o),(.string p),(.int .i64 q),(.slice r s t)])),(1,(.agg #[(.int .i64 R),(.string S),(.string T),(.int .i64 U),(.slice V W X)]))]) u fun Y I=>Ext u I/\∃E F G,Y=(.slice E F G)/\D d 5 (⟨#[]⟩:ByteArray) (⟨#[]⟩:ByteArray) 0 E F G I))/\((B=false)->∀a,zag [] [b,c,m] H a->Run Tryz.prog (.buildSlice 45 2 [(0,(.agg #[(.int .i64 n),(.string o),(.string p),(.int .i64 q),(.slice r s t)])),(1,(.agg #[(.int .i64 R),(.string S),(.string T),(.int .i64 U),(.slice V W X)]))]) a fun k e=>Ext a e/\∃d h i,k=(.slice d h i)/\D false 5 (⟨#[]⟩:ByteArray) (⟨#[]⟩:ByteArray) 0 d h i e))/\(((B=true)->∀a,zag [] [b,c,m] H a->FnP Tryz.prog zaf #[(.pointer y),(.int .u8 41)] a fun k e=>zbK [b,c,m] a e/\∃d,k=(.bool d)/\∀u,zag [] [b,c,m] e u->Run Tryz.prog (.buildSlice 45 2 [(0,(.agg #[(.int .i64 n),(.string o),(.string p),(.int .i64 q),(.slice r s t)])),(1,(.agg #[(.int .i64 R),(.string S),(.string T),(.int .i64 U),(.slice V W X)]))]) u fun Y I=>Ext u I/\∃E F G,Y=(.slice E F G)/\D d 5 (⟨#[]⟩:ByteArray) (⟨#[]⟩:ByteArray) 0 E F G I))/\((B=false)->∀a,zag [] [b,c,m] H a->Run Tryz.prog (.buildSlice 45 2 [(0,(.agg #[(.int .i64 n),(.string o),(.string p),(.int .i64 q),(.slice r s t)])),(1,(.agg #[(.int .i64 R),(.string S),(.string T),(.int .i64 U),(.slice V W X)]))]) a fun k e=>Ext a e/\∃d h i,k=(.slice d h i)/\D false 5 (⟨#[]⟩:ByteArray) (⟨#[]⟩:ByteArray) 0 d h i e))/\(((∀a,zag [] [b,c,m] H a->Run Tryz.prog (.buildSlice 45 2 [(0,(.agg #[(.int .i64 n),(.string o),(.string p),(.int .i64 q),(.slice r s t)])),(1,(.agg #[(.int .i64 R),(.string S),(.string T),(.int .i64 U),(.slice V W X)]))]) a fun k e=>Ext a e/\∃d h i,k=(.slice d h i)/\(((B=true)->∀ab,zag [] [b,c,m] e ab->FnP Tryz.prog zaf #[(.pointer y),(.int .u8 41)] ab fun au ag=>zbK [b,c,m] ab ag/\∃af,au=(.bool af)/\D af 5 (⟨#[]⟩:ByteArray) (⟨#[]⟩:ByteArray) 0 d h i ag))/\((B=false)->D false 5 (⟨#[]⟩:ByteArray) (⟨#[]⟩:ByteArray) 0 d h i e))/\(((B=true)->∀a,zag [] [b,c,m] H a->FnP Tryz.prog zaf #[(.pointer y),(.int .u8 41)] a fun k e=>zbK [b,c,m] a e/\∃d,k=(.bool d)/\∀u,zag [] [b,c,m] e u->Run Tryz.prog (.buildSlice 45 2 [(0,(.agg #[(.int .i64 n),(.string o),(.string p),(.int .i64 q),(.slice r s t)])),(1,(.agg #[(.int .i64 R),(.string S),(.string T),(.int .i64 U),(.slice V W X)]))]) u fun Y I=>Ext u I/\∃E F G,Y=(.slice E F G)/\D d 5 (⟨#[]⟩:ByteArray) (⟨#[]⟩:ByteArray) 0 E F G I))/\((B=false)->∀a,zag [] [b,c,m] H a->Run Tryz.prog (.buildSlice 45 2 [(0,(.agg #[(.int .i64 n),(.string o),(.string p),(.int .i64 q),(.slice r s t)])),(1,(.agg #[(.int .i64 R),(.string S),(.string T),(.int .i64 U),(.slice V W X)]))]) a fun k e=>Ext a e/\∃d h i,k=(.slice d h i)/\D false 5 (⟨#[]⟩:ByteArray) (⟨#[]⟩:ByteArray) 0 d h i e))/\(((B=true)->∀a,zag [] [b,c,m] H a->FnP Tryz.prog zaf #[(.pointer y),(.int .u8 41)] a fun k e=>zbK [b,c,m] a e/\∃d,k=(.bool d)/\∀u,zag [] [b,c,m] e u->Run Tryz.prog (.buildSlice 45 2 [(0,(.agg #[(.int .i64 n),(.string o),(.string p),(.int .i64 q),(.slice r s t)])),(1,(.agg #[(.int .i64 R),(.string S),(.string T),(.int .i64 U),(.slice V W X)]))]) u fun Y I=>Ext u I/\∃E F G,Y=(.slice E F G)/\D d 5 (⟨#[]⟩:ByteArray) (⟨#[]⟩:ByteArray) 0 E F G I))/\((B=false)->∀a,zag [] [b,c,m] H a->Run Tryz.prog (.buildSlice 45 2 [(0,(.agg #[(.int .i64 n),(.string o),(.string p),(.int .i64 q),(.slice r s t)])),(1,(.agg #[(.int .i64 R),(.string S),(.string T),(.int .i64 U),(.slice V W X)]))]) a fun k e=>Ext a e/\∃d h i,k=(.slice d h i)/\D false 5 (⟨#[]⟩:ByteArray) (⟨#[]⟩:ByteArray) 0 d h i e))/\(((B=true)->∀a,zag [] [b,c,m] H a->FnP Tryz.prog zaf #[(.pointer y),(.int .u8 41)] a fun k e=>zbK [b,c,m] a e/\∃d,k=(.bool d)/\∀u,zag [] [b,c,m] e u->Run Tryz.prog (.buildSlice 45 2 [(0,(.agg #[(.int .i64 n),(.string o),(.string p),(.int .i64 q),(.slice r s t)])),(1,(.agg #[(.int .i64 R),(.string S),(.string T),(.int .i64 U),(.slice V W X)]))]) u fun Y I=>Ext u I/\∃E F G,Y=(.slice E F G)/\D d 5 (⟨#[]⟩:ByteArray) (⟨#[]⟩:ByteArray) 0 E F G I))/\((B=false)->∀a,zag [] [b,c,m] H a->Run Tryz.prog (.buildSlice 45 2 [(0,(.agg #[(.int .i64 n),(.string o),(.string p),(.int .i64 q),(.slice r s t)])),(1,(.agg #[(.int .i64 R),(.string S),(.string T),(.int .i64 U),(.slice V W X)]))]) a fun k e=>Ext a e/\∃d h i,k=(.slice d h i)/\D false 5 (⟨#[]⟩:ByteArray) (⟨#[]⟩:ByteArray) 0 d h i e))/\∀(aC:Bool)(ah:Int)(ai:ByteArray)(aD:ByteArray)(aE:Int)(aF:Option Addr)(aG:Nat)(aH:Nat)(aI:World),D aC ah ai aD aE aF aG aH aI->∀a,zag [b] [] aI a->ak (.tuple #[(.agg #[(.int .i64 ah),(.string ai),(.string aD),(.int .i64 aE),(.slice aF aG aH)]),(.bool aC)]) a)))
theorem zmU(a:Option Addr)(b:World)(c:Value->World->Prop)(h:znq a b c):FnP Tryz.prog zeQ #[(.pointer a)] b c:=
 zab (Eq.mp (by kernel_rfl:_=Runs Tryz.prog c ({N:=36,muts:=[258,259,231,260]}:Cfg) Tryz.f260 (Tryz.f260.body.getD .skip) [.sc (.ptr a)] b) h) Tryz.func260 (by kernel_rfl) (fun a w=>Tryz.call260 a w) (by kernel_rfl) (by kernel_rfl) rfl rfl
def zyf(f:ByteArray)(s:World)(g:Value->World->Prop):Prop:=
 ∀a:Nat,s.heap.size<=a->((2000<(f.size:Int))->∀d,Ext s d->g (.tuple #[(.agg #[(.int .i64 0),(.string (⟨#[]⟩:ByteArray)),(.string (⟨#[]⟩:ByteArray)),(.int .i64 0),(.slice none 0 0)]),(.int .i64 2)]) d)/\(((f.size:Int)<=2000)->∀d,zag [] [a] s d->New d 348 [(.string f),(.int .i64 60)] fun u v=>∀h,zag [] [a] v h->FnP Tryz.prog za5 #[(.pointer u)] h fun w c=>zbK [a] h c/\∃i j k l m n o p,w=(.tuple #[(.agg #[(.int .i64 i),(.string j),(.string k),(.int .i64 l),(.slice m n o)]),(.bool p)])/\∀t:Nat,c.heap.size<=t->((p=false)->∀b,zag [a] [] c b->g (.tuple #[(.agg #[(.int .i64 0),(.string (⟨#[]⟩:ByteArray)),(.string (⟨#[]⟩:ByteArray)),(.int .i64 0),(.slice none 0 0)]),(.int .i64 3)]) b)/\((p=true)->∀b,Ext c b->FnP Tryz.prog zjv #[(.agg #[(.int .i64 i),(.string j),(.string k),(.int .i64 l),(.slice m n o)])] b fun x y=>Ext b y/\∃q r,x=(.tuple #[(.string q),(.int .i64 r)])/\(((r≠0)\/(q≠f))->∀e,zag [a] [] c e->g (.tuple #[(.agg #[(.int .i64 0),(.string (⟨#[]⟩:ByteArray)),(.string (⟨#[]⟩:ByteArray)),(.int .i64 0),(.slice none 0 0)]),(.int .i64 3)]) e)/\(((r=0)/\(q=f))->∀e,zag [a] [] c e->g (.tuple #[(.agg #[(.int .i64 i),(.string j),(.string k),(.int .i64 l),(.slice m n o)]),(.int .i64 0)]) e)))
theorem zxy(a:ByteArray)(b:World)(c:Value->World->Prop)(h:zyf a b c):FnP Tryz.prog zju #[(.string a)] b c:=
 zab (Eq.mp (by kernel_rfl:_=Runs Tryz.prog c ({N:=38,pub:=[15],muts:=[231]}:Cfg) Tryz.f177 (Tryz.f177.body.getD .skip) [.sc (.str a)] b) h) Tryz.func177 (by kernel_rfl) (fun a w=>Tryz.call177 a w) (by kernel_rfl) (by kernel_rfl) rfl rfl
abbrev zbu:FuncId:=105
abbrev zgR:FuncId:=130
abbrev zkn:FuncId:=174
abbrev zdh:FuncId:=175
def zwh(B:ByteArray)(n C D E F:Int)(G H:ByteArray)(I:Int)(J:Option Addr)(K L:Nat)(t:Option Addr)(j M:Nat)(b:World)(f:Value->World->Prop):Prop:=
 ∀u:Nat,b.heap.size<=u->∀o,Ext b o->FnP Tryz.prog zbn #[(.string B)] o fun v w=>Ext o w/\∃p,v=(.bool p)/\((p=false)->∀c,Ext b c->f (.int .i64 3) c)/\((p=true)->(((n<(-1000))\/(1000<n))->∀c,Ext b c->f (.int .i64 4) c)/\((((-1000)<=n)/\(n<=1000))->∀c,Ext b c->FnP Tryz.prog zbh #[(.agg #[(.int .i64 C),(.int .i64 D),(.int .i64 E)])] c fun x y=>Ext c y/\∃k,x=(.int .i64 k)/\((k≠0)->∀g,Ext b g->f (.int .i64 k) g)/\((k=0)->∀g,Ext b g->FnP Tryz.prog zec #[(.agg #[(.int .i64 F),(.string G),(.string H),(.int .i64 I),(.slice J K L)])] g fun z A=>Ext g A/\∃l,z=(.int .i64 l)/\((l≠0)->∀h,Ext b h->f (.int .i64 l) h)/\((l=0)->((8<(j:Int))->∀h,Ext b h->f (.int .i64 2) h)/\(((j:Int)<=8)->∃(q:Int->Int->World->Prop) (s:Int->Int->World->Nat),q 0 0 b/\∀(m:Int)(a:Int)(e:World),q m a e->(((a<(j:Int))->t≠none/\(0:Int)<=a/\(a:Int)<(j:Int)/\∃d,cell e (pIdx t a 1) 0=some (.int .i64 d)/\(((d<1)\/(60<d))->∀i,Ext e i->f (.int .i64 4) i)/\(((1<=d)/\(d<=60))->((d<=m)->∀i,Ext e i->f (.int .i64 6) i)/\((m<d)->InR .i64 (a+1)/\(q d (a+1) e/\s d (a+1) e<s m a e)))))/\(((j:Int)<=a)->∀r,Ext e r->f (.int .i64 0) r))))))
theorem znR(a:ByteArray)(b c d e f:Int)(g i:ByteArray)(j:Int)(k:Option Addr)(l m:Nat)(n:Option Addr)(o p:Nat)(q:World)(r:Value->World->Prop)(h:zwh a b c d e f g i j k l m n o p q r):FnP Tryz.prog zdo #[(.agg #[(.string a),(.int .i64 b),(.int .i64 c),(.int .i64 d),(.int .i64 e),(.int .i64 f),(.string g),(.string i),(.int .i64 j),(.slice k l m),(.slice n o p)])] q r:=
 zab (Eq.mp (by kernel_rfl:_=Runs Tryz.prog r ({N:=58}:Cfg) Tryz.f66 (Tryz.f66.body.getD .skip) [.agg [.str a,.int .i64 b,.int .i64 c,.int .i64 d,.int .i64 e,.int .i64 f,.str g,.str i,.int .i64 j,.slc k l m,.slc n o p]] q) h) Tryz.func66 (by kernel_rfl) (fun a w=>Tryz.call66 a w) (by kernel_rfl) (by kernel_rfl) rfl rfl
def zwi(z:Option Addr)(d H:Nat)(A:World)(B:Value->World->Prop):Prop:=
 (((d:Int)=0)->∀n,Ext A n->B (.string (⟨#[45]⟩:ByteArray)) n)/\(((d:Int)≠0)->∃(m:Option Addr->Nat->Nat->Int->World->Prop) (y:Option Addr->Nat->Nat->Int->World->Nat),m none 0 0 0 A/\∀(e:Option Addr)(f:Nat)(g:Nat)(a:Int)(b:World),m e f g a b->(((a<(d:Int))->z≠none/\(0:Int)<=a/\(a:Int)<(d:Int)/\∃o,cell b (pIdx z a 1) 0=some (.int .i64 o)/\∀c,Ext b c->FnP Tryz.prog zbu #[(.int .i64 o)] c fun C D=>Ext c D/\∃p,C=(.string p)/\∀h,Ext b h->Run Tryz.prog (.buildSlice 22 1 [(0,(.string p))]) h fun E w=>Ext h w/\∃q r s,E=(.slice q r s)/\∀t,Ext w t->Run Tryz.prog (.append #[22,22] 22 [(.slice e f g),(.slice q r s)]) t fun F x=>∃i j k,F=(.slice i j k)/\InR .i64 (a+1)/\(m i j k (a+1) x/\y i j k (a+1) x<y e f g a b)))/\(((d:Int)<=a)->∀l,Ext b l->FnP Tryz.prog zbd #[(.slice e f g),(.string (⟨#[44]⟩:ByteArray))] l fun G c=>Ext l c/\∃u,G=(.string u)/\∀v,Ext b v->B (.string u) v))
theorem zvq(a:Option Addr)(b c:Nat)(d:World)(e:Value->World->Prop)(h:zwi a b c d e):FnP Tryz.prog zkn #[(.slice a b c)] d e:=
 zab (Eq.mp (by kernel_rfl:_=Runs Tryz.prog e ({N:=23}:Cfg) Tryz.f174 (Tryz.f174.body.getD .skip) [.sc (.slc a b c)] d) h) Tryz.func174 (by kernel_rfl) (fun a w=>Tryz.call174 a w) (by kernel_rfl) (by kernel_rfl) rfl rfl
def zyq(u:ByteArray)(v w x y z:Int)(A B:ByteArray)(C:Int)(D:Option Addr)(E F:Nat)(G:Option Addr)(H I:Nat)(a:World)(J:Value->World->Prop):Prop:=
 ∀k:Nat,a.heap.size<=k->∀d,Ext a d->FnP Tryz.prog zdo #[(.agg #[(.string u),(.int .i64 v),(.int .i64 w),(.int .i64 x),(.int .i64 y),(.int .i64 z),(.string A),(.string B),(.int .i64 C),(.slice D E F),(.slice G H I)])] d fun M N=>Ext d N/\∃c,M=(.int .i64 c)/\((c≠0)->∀b,Ext a b->J (.tuple #[(.string (⟨#[]⟩:ByteArray)),(.int .i64 c)]) b)/\((c=0)->∀b,Ext a b->FnP Tryz.prog zhs #[(.agg #[(.int .i64 w),(.int .i64 x),(.int .i64 y)])] b fun O P=>Ext b P/\∃l K,O=(.tuple #[(.string l),(.int .i64 K)])/\∀e,Ext a e->FnP Tryz.prog zjv #[(.agg #[(.int .i64 z),(.string A),(.string B),(.int .i64 C),(.slice D E F)])] e fun R S=>Ext e S/\∃m L,R=(.tuple #[(.string m),(.int .i64 L)])/\∀f,Ext a f->FnP Tryz.prog zbu #[(.int .i64 v)] f fun T U=>Ext f U/\∃n,T=(.string n)/\∀g,Ext a g->FnP Tryz.prog zkn #[(.slice G H I)] g fun V W=>Ext g W/\∃o,V=(.string o)/\∀h,zag [] [k] a h->Run Tryz.prog (.buildSlice 22 5 [(0,(.string u)),(1,(.string n)),(2,(.string l)),(3,(.string o)),(4,(.string m))]) h fun X j=>Ext h j/\∃p q r,X=(.slice p q r)/\∀i,Ext j i->FnP Tryz.prog zbd #[(.slice p q r),(.string (⟨#[32]⟩:ByteArray))] i fun Y Z=>Ext i Z/\∃s,Y=(.string s)/\∀t,Ext j t->J (.tuple #[(.string s),(.int .i64 0)]) t)
theorem zxK(a:ByteArray)(b c d e f:Int)(g i:ByteArray)(j:Int)(k:Option Addr)(l m:Nat)(n:Option Addr)(o p:Nat)(q:World)(r:Value->World->Prop)(h:zyq a b c d e f g i j k l m n o p q r):FnP Tryz.prog zee #[(.agg #[(.string a),(.int .i64 b),(.int .i64 c),(.int .i64 d),(.int .i64 e),(.int .i64 f),(.string g),(.string i),(.int .i64 j),(.slice k l m),(.slice n o p)])] q r:=
 zab (Eq.mp (by kernel_rfl:_=Runs Tryz.prog r ({N:=38}:Cfg) Tryz.f128 (Tryz.f128.body.getD .skip) [.agg [.str a,.int .i64 b,.int .i64 c,.int .i64 d,.int .i64 e,.int .i64 f,.str g,.str i,.int .i64 j,.slc k l m,.slc n o p]] q) h) Tryz.func128 (by kernel_rfl) (fun a w=>Tryz.call128 a w) (by kernel_rfl) (by kernel_rfl) rfl rfl
def zyp(j:ByteArray)(ar:World)(h:Value->World->Prop):Prop:=
 ∀c:Nat,ar.heap.size<=c->((3000<(j.size:Int))->∀k,Ext ar k->h (.tuple #[(.agg #[(.string (⟨#[]⟩:ByteArray)),(.int .i64 0),(.int .i64 0),(.int .i64 0),(.int .i64 0),(.int .i64 0),(.string (⟨#[]⟩:ByteArray)),(.string (⟨#[]⟩:ByteArray)),(.int .i64 0),(.slice none 0 0),(.slice none 0 0)]),(.int .i64 2)]) k)/\(((j.size:Int)<=3000)->∀k,zag [] [c] ar k->FnP Tryz.prog zbj #[(.string j),(.string (⟨#[32]⟩:ByteArray))] k fun aL n=>Ext k n/\∃b e aJ,aL=(.slice b e aJ)/\(((e:Int)≠5)->∀au,zag [c] [] n au->h (.tuple #[(.agg #[(.string (⟨#[]⟩:ByteArray)),(.int .i64 0),(.int .i64 0),(.int .i64 0),(.int .i64 0),(.int .i64 0),(.string (⟨#[]⟩:ByteArray)),(.string (⟨#[]⟩:ByteArray)),(.int .i64 0),(.slice none 0 0),(.slice none 0 0)]),(.int .i64 3)]) au)/\(((e:Int)=5)->b≠none/\(0:Int)<=0/\(0:Int)<(e:Int)/\∃I,cell n (pIdx b 0 1) 0=some (.string I)/\∀a:Nat,n.heap.size<=a->b≠none/\(0:Int)<=1/\(1:Int)<(e:Int)/\∃av,cell n (pIdx b 1 1) 0=some (.string av)/\∀X,zag [] [c,a] n X->FnP Tryz.prog zdh #[(.string av)] X fun aM E=>Ext X E/\∃J aw,aM=(.tuple #[(.int .i64 J),aw])/\b≠none/\(0:Int)<=2/\(2:Int)<(e:Int)/\∃ax,((cell E (pIdx b 2 1) 0=some (.string ax)/\zwq [a] (pIdx b 2 1)))/\∀Y,zag [a] [] E Y->FnP Tryz.prog zfq #[(.string ax)] Y fun aN aO=>Ext Y aO/\∃K L M Z,aN=(.tuple #[(.agg #[(.int .i64 K),(.int .i64 L),(.int .i64 M)]),(.int .i64 Z)])/\b≠none/\(0:Int)<=4/\(4:Int)<(e:Int)/\∃ay,((cell E (pIdx b 4 1) 0=some (.string ay)/\zwq [a] (pIdx b 4 1)))/\∀aa,zag [a] [c,a] E aa->FnP Tryz.prog zju #[(.string ay)] aa fun aP f=>Ext aa f/\∃N O P R S T U ab,aP=(.tuple #[(.agg #[(.int .i64 N),(.string O),(.string P),(.int .i64 R),(.slice S T U)]),(.int .i64 ab)])/\∀ac,zag [a] [] f ac->Run Tryz.prog (.eq .neq 175 false true aw .nilIface) ac fun aQ aR=>Ext ac aR/\∃ad,aQ=(.bool ad)/\((((ad=true)\/(Z≠0))\/(ab≠0))->∀az,zag [c,a] [] f az->h (.tuple #[(.agg #[(.string (⟨#[]⟩:ByteArray)),(.int .i64 0),(.int .i64 0),(.int .i64 0),(.int .i64 0),(.int .i64 0),(.string (⟨#[]⟩:ByteArray)),(.string (⟨#[]⟩:ByteArray)),(.int .i64 0),(.slice none 0 0),(.slice none 0 0)]),(.int .i64 3)]) az)/\((((ad=false)/\(Z=0))/\(ab=0))->b≠none/\(0:Int)<=3/\(3:Int)<(e:Int)/\∃ae,((cell f (pIdx b 3 1) 0=some (.string ae)/\zwq [a] (pIdx b 3 1)))/\(((ae≠(⟨#[45]⟩:ByteArray))->b≠none/\(0:Int)<=3/\(3:Int)<(e:Int)/\∃aA,((cell f (pIdx b 3 1) 0=some (.string aA)/\zwq [a] (pIdx b 3 1)))/\∀A,zag [a] [c,a] f A->FnP Tryz.prog zbj #[(.string aA),(.string (⟨#[44]⟩:ByteArray))] A fun aS aG=>Ext A aG/\∃g V aK,aS=(.slice g V aK)/\∃(aq:Int->ByteArray->Int->Int->Int->Int->Int->ByteArray->ByteArray->Int->Option Addr->Nat->Nat->Option Addr->Nat->Nat->World->Prop) (aI:Int->ByteArray->Int->Int->Int->Int->Int->ByteArray->ByteArray->Int->Option Addr->Nat->Nat->Option Addr->Nat->Nat->World->Nat),aq 0 I J K L M N O P R S T U none 0 0 aG/\∀(d:Int)(o:ByteArray)(p:Int)(q:Int)(r:Int)(s:Int)(t:Int)(u:ByteArray)(v:ByteArray)(w:Int)(x:Option Addr)(y:Nat)(z:Nat)(F:Option Addr)(G:Nat)(H:Nat)(i:World),aq d o p q r s t u v w x y z F G H i->(((d<(V:Int))->g≠none/\(0:Int)<=d/\(d:Int)<(V:Int)/\∃aB,((cell i (pIdx g d 1) 0=some (.string aB)/\zwq [a] (pIdx g d 1)))/\∀B,zag [a] [c,a] i B->FnP Tryz.prog zdh #[(.string aB)] B fun aT W=>Ext B W/\∃l aC,aT=(.tuple #[(.int .i64 l),aC])/\∀af,Ext W af->Run Tryz.prog (.eq .neq 175 false true aC .nilIface) af fun aU aV=>Ext af aV/\∃ag,aU=(.bool ag)/\((ag=true)->∀m,zag [c] [] W m->h (.tuple #[(.agg #[(.string (⟨#[]⟩:ByteArray)),(.int .i64 0),(.int .i64 0),(.int .i64 0),(.int .i64 0),(.int .i64 0),(.string (⟨#[]⟩:ByteArray)),(.string (⟨#[]⟩:ByteArray)),(.int .i64 0),(.slice none 0 0),(.slice none 0 0)]),(.int .i64 3)]) m)/\((ag=false)->∀m,zag [] [c,a] W m->Run Tryz.prog (.buildSlice 48 1 [(0,(.int .i64 l))]) m fun aW aH=>Ext m aH/\∃aD aE aF,aW=(.slice aD aE aF)/\∀ah,zag [] [c,a] aH ah->Run Tryz.prog (.append #[48,48] 48 [(.slice F G H),(.slice aD aE aF)]) ah fun aX ap=>zbK [c,a] ah ap/\∃ai aj ak,aX=(.slice ai aj ak)/\InR .i64 (d+1)/\(aq (d+1) o p q r s t u v w x y z ai aj ak ap/\aI (d+1) o p q r s t u v w x y z ai aj ak ap<aI d o p q r s t u v w x y z F G H i))))/\(((V:Int)<=d)->∀al,zag [a] [] i al->FnP Tryz.prog zee #[(.agg #[(.string o),(.int .i64 p),(.int .i64 q),(.int .i64 r),(.int .i64 s),(.int .i64 t),(.string u),(.string v),(.int .i64 w),(.slice x y z),(.slice F G H)])] al fun aY B=>Ext al B/\∃am l,aY=(.tuple #[(.string am),(.int .i64 l)])/\(((l≠0)\/(am≠j))->∀C,zag [c,a] [] i C->h (.tuple #[(.agg #[(.string (⟨#[]⟩:ByteArray)),(.int .i64 0),(.int .i64 0),(.int .i64 0),(.int .i64 0),(.int .i64 0),(.string (⟨#[]⟩:ByteArray)),(.string (⟨#[]⟩:ByteArray)),(.int .i64 0),(.slice none 0 0),(.slice none 0 0)]),(.int .i64 3)]) C)/\(((l=0)/\(am=j))->∀C,zag [c,a] [] i C->h (.tuple #[(.agg #[(.string o),(.int .i64 p),(.int .i64 q),(.int .i64 r),(.int .i64 s),(.int .i64 t),(.string u),(.string v),(.int .i64 w),(.slice x y z),(.slice F G H)]),(.int .i64 0)]) C))))/\((ae=(⟨#[45]⟩:ByteArray))->∀an,zag [a] [] f an->FnP Tryz.prog zee #[(.agg #[(.string I),(.int .i64 J),(.int .i64 K),(.int .i64 L),(.int .i64 M),(.int .i64 N),(.string O),(.string P),(.int .i64 R),(.slice S T U),(.slice none 0 0)])] an fun aZ A=>Ext an A/\∃ao g,aZ=(.tuple #[(.string ao),(.int .i64 g)])/\(((g≠0)\/(ao≠j))->∀D,zag [c,a] [] f D->h (.tuple #[(.agg #[(.string (⟨#[]⟩:ByteArray)),(.int .i64 0),(.int .i64 0),(.int .i64 0),(.int .i64 0),(.int .i64 0),(.string (⟨#[]⟩:ByteArray)),(.string (⟨#[]⟩:ByteArray)),(.int .i64 0),(.slice none 0 0),(.slice none 0 0)]),(.int .i64 3)]) D)/\(((g=0)/\(ao=j))->∀D,zag [c,a] [] f D->h (.tuple #[(.agg #[(.string I),(.int .i64 J),(.int .i64 K),(.int .i64 L),(.int .i64 M),(.int .i64 N),(.string O),(.string P),(.int .i64 R),(.slice S T U),(.slice none 0 0)]),(.int .i64 0)]) D)))))
theorem zpS(a:ByteArray)(b:World)(c:Value->World->Prop)(h:zyp a b c):FnP Tryz.prog zgR #[(.string a)] b c:=
 zab (Eq.mp (by kernel_rfl:_=Runs Tryz.prog c ({N:=106}:Cfg) Tryz.f130 (Tryz.f130.body.getD .skip) [.sc (.str a)] b) h) Tryz.func130 (by kernel_rfl) (fun a w=>Tryz.call130 a w) (by kernel_rfl) (by kernel_rfl) rfl rfl
abbrev zhq:FuncId:=39
abbrev zgn:FuncId:=87
def zqn(s:Option Addr)(f l:Nat)(y:World)(h:Value->World->Prop):Prop:=
 ∀c:Nat,y.heap.size<=c->((3001<(f:Int))->∀z,Ext y z->h (.tuple #[(.agg #[(.int .i64 0),(.string (⟨#[]⟩:ByteArray)),(.int .i64 0),(.int .i64 0),(.int .i64 0),(.int .i64 0),(.int .i64 0),(.string (⟨#[]⟩:ByteArray)),(.string (⟨#[]⟩:ByteArray)),(.int .i64 0),(.slice none 0 0),(.slice none 0 0),(.int .i64 0),(.int .i64 0),(.bool false)]),(.int .i64 2)]) z)/\(((f:Int)<=3001)->(((f:Int)=0)->∀z,Ext y z->h (.tuple #[(.agg #[(.int .i64 0),(.string (⟨#[]⟩:ByteArray)),(.int .i64 0),(.int .i64 0),(.int .i64 0),(.int .i64 0),(.int .i64 0),(.string (⟨#[]⟩:ByteArray)),(.string (⟨#[]⟩:ByteArray)),(.int .i64 0),(.slice none 0 0),(.slice none 0 0),(.int .i64 0),(.int .i64 0),(.bool false)]),(.int .i64 3)]) z)/\(((f:Int)≠0)->s≠none/\(0:Int)<=0/\(0:Int)<(f:Int)/\∃e,cell y (pIdx s 0 1) 0=some (.int .u8 e)/\InR .i64 e/\∀n:Nat,y.heap.size<=n->(0:Int)<=1/\(1:Int)<=(f:Int)/\((f:Int):Int)<=(l:Int)/\(0:Int)<=0/\(0:Int)<=(min 4 ((((f:Int)-1).toNat:Nat):Int))/\((min 4 ((((f:Int)-1).toNat:Nat):Int)):Int)<=(((l-(1:Int).toNat):Nat):Int)/\∃(Y:Int->Int->World->Prop) (ad:Int->Int->World->Nat),Y 0 0 y/\∀(m:Int)(r:Int)(q:World),Y m r q->(((r<((((min 4 ((((f:Int)-1).toNat:Nat):Int))-0).toNat:Nat):Int))->(pCut (pCut s l 1 1) (l-(1:Int).toNat) 0 1)≠none/\(0:Int)<=r/\(r:Int)<((((min 4 ((((f:Int)-1).toNat:Nat):Int))-0).toNat:Nat):Int)/\∃C,cell q (pIdx (pCut (pCut s l 1 1) (l-(1:Int).toNat) 0 1) r 1) 0=some (.int .u8 C)/\InR .i64 C/\InR .i64 (r+1)/\(Y (zaw .or .i64 (zaw .shl .i64 m 8) C) (r+1) q/\ad (zaw .or .i64 (zaw .shl .i64 m 8) C) (r+1) q<ad m r q)))/\((((((min 4 ((((f:Int)-1).toNat:Nat):Int))-0).toNat:Nat):Int)<=r)->(((e=1)->∀g,Ext q g->Run Tryz.prog (.convert 93 9 (.slice (pCut s l 1 1) ((f:Int)-1).toNat (l-(1:Int).toNat))) g fun t b=>Ext g b/\∃k,t=(.string k)/\∀E,zag [] [c,n] q E->FnP Tryz.prog zgR #[(.string k)] E fun ae D=>Ext E D/\∃F G H I J K L M N O P R S T U V,ae=(.tuple #[(.agg #[(.string F),(.int .i64 G),(.int .i64 H),(.int .i64 I),(.int .i64 J),(.int .i64 K),(.string L),(.string M),(.int .i64 N),(.slice O P R),(.slice S T U)]),(.int .i64 V)])/\∀Z:Nat,D.heap.size<=Z->((V≠0)->∀w,zag [c] [] D w->h (.tuple #[(.agg #[(.int .i64 0),(.string (⟨#[]⟩:ByteArray)),(.int .i64 0),(.int .i64 0),(.int .i64 0),(.int .i64 0),(.int .i64 0),(.string (⟨#[]⟩:ByteArray)),(.string (⟨#[]⟩:ByteArray)),(.int .i64 0),(.slice none 0 0),(.slice none 0 0),(.int .i64 0),(.int .i64 0),(.bool false)]),(.int .i64 3)]) w)/\((V=0)->∀w,zag [n] [c,n,Z] D w->FnP Tryz.prog za1 #[(.agg #[(.int .i64 e),(.string F),(.int .i64 G),(.int .i64 H),(.int .i64 I),(.int .i64 J),(.int .i64 K),(.string L),(.string M),(.int .i64 N),(.slice O P R),(.slice S T U),(.int .i64 0),(.int .i64 0),(.bool false)])] w fun af B=>Ext w B/\∃aa ab ac W,af=(.tuple #[(.slice aa ab ac),(.int .i64 W)])/\((W≠0)->∀x,zag [c] [] B x->h (.tuple #[(.agg #[(.int .i64 0),(.string (⟨#[]⟩:ByteArray)),(.int .i64 0),(.int .i64 0),(.int .i64 0),(.int .i64 0),(.int .i64 0),(.string (⟨#[]⟩:ByteArray)),(.string (⟨#[]⟩:ByteArray)),(.int .i64 0),(.slice none 0 0),(.slice none 0 0),(.int .i64 0),(.int .i64 0),(.bool false)]),(.int .i64 3)]) x)/\((W=0)->∀x,Ext B x->FnP Tryz.prog zbb #[(.slice aa ab ac),(.slice s f l)] x fun ag ah=>Ext x ah/\∃X,ag=(.bool X)/\((X=false)->∀A,zag [c] [] B A->h (.tuple #[(.agg #[(.int .i64 0),(.string (⟨#[]⟩:ByteArray)),(.int .i64 0),(.int .i64 0),(.int .i64 0),(.int .i64 0),(.int .i64 0),(.string (⟨#[]⟩:ByteArray)),(.string (⟨#[]⟩:ByteArray)),(.int .i64 0),(.slice none 0 0),(.slice none 0 0),(.int .i64 0),(.int .i64 0),(.bool false)]),(.int .i64 3)]) A)/\((X=true)->∀A,zag [c] [] B A->h (.tuple #[(.agg #[(.int .i64 e),(.string F),(.int .i64 G),(.int .i64 H),(.int .i64 I),(.int .i64 J),(.int .i64 K),(.string L),(.string M),(.int .i64 N),(.slice O P R),(.slice S T U),(.int .i64 0),(.int .i64 0),(.bool false)]),(.int .i64 0)]) A)))))/\((e≠1)->(((e=2)->∀g,zag [n] [c,n] q g->FnP Tryz.prog za1 #[(.agg #[(.int .i64 e),(.string (⟨#[]⟩:ByteArray)),(.int .i64 0),(.int .i64 0),(.int .i64 0),(.int .i64 0),(.int .i64 0),(.string (⟨#[]⟩:ByteArray)),(.string (⟨#[]⟩:ByteArray)),(.int .i64 0),(.slice none 0 0),(.slice none 0 0),(.int .i64 m),(.int .i64 0),(.bool false)])] g fun t b=>Ext g b/\∃k o p i,t=(.tuple #[(.slice k o p),(.int .i64 i)])/\((i≠0)->∀a,zag [c] [] b a->h (.tuple #[(.agg #[(.int .i64 0),(.string (⟨#[]⟩:ByteArray)),(.int .i64 0),(.int .i64 0),(.int .i64 0),(.int .i64 0),(.int .i64 0),(.string (⟨#[]⟩:ByteArray)),(.string (⟨#[]⟩:ByteArray)),(.int .i64 0),(.slice none 0 0),(.slice none 0 0),(.int .i64 0),(.int .i64 0),(.bool false)]),(.int .i64 3)]) a)/\((i=0)->∀a,Ext b a->FnP Tryz.prog zbb #[(.slice k o p),(.slice s f l)] a fun u v=>Ext a v/\∃j,u=(.bool j)/\((j=false)->∀d,zag [c] [] b d->h (.tuple #[(.agg #[(.int .i64 0),(.string (⟨#[]⟩:ByteArray)),(.int .i64 0),(.int .i64 0),(.int .i64 0),(.int .i64 0),(.int .i64 0),(.string (⟨#[]⟩:ByteArray)),(.string (⟨#[]⟩:ByteArray)),(.int .i64 0),(.slice none 0 0),(.slice none 0 0),(.int .i64 0),(.int .i64 0),(.bool false)]),(.int .i64 3)]) d)/\((j=true)->∀d,zag [c] [] b d->h (.tuple #[(.agg #[(.int .i64 e),(.string (⟨#[]⟩:ByteArray)),(.int .i64 0),(.int .i64 0),(.int .i64 0),(.int .i64 0),(.int .i64 0),(.string (⟨#[]⟩:ByteArray)),(.string (⟨#[]⟩:ByteArray)),(.int .i64 0),(.slice none 0 0),(.slice none 0 0),(.int .i64 m),(.int .i64 0),(.bool false)]),(.int .i64 0)]) d))))/\((e≠2)->((((e=4)/\(((((f:Int)-1).toNat:Nat):Int)=3))->∀g,zag [n] [c,n] q g->FnP Tryz.prog za1 #[(.agg #[(.int .i64 e),(.string (⟨#[]⟩:ByteArray)),(.int .i64 0),(.int .i64 0),(.int .i64 0),(.int .i64 0),(.int .i64 0),(.string (⟨#[]⟩:ByteArray)),(.string (⟨#[]⟩:ByteArray)),(.int .i64 0),(.slice none 0 0),(.slice none 0 0),(.int .i64 0),(.int .i64 (zaw .shr .i64 m 8)),(.bool (decide ((zaw .and .i64 m 255)=1)))])] g fun t b=>Ext g b/\∃k o p i,t=(.tuple #[(.slice k o p),(.int .i64 i)])/\((i≠0)->∀a,zag [c] [] b a->h (.tuple #[(.agg #[(.int .i64 0),(.string (⟨#[]⟩:ByteArray)),(.int .i64 0),(.int .i64 0),(.int .i64 0),(.int .i64 0),(.int .i64 0),(.string (⟨#[]⟩:ByteArray)),(.string (⟨#[]⟩:ByteArray)),(.int .i64 0),(.slice none 0 0),(.slice none 0 0),(.int .i64 0),(.int .i64 0),(.bool false)]),(.int .i64 3)]) a)/\((i=0)->∀a,Ext b a->FnP Tryz.prog zbb #[(.slice k o p),(.slice s f l)] a fun u v=>Ext a v/\∃j,u=(.bool j)/\((j=false)->∀d,zag [c] [] b d->h (.tuple #[(.agg #[(.int .i64 0),(.string (⟨#[]⟩:ByteArray)),(.int .i64 0),(.int .i64 0),(.int .i64 0),(.int .i64 0),(.int .i64 0),(.string (⟨#[]⟩:ByteArray)),(.string (⟨#[]⟩:ByteArray)),(.int .i64 0),(.slice none 0 0),(.slice none 0 0),(.int .i64 0),(.int .i64 0),(.bool false)]),(.int .i64 3)]) d)/\((j=true)->∀d,zag [c] [] b d->h (.tuple #[(.agg #[(.int .i64 e),(.string (⟨#[]⟩:ByteArray)),(.int .i64 0),(.int .i64 0),(.int .i64 0),(.int .i64 0),(.int .i64 0),(.string (⟨#[]⟩:ByteArray)),(.string (⟨#[]⟩:ByteArray)),(.int .i64 0),(.slice none 0 0),(.slice none 0 0),(.int .i64 0),(.int .i64 (zaw .shr .i64 m 8)),(.bool (decide ((zaw .and .i64 m 255)=1)))]),(.int .i64 0)]) d))))/\(((e≠4)\/(((((f:Int)-1).toNat:Nat):Int)≠3))->(((e=5)->∀g,zag [n] [c,n] q g->FnP Tryz.prog za1 #[(.agg #[(.int .i64 e),(.string (⟨#[]⟩:ByteArray)),(.int .i64 0),(.int .i64 0),(.int .i64 0),(.int .i64 0),(.int .i64 0),(.string (⟨#[]⟩:ByteArray)),(.string (⟨#[]⟩:ByteArray)),(.int .i64 0),(.slice none 0 0),(.slice none 0 0),(.int .i64 0),(.int .i64 m),(.bool false)])] g fun t b=>Ext g b/\∃k o p i,t=(.tuple #[(.slice k o p),(.int .i64 i)])/\((i≠0)->∀a,zag [c] [] b a->h (.tuple #[(.agg #[(.int .i64 0),(.string (⟨#[]⟩:ByteArray)),(.int .i64 0),(.int .i64 0),(.int .i64 0),(.int .i64 0),(.int .i64 0),(.string (⟨#[]⟩:ByteArray)),(.string (⟨#[]⟩:ByteArray)),(.int .i64 0),(.slice none 0 0),(.slice none 0 0),(.int .i64 0),(.int .i64 0),(.bool false)]),(.int .i64 3)]) a)/\((i=0)->∀a,Ext b a->FnP Tryz.prog zbb #[(.slice k o p),(.slice s f l)] a fun u v=>Ext a v/\∃j,u=(.bool j)/\((j=false)->∀d,zag [c] [] b d->h (.tuple #[(.agg #[(.int .i64 0),(.string (⟨#[]⟩:ByteArray)),(.int .i64 0),(.int .i64 0),(.int .i64 0),(.int .i64 0),(.int .i64 0),(.string (⟨#[]⟩:ByteArray)),(.string (⟨#[]⟩:ByteArray)),(.int .i64 0),(.slice none 0 0),(.slice none 0 0),(.int .i64 0),(.int .i64 0),(.bool false)]),(.int .i64 3)]) d)/\((j=true)->∀d,zag [c] [] b d->h (.tuple #[(.agg #[(.int .i64 e),(.string (⟨#[]⟩:ByteArray)),(.int .i64 0),(.int .i64 0),(.int .i64 0),(.int .i64 0),(.int .i64 0),(.string (⟨#[]⟩:ByteArray)),(.string (⟨#[]⟩:ByteArray)),(.int .i64 0),(.slice none 0 0),(.slice none 0 0),(.int .i64 0),(.int .i64 m),(.bool false)]),(.int .i64 0)]) d))))/\((e≠5)->∀g,zag [] [c,n] q g->FnP Tryz.prog za1 #[(.agg #[(.int .i64 e),(.string (⟨#[]⟩:ByteArray)),(.int .i64 0),(.int .i64 0),(.int .i64 0),(.int .i64 0),(.int .i64 0),(.string (⟨#[]⟩:ByteArray)),(.string (⟨#[]⟩:ByteArray)),(.int .i64 0),(.slice none 0 0),(.slice none 0 0),(.int .i64 0),(.int .i64 0),(.bool false)])] g fun t b=>Ext g b/\∃k o p i,t=(.tuple #[(.slice k o p),(.int .i64 i)])/\((i≠0)->∀a,zag [c] [] b a->h (.tuple #[(.agg #[(.int .i64 0),(.string (⟨#[]⟩:ByteArray)),(.int .i64 0),(.int .i64 0),(.int .i64 0),(.int .i64 0),(.int .i64 0),(.string (⟨#[]⟩:ByteArray)),(.string (⟨#[]⟩:ByteArray)),(.int .i64 0),(.slice none 0 0),(.slice none 0 0),(.int .i64 0),(.int .i64 0),(.bool false)]),(.int .i64 3)]) a)/\((i=0)->∀a,Ext b a->FnP Tryz.prog zbb #[(.slice k o p),(.slice s f l)] a fun u v=>Ext a v/\∃j,u=(.bool j)/\((j=false)->∀d,zag [c] [] b d->h (.tuple #[(.agg #[(.int .i64 0),(.string (⟨#[]⟩:ByteArray)),(.int .i64 0),(.int .i64 0),(.int .i64 0),(.int .i64 0),(.int .i64 0),(.string (⟨#[]⟩:ByteArray)),(.string (⟨#[]⟩:ByteArray)),(.int .i64 0),(.slice none 0 0),(.slice none 0 0),(.int .i64 0),(.int .i64 0),(.bool false)]),(.int .i64 3)]) d)/\((j=true)->∀d,zag [c] [] b d->h (.tuple #[(.agg #[(.int .i64 e),(.string (⟨#[]⟩:ByteArray)),(.int .i64 0),(.int .i64 0),(.int .i64 0),(.int .i64 0),(.int .i64 0),(.string (⟨#[]⟩:ByteArray)),(.string (⟨#[]⟩:ByteArray)),(.int .i64 0),(.slice none 0 0),(.slice none 0 0),(.int .i64 0),(.int .i64 0),(.bool false)]),(.int .i64 0)]) d)))))))))
theorem zpN(a:Option Addr)(b c:Nat)(d:World)(e:Value->World->Prop)(h:zqn a b c d e):FnP Tryz.prog zgn #[(.slice a b c)] d e:=
 zab (Eq.mp (by kernel_rfl:_=Runs Tryz.prog e ({N:=104}:Cfg) Tryz.f87 (Tryz.f87.body.getD .skip) [.sc (.slc a b c)] d) h) Tryz.func87 (by kernel_rfl) (fun a w=>Tryz.call87 a w) (by kernel_rfl) (by kernel_rfl) rfl rfl
def zrs(o:Option Addr)(e d:Nat)(ak:World)(r:Value->World->Prop):Prop:=
 ∃(U:Option Addr->Nat->Nat->Int->World->Prop) (ad:Option Addr->Nat->Nat->Int->World->Nat),U none 0 0 0 ak/\∀(h:Option Addr)(i:Nat)(j:Nat)(a:Int)(k:World),U h i j a k->(0:Int)<=a/\(a:Int)<=(e:Int)/\((e:Int):Int)<=(d:Int)/\((((((e:Int)-a).toNat:Nat):Int)<2)->∀V,Ext k V->r (.tuple #[(.slice h i j),(.int .i64 a)]) V)/\((2<=((((e:Int)-a).toNat:Nat):Int))->(pCut o d a 1)≠none/\(0:Int)<=0/\(0:Int)<((((e:Int)-a).toNat:Nat):Int)/\∃b,cell k (pIdx (pCut o d a 1) 0 1) 0=some (.int .u8 b)/\InR .i64 b/\(pCut o d a 1)≠none/\(0:Int)<=1/\(1:Int)<((((e:Int)-a).toNat:Nat):Int)/\∃c,cell k (pIdx (pCut o d a 1) 1 1) 0=some (.int .u8 c)/\InR .i64 c/\InR .i64 ((zaw .shl .i64 b 8)+c)/\InR .i64 (((zaw .shl .i64 b 8)+c)+10)/\((((((e:Int)-a).toNat:Nat):Int)<(((zaw .shl .i64 b 8)+c)+10))->∀l,Ext k l->r (.tuple #[(.slice h i j),(.int .i64 a)]) l)/\(((((zaw .shl .i64 b 8)+c)+10)<=((((e:Int)-a).toNat:Nat):Int))->InR .i64 (((zaw .shl .i64 b 8)+c)+2)/\(0:Int)<=2/\(2:Int)<=(((zaw .shl .i64 b 8)+c)+2)/\((((zaw .shl .i64 b 8)+c)+2):Int)<=(((d-a.toNat):Nat):Int)/\∀l,Ext k l->FnP Tryz.prog zgn #[(.slice (pCut (pCut o d a 1) (d-a.toNat) 2 1) ((((zaw .shl .i64 b 8)+c)+2)-2).toNat ((d-a.toNat)-(2:Int).toNat))] l fun ae S=>Ext l S/\∃s t u v w x y z A B C D E F G H I J K f,ae=(.tuple #[(.agg #[(.int .i64 s),(.string t),(.int .i64 u),(.int .i64 v),(.int .i64 w),(.int .i64 x),(.int .i64 y),(.string z),(.string A),(.int .i64 B),(.slice C D E),(.slice F G H),(.int .i64 I),(.int .i64 J),(.bool K)]),(.int .i64 f)])/\∀p:Nat,S.heap.size<=p->∀L,zag [] [p] S L->FnP Tryz.prog zb4 #[(.agg #[(.int .i64 s),(.string t),(.int .i64 u),(.int .i64 v),(.int .i64 w),(.int .i64 x),(.int .i64 y),(.string z),(.string A),(.int .i64 B),(.slice C D E),(.slice F G H),(.int .i64 I),(.int .i64 J),(.bool K)])] L fun af q=>Ext L q/\∃W X Y g,af=(.tuple #[(.slice W X Y),(.int .i64 g)])/\((((f=0)/\(g=0))->InR .i64 (((zaw .shl .i64 b 8)+c)+10)))/\((((f=0)/\(g=0))->(0:Int)<=0))/\((((f=0)/\(g=0))->(0:Int)<=(((zaw .shl .i64 b 8)+c)+10)))/\((((f=0)/\(g=0))->((((zaw .shl .i64 b 8)+c)+10):Int)<=(((d-a.toNat):Nat):Int)))/\(((f≠0)\/(g≠0))->∀m,Ext q m->r (.tuple #[(.slice h i j),(.int .i64 a)]) m)/\(((f=0)/\(g=0))->∀m,Ext q m->FnP Tryz.prog zbb #[(.slice W X Y),(.slice (pCut (pCut o d a 1) (d-a.toNat) 0 1) ((((zaw .shl .i64 b 8)+c)+10)-0).toNat ((d-a.toNat)-(0:Int).toNat))] m fun ag ah=>Ext m ah/\∃M,ag=(.bool M)/\((M=false)->∀n,Ext q n->r (.tuple #[(.slice h i j),(.int .i64 a)]) n)/\((M=true)->∀n,zag [] [p] q n->Run Tryz.prog (.buildSlice 78 1 [(0,(.agg #[(.int .i64 s),(.string t),(.int .i64 u),(.int .i64 v),(.int .i64 w),(.int .i64 x),(.int .i64 y),(.string z),(.string A),(.int .i64 B),(.slice C D E),(.slice F G H),(.int .i64 I),(.int .i64 J),(.bool K)]))]) n fun ai ac=>Ext n ac/\∃Z aa ab,ai=(.slice Z aa ab)/\∀N,zag [] [p] ac N->Run Tryz.prog (.append #[78,78] 78 [(.slice h i j),(.slice Z aa ab)]) N fun aj T=>zbK [p] N T/\∃O P R,aj=(.slice O P R)/\InR .i64 (((zaw .shl .i64 b 8)+c)+10)/\InR .i64 (a+(((zaw .shl .i64 b 8)+c)+10))/\(U O P R (a+(((zaw .shl .i64 b 8)+c)+10)) T/\ad O P R (a+(((zaw .shl .i64 b 8)+c)+10)) T<ad h i j a k)))))
theorem zq2(a:Option Addr)(b c:Nat)(d:World)(e:Value->World->Prop)(h:zrs a b c d e):FnP Tryz.prog zhq #[(.slice a b c)] d e:=
 zab (Eq.mp (by kernel_rfl:_=Runs Tryz.prog e ({N:=75}:Cfg) Tryz.f39 (Tryz.f39.body.getD .skip) [.sc (.slc a b c)] d) h) Tryz.func39 (by kernel_rfl) (fun a w=>Tryz.call39 a w) (by kernel_rfl) (by kernel_rfl) rfl rfl
abbrev zcy:FuncId:=61
abbrev zck:FuncId:=78
abbrev zjy:FuncId:=79
abbrev zhr:FuncId:=108
abbrev zht:FuncId:=115
def zrt(c:Option Addr)(g s:Nat)(r:World)(n:Value->World->Prop):Prop:=
 ∃(f:Int->World->Prop) (m:Int->World->Nat),f 0 r/\∀(a:Int)(b:World),f a b->(((a<(g:Int))->c≠none/\(0:Int)<=a/\(a:Int)<(g:Int)/\(pIdx c a 3)≠none/\∃h,cell b (pIdx c a 3) 0=some (.int .i64 h)/\∃i,cell b (pIdx c a 3) 1=some (.int .i64 i)/\∃j,cell b (pIdx c a 3) 2=some (.int .i64 j)/\∀o:Nat,b.heap.size<=o->∀e,Ext b e->FnP Tryz.prog zbh #[(.agg #[(.int .i64 h),(.int .i64 i),(.int .i64 j)])] e fun p q=>Ext e q/\∃d,p=(.int .i64 d)/\((d≠0)->∀k,Ext b k->n (.int .i64 d) k)/\((d=0)->InR .i64 (a+1)/\(f (a+1) b/\m (a+1) b<m a b))))/\(((g:Int)<=a)->∀l,Ext b l->n (.int .i64 0) l)
theorem zq3(a:Option Addr)(b c:Nat)(d:World)(e:Value->World->Prop)(h:zrt a b c d e):FnP Tryz.prog zck #[(.slice a b c)] d e:=
 zab (Eq.mp (by kernel_rfl:_=Runs Tryz.prog e ({N:=18}:Cfg) Tryz.f78 (Tryz.f78.body.getD .skip) [.sc (.slc a b c)] d) h) Tryz.func78 (by kernel_rfl) (fun a w=>Tryz.call78 a w) (by kernel_rfl) (by kernel_rfl) rfl rfl
def zwm(e f g h i j:Int)(a:World)(k:Value->World->Prop):Prop:=
 ∀c:Nat,a.heap.size<=c->∀d:Nat,a.heap.size<=d->∀b,Ext a b->k (.bool (((decide (e<=h))&&(decide (f<=i)))&&(decide (g<=j)))) b
theorem zvt(a b c d e f:Int)(g:World)(i:Value->World->Prop)(h:zwm a b c d e f g i):FnP Tryz.prog zht #[(.agg #[(.int .i64 a),(.int .i64 b),(.int .i64 c)]),(.agg #[(.int .i64 d),(.int .i64 e),(.int .i64 f)])] g i:=
 zab (Eq.mp (by kernel_rfl:_=Runs Tryz.prog i ({N:=24}:Cfg) Tryz.f115 (Tryz.f115.body.getD .skip) [.agg [.int .i64 a,.int .i64 b,.int .i64 c],.agg [.int .i64 d,.int .i64 e,.int .i64 f]] g) h) Tryz.func115 (by kernel_rfl) (fun a w=>Tryz.call115 a w) (by kernel_rfl) (by kernel_rfl) rfl rfl
def zwj(n o p q r s:Int)(f:World)(t:Value->World->Prop):Prop:=
 ∀g:Nat,f.heap.size<=g->∀h:Nat,f.heap.size<=h->∀d,zag [] [g,h] f d->Run Tryz.prog (.buildSlice 153 2 [(0,(.agg #[(.int .i64 n),(.int .i64 o),(.int .i64 p)])),(1,(.agg #[(.int .i64 q),(.int .i64 r),(.int .i64 s)]))]) d fun u b=>Ext d b/\∃i j k,u=(.slice i j k)/\∀e,Ext b e->FnP Tryz.prog zck #[(.slice i j k)] e fun v w=>Ext e w/\∃c,v=(.int .i64 c)/\((c≠0)->∀a,Ext b a->t (.tuple #[(.bool false),(.int .i64 c)]) a)/\((c=0)->∀a,Ext b a->FnP Tryz.prog zht #[(.agg #[(.int .i64 n),(.int .i64 o),(.int .i64 p)]),(.agg #[(.int .i64 q),(.int .i64 r),(.int .i64 s)])] a fun x y=>Ext a y/\∃l,x=(.bool l)/\∀m,Ext b m->t (.tuple #[(.bool l),(.int .i64 0)]) m)
theorem zvr(a b c d e f:Int)(g:World)(i:Value->World->Prop)(h:zwj a b c d e f g i):FnP Tryz.prog zhr #[(.agg #[(.int .i64 a),(.int .i64 b),(.int .i64 c)]),(.agg #[(.int .i64 d),(.int .i64 e),(.int .i64 f)])] g i:=
 zab (Eq.mp (by kernel_rfl:_=Runs Tryz.prog i ({N:=17}:Cfg) Tryz.f108 (Tryz.f108.body.getD .skip) [.agg [.int .i64 a,.int .i64 b,.int .i64 c],.agg [.int .i64 d,.int .i64 e,.int .i64 f]] g) h) Tryz.func108 (by kernel_rfl) (fun a w=>Tryz.call108 a w) (by kernel_rfl) (by kernel_rfl) rfl rfl
def zyr(e f g h i j:Int)(k:World)(p:Value->World->Prop):Prop:=
 ∀q:Nat,k.heap.size<=q->∀r:Nat,k.heap.size<=r->∀b:Nat,k.heap.size<=b->∀l,zag [] [q,r,b] k l->Run Tryz.prog (.buildSlice 153 2 [(0,(.agg #[(.int .i64 e),(.int .i64 f),(.int .i64 g)])),(1,(.agg #[(.int .i64 h),(.int .i64 i),(.int .i64 j)]))]) l fun x a=>Ext l a/\∃s t u,x=(.slice s t u)/\∀m,Ext a m->FnP Tryz.prog zck #[(.slice s t u)] m fun y z=>Ext m z/\∃d,y=(.int .i64 d)/\((d≠0)->∀v,zag [b] [] a v->p (.tuple #[(.agg #[(.int .i64 0),(.int .i64 0),(.int .i64 0)]),(.int .i64 d)]) v)/\((d=0)->InR .i64 (e+h)/\InR .i64 (f+i)/\InR .i64 (g+j)/\∀w:Nat,a.heap.size<=w->∀n,Ext a n->FnP Tryz.prog zbh #[(.agg #[(.int .i64 (e+h)),(.int .i64 (f+i)),(.int .i64 (g+j))])] n fun A B=>Ext n B/\∃o,A=(.int .i64 o)/\((o≠0)->∀c,zag [b] [] a c->p (.tuple #[(.agg #[(.int .i64 0),(.int .i64 0),(.int .i64 0)]),(.int .i64 2)]) c)/\((o=0)->∀c,zag [b] [] a c->p (.tuple #[(.agg #[(.int .i64 (e+h)),(.int .i64 (f+i)),(.int .i64 (g+j))]),(.int .i64 0)]) c))
theorem zxL(a b c d e f:Int)(g:World)(i:Value->World->Prop)(h:zyr a b c d e f g i):FnP Tryz.prog zjy #[(.agg #[(.int .i64 a),(.int .i64 b),(.int .i64 c)]),(.agg #[(.int .i64 d),(.int .i64 e),(.int .i64 f)])] g i:=
 zab (Eq.mp (by kernel_rfl:_=Runs Tryz.prog i ({N:=37}:Cfg) Tryz.f79 (Tryz.f79.body.getD .skip) [.agg [.int .i64 a,.int .i64 b,.int .i64 c],.agg [.int .i64 d,.int .i64 e,.int .i64 f]] g) h) Tryz.func79 (by kernel_rfl) (fun a w=>Tryz.call79 a w) (by kernel_rfl) (by kernel_rfl) rfl rfl
def zys(f g h i j k:Int)(l:World)(p:Value->World->Prop):Prop:=
 ∀q:Nat,l.heap.size<=q->∀r:Nat,l.heap.size<=r->∀c:Nat,l.heap.size<=c->∀m,zag [] [q,r,c] l m->Run Tryz.prog (.buildSlice 153 2 [(0,(.agg #[(.int .i64 f),(.int .i64 g),(.int .i64 h)])),(1,(.agg #[(.int .i64 i),(.int .i64 j),(.int .i64 k)]))]) m fun v b=>Ext m b/\∃s t u,v=(.slice s t u)/\∀n,Ext b n->FnP Tryz.prog zck #[(.slice s t u)] n fun w x=>Ext n x/\∃e,w=(.int .i64 e)/\((e≠0)->∀a,zag [c] [] b a->p (.tuple #[(.agg #[(.int .i64 0),(.int .i64 0),(.int .i64 0)]),(.int .i64 e)]) a)/\((e=0)->∀a,Ext b a->FnP Tryz.prog zht #[(.agg #[(.int .i64 i),(.int .i64 j),(.int .i64 k)]),(.agg #[(.int .i64 f),(.int .i64 g),(.int .i64 h)])] a fun y z=>Ext a z/\∃o,y=(.bool o)/\((o=false)->∀d,zag [c] [] b d->p (.tuple #[(.agg #[(.int .i64 0),(.int .i64 0),(.int .i64 0)]),(.int .i64 10)]) d)/\((o=true)->InR .i64 (f-i)/\InR .i64 (g-j)/\InR .i64 (h-k)/\∀d,zag [c] [] b d->p (.tuple #[(.agg #[(.int .i64 (f-i)),(.int .i64 (g-j)),(.int .i64 (h-k))]),(.int .i64 0)]) d))
theorem zxM(a b c d e f:Int)(g:World)(i:Value->World->Prop)(h:zys a b c d e f g i):FnP Tryz.prog zcy #[(.agg #[(.int .i64 a),(.int .i64 b),(.int .i64 c)]),(.agg #[(.int .i64 d),(.int .i64 e),(.int .i64 f)])] g i:=
 zab (Eq.mp (by kernel_rfl:_=Runs Tryz.prog i ({N:=38}:Cfg) Tryz.f61 (Tryz.f61.body.getD .skip) [.agg [.int .i64 a,.int .i64 b,.int .i64 c],.agg [.int .i64 d,.int .i64 e,.int .i64 f]] g) h) Tryz.func61 (by kernel_rfl) (fun a w=>Tryz.call61 a w) (by kernel_rfl) (by kernel_rfl) rfl rfl
abbrev zki:FuncId:=114
abbrev zci:FuncId:=161
abbrev zhh:FuncId:=162
abbrev ziJ:FuncId:=163
abbrev zaJ:FuncId:=164
abbrev zfm:FuncId:=165
abbrev zbl:FuncId:=227
def ztG(f g h:Int)(b:ByteArray)(c:World)(d:Value->World->Prop):Prop:=
 ∀e:Nat,c.heap.size<=e->((b=(⟨#[99,112,117]⟩:ByteArray))->∀a,Ext c a->d (.int .i64 f) a)/\((b≠(⟨#[99,112,117]⟩:ByteArray))->((b=(⟨#[109,101,109]⟩:ByteArray))->∀a,Ext c a->d (.int .i64 g) a)/\((b≠(⟨#[109,101,109]⟩:ByteArray))->∀a,Ext c a->d (.int .i64 h) a))
theorem zs7(a b c:Int)(d:ByteArray)(e:World)(f:Value->World->Prop)(h:ztG a b c d e f):FnP Tryz.prog ziJ #[(.agg #[(.int .i64 a),(.int .i64 b),(.int .i64 c)]),(.string d)] e f:=
 zab (Eq.mp (by kernel_rfl:_=Runs Tryz.prog f ({N:=16}:Cfg) Tryz.f163 (Tryz.f163.body.getD .skip) [.agg [.int .i64 a,.int .i64 b,.int .i64 c],.sc (.str d)] e) h) Tryz.func163 (by kernel_rfl) (fun a w=>Tryz.call163 a w) (by kernel_rfl) (by kernel_rfl) rfl rfl
def zv9(n:Int)(J K:ByteArray)(L:Int)(b:Option Addr)(o M:Nat)(p:Value)(a:World)(q:Value->World->Prop):Prop:=
 ∀G:Nat,a.heap.size<=G->(((n=4)->b≠none/\(0:Int)<=0/\(0:Int)<(o:Int)/\(pIdx b 0 5)≠none/\∃f,cell a (pIdx b 0 5) 0=some (.int .i64 f)/\∃g,cell a (pIdx b 0 5) 1=some (.string g)/\∃d,cell a (pIdx b 0 5) 2=some (.string d)/\∃h,cell a (pIdx b 0 5) 3=some (.int .i64 h)/\∃i j k,cell a (pIdx b 0 5) 4=some (.slice i j k)/\∀e,Ext a e->FnP Tryz.prog zci #[(.agg #[(.int .i64 f),(.string g),(.string d),(.int .i64 h),(.slice i j k)]),p] e fun A B=>Ext e B/\∃c,A=(.bool c)/\∀l,Ext a l->q (.bool (!c)) l))/\((n≠4)->(((n=5)->b≠none/\(0:Int)<=0/\(0:Int)<(o:Int)/\(pIdx b 0 5)≠none/\∃f,cell a (pIdx b 0 5) 0=some (.int .i64 f)/\∃g,cell a (pIdx b 0 5) 1=some (.string g)/\∃d,cell a (pIdx b 0 5) 2=some (.string d)/\∃h,cell a (pIdx b 0 5) 3=some (.int .i64 h)/\∃i j k,cell a (pIdx b 0 5) 4=some (.slice i j k)/\∀e,Ext a e->FnP Tryz.prog zci #[(.agg #[(.int .i64 f),(.string g),(.string d),(.int .i64 h),(.slice i j k)]),p] e fun A B=>Ext e B/\∃c,A=(.bool c)/\((c=true)->b≠none)/\((c=true)->(0:Int)<=1)/\((c=true)->(1:Int)<(o:Int))/\(((c=true)->(pIdx b 1 5)≠none/\∃r,cell a (pIdx b 1 5) 0=some (.int .i64 r)/\∃s,cell a (pIdx b 1 5) 1=some (.string s)/\∃t,cell a (pIdx b 1 5) 2=some (.string t)/\∃u,cell a (pIdx b 1 5) 3=some (.int .i64 u)/\∃v w x,cell a (pIdx b 1 5) 4=some (.slice v w x)/\∀m,Ext a m->FnP Tryz.prog zci #[(.agg #[(.int .i64 r),(.string s),(.string t),(.int .i64 u),(.slice v w x)]),p] m fun D E=>Ext m E/\∃y,D=(.bool y)/\∀z,Ext a z->q (.bool y) z))/\((c=false)->∀l,Ext a l->q (.bool false) l)))/\((n≠5)->(((n=6)->b≠none/\(0:Int)<=0/\(0:Int)<(o:Int)/\(pIdx b 0 5)≠none/\∃f,cell a (pIdx b 0 5) 0=some (.int .i64 f)/\∃g,cell a (pIdx b 0 5) 1=some (.string g)/\∃d,cell a (pIdx b 0 5) 2=some (.string d)/\∃h,cell a (pIdx b 0 5) 3=some (.int .i64 h)/\∃i j k,cell a (pIdx b 0 5) 4=some (.slice i j k)/\∀e,Ext a e->FnP Tryz.prog zci #[(.agg #[(.int .i64 f),(.string g),(.string d),(.int .i64 h),(.slice i j k)]),p] e fun A B=>Ext e B/\∃c,A=(.bool c)/\((c=false)->b≠none)/\((c=false)->(0:Int)<=1)/\((c=false)->(1:Int)<(o:Int))/\((c=true)->∀l,Ext a l->q (.bool true) l)/\((c=false)->(pIdx b 1 5)≠none/\∃r,cell a (pIdx b 1 5) 0=some (.int .i64 r)/\∃s,cell a (pIdx b 1 5) 1=some (.string s)/\∃t,cell a (pIdx b 1 5) 2=some (.string t)/\∃u,cell a (pIdx b 1 5) 3=some (.int .i64 u)/\∃v w x,cell a (pIdx b 1 5) 4=some (.slice v w x)/\∀m,Ext a m->FnP Tryz.prog zci #[(.agg #[(.int .i64 r),(.string s),(.string t),(.int .i64 u),(.slice v w x)]),p] m fun D E=>Ext m E/\∃y,D=(.bool y)/\∀z,Ext a z->q (.bool y) z)))/\((n≠6)->∀C,Ext a C->zil Tryz.prog p [(.agg #[(.int .i64 n),(.string J),(.string K),(.int .i64 L),(.slice b o M)])] C fun H I=>Ext C I/\∃d,H=(.bool d)/\∀F,Ext a F->q (.bool d) F)))
theorem zvi(a:Int)(b c:ByteArray)(d:Int)(e:Option Addr)(f g:Nat)(i:Value)(j:World)(k:Value->World->Prop)(h:zv9 a b c d e f g i j k):FnP Tryz.prog zci #[(.agg #[(.int .i64 a),(.string b),(.string c),(.int .i64 d),(.slice e f g)]),i] j k:=
 zab (Eq.mp (by kernel_rfl:_=Runs Tryz.prog k ({N:=51}:Cfg) Tryz.f161 (Tryz.f161.body.getD .skip) [.agg [.int .i64 a,.str b,.str c,.int .i64 d,.slc e f g],.sc (.val i)] j) h) Tryz.func161 (by kernel_rfl) (fun a w=>Tryz.call161 a w) (by kernel_rfl) (by kernel_rfl) rfl rfl
def zv5(i:Int)(j k:ByteArray)(l:Int)(m:Option Addr)(n o:Nat)(w:ByteArray)(x:Option Addr)(y z:Nat)(A B C D E F:Int)(p:World)(q:Value->World->Prop):Prop:=
 ∀e:Nat,p.heap.size<=e->∀f,zag [] [e] p f->New f 76 [(.string w),(.slice x y z),(.int .i64 A),(.int .i64 B),(.int .i64 C),(.int .i64 D),(.int .i64 E),(.int .i64 F)] fun r c=>∀d,Ext c d->FnP Tryz.prog zec #[(.agg #[(.int .i64 i),(.string j),(.string k),(.int .i64 l),(.slice m n o)])] d fun s t=>Ext d t/\∃b,s=(.int .i64 b)/\((b≠0)->∀a,Ext c a->q (.tuple #[(.bool false),(.int .i64 b)]) a)/\((b=0)->∀a,Ext c a->FnP Tryz.prog zci #[(.agg #[(.int .i64 i),(.string j),(.string k),(.int .i64 l),(.slice m n o)]),(.func (.func 162) #[] #[(.pointer r)])] a fun u v=>Ext a v/\∃g,u=(.bool g)/\∀h,Ext c h->q (.tuple #[(.bool g),(.int .i64 0)]) h)
theorem zve(a:Int)(b c:ByteArray)(d:Int)(e:Option Addr)(f g:Nat)(i:ByteArray)(j:Option Addr)(k l:Nat)(m n o p q r:Int)(s:World)(t:Value->World->Prop)(h:zv5 a b c d e f g i j k l m n o p q r s t):FnP Tryz.prog zki #[(.agg #[(.int .i64 a),(.string b),(.string c),(.int .i64 d),(.slice e f g)]),(.agg #[(.string i),(.slice j k l),(.int .i64 m),(.int .i64 n),(.int .i64 o),(.int .i64 p),(.int .i64 q),(.int .i64 r)])] s t:=
 zab (Eq.mp (by kernel_rfl:_=Runs Tryz.prog t ({N:=15,pub:=[3]}:Cfg) Tryz.f114 (Tryz.f114.body.getD .skip) [.agg [.int .i64 a,.str b,.str c,.int .i64 d,.slc e f g],.agg [.str i,.slc j k l,.int .i64 m,.int .i64 n,.int .i64 o,.int .i64 p,.int .i64 q,.int .i64 r]] s) h) Tryz.func114 (by kernel_rfl) (fun a w=>Tryz.call114 a w) (by kernel_rfl) (by kernel_rfl) rfl rfl
def zrc(w:Int)(x y:ByteArray)(z:Int)(A:Option Addr)(B C:Nat)(c:Option Addr)(D:World)(s:Value->World->Prop):Prop:=
 ∀i,Ext D i->New i 47 [(.int .i64 w),(.string x),(.string y),(.int .i64 z),(.slice A B C)] fun b a=>b≠none/\∃f,cell a (pAdd b 0) 0=some (.int .i64 f)/\(((f=3)->c≠none/\(pAdd c 2)≠none/\∃d,cell a (pAdd c 2) 0=some (.int .i64 d)/\∃j,cell a (pAdd c 2) 1=some (.int .i64 j)/\∃k,cell a (pAdd c 2) 2=some (.int .i64 k)/\b≠none/\∃l,cell a (pAdd b 1) 0=some (.string l)/\b≠none/\∃m,cell a (pAdd b 3) 0=some (.int .i64 m)/\∀g,Ext a g->FnP Tryz.prog ziJ #[(.agg #[(.int .i64 d),(.int .i64 j),(.int .i64 k)]),(.string l)] g fun t e=>Ext g e/\∃n,t=(.int .i64 n)/\∀o,Ext a o->s (.bool (decide (m<=n))) o))/\((f≠3)->c≠none/\∃d p q,cell a (pAdd c 1) 0=some (.slice d p q)/\∀h,Ext a h->FnP Tryz.prog zaJ #[(.slice d p q),(.func (.func 165) #[] #[(.pointer b)])] h fun u v=>Ext h v/\∃r,u=(.bool r)/\∀e,Ext a e->s (.bool r) e)
theorem zqQ(a:Int)(b c:ByteArray)(d:Int)(e:Option Addr)(f g:Nat)(i:Option Addr)(j:World)(k:Value->World->Prop)(h:zrc a b c d e f g i j k):FnP Tryz.prog zhh #[(.agg #[(.int .i64 a),(.string b),(.string c),(.int .i64 d),(.slice e f g)]),(.pointer i)] j k:=
 zab (Eq.mp (by kernel_rfl:_=Runs Tryz.prog k ({N:=19,pub:=[2]}:Cfg) Tryz.f162 (Tryz.f162.body.getD .skip) [.agg [.int .i64 a,.str b,.str c,.int .i64 d,.slc e f g],.sc (.ptr i)] j) h) Tryz.func162 (by kernel_rfl) (fun a w=>Tryz.call162 a w) (by kernel_rfl) (by kernel_rfl) rfl rfl
def zog(e l:ByteArray)(b:Option Addr)(a:World)(f:Value->World->Prop):Prop:=
 ∀k:Nat,a.heap.size<=k->b≠none/\∃c,cell a (pAdd b 1) 0=some (.string c)/\((e=c)->b≠none)/\(((e=c)->∃d,cell a (pAdd b 0) 0=some (.int .i64 d)/\((d≠1)->b≠none)/\((d=1)->∀g,Ext a g->f (.bool true) g)/\((d≠1)->∃h,cell a (pAdd b 2) 0=some (.string h)/\∀i,Ext a i->f (.bool (decide (l=h))) i)))/\((e≠c)->∀j,Ext a j->f (.bool false) j)
theorem zn5(a b:ByteArray)(c:Option Addr)(d:World)(e:Value->World->Prop)(h:zog a b c d e):FnP Tryz.prog zfm #[(.agg #[(.string a),(.string b)]),(.pointer c)] d e:=
 zab (Eq.mp (by kernel_rfl:_=Runs Tryz.prog e ({N:=21}:Cfg) Tryz.f165 (Tryz.f165.body.getD .skip) [.agg [.str a,.str b],.sc (.ptr c)] d) h) Tryz.func165 (by kernel_rfl) (fun a w=>Tryz.call165 a w) (by kernel_rfl) (by kernel_rfl) rfl rfl
def zcv(g:Option Addr)(h i:Nat)(j:Value)(d:World)(k:Value->World->Prop):Prop:=
 ∀a,Ext d a->FnP Tryz.prog zbl #[(.slice g h i),j] a fun e f=>Ext a f/\∃b,e=(.int .i64 b)/\∀c,Ext d c->k (.bool (decide (0<=b))) c
theorem zcq(a:Option Addr)(b c:Nat)(d:Value)(e:World)(f:Value->World->Prop)(h:zcv a b c d e f):FnP Tryz.prog zaJ #[(.slice a b c),d] e f:=
 zab (Eq.mp (by kernel_rfl:_=Runs Tryz.prog f ({N:=9}:Cfg) Tryz.f164 (Tryz.f164.body.getD .skip) [.sc (.slc a b c),.sc (.val d)] e) h) Tryz.func164 (by kernel_rfl) (fun a w=>Tryz.call164 a w) (by kernel_rfl) (by kernel_rfl) rfl rfl
def zcU(c:Option Addr)(g r:Nat)(p:Value)(q:World)(m:Value->World->Prop):Prop:=
 ∃(f:Int->World->Prop) (l:Int->World->Nat),f 0 q/\∀(a:Int)(b:World),f a b->(((a<(g:Int))->c≠none/\(0:Int)<=a/\(a:Int)<(g:Int)/\(pIdx c a 2)≠none/\∃h,cell b (pIdx c a 2) 0=some (.string h)/\∃i,cell b (pIdx c a 2) 1=some (.string i)/\∀d,Ext b d->zil Tryz.prog p [(.agg #[(.string h),(.string i)])] d fun n o=>Ext d o/\∃e,n=(.bool e)/\((e=true)->∀j,Ext b j->m (.int .i64 a) j)/\((e=false)->InR .i64 (a+1)/\(f (a+1) b/\l (a+1) b<l a b))))/\(((g:Int)<=a)->∀k,Ext b k->m (.int .i64 (-1)) k)
theorem zcP(a:Option Addr)(b c:Nat)(d:Value)(e:World)(f:Value->World->Prop)(h:zcU a b c d e f):FnP Tryz.prog zbl #[(.slice a b c),d] e f:=
 zab (Eq.mp (by kernel_rfl:_=Runs Tryz.prog f ({N:=19}:Cfg) Tryz.f227 (Tryz.f227.body.getD .skip) [.sc (.slc a b c),.sc (.val d)] e) h) Tryz.func227 (by kernel_rfl) (fun a w=>Tryz.call227 a w) (by kernel_rfl) (by kernel_rfl) rfl rfl
abbrev zfp:FuncId:=20
abbrev zcf:FuncId:=54
abbrev zmn:FuncId:=59
abbrev zc0:FuncId:=60
abbrev zb6:FuncId:=62
abbrev zhn:FuncId:=63
abbrev ziM:FuncId:=64
abbrev zbx:FuncId:=65
abbrev zkm:FuncId:=73
abbrev zal:FuncId:=111
abbrev zaH:FuncId:=112
abbrev zcW:FuncId:=116
abbrev zaV:FuncId:=119
abbrev ze7:FuncId:=123
abbrev zhp:FuncId:=124
abbrev zkl:FuncId:=125
abbrev zbJ:FuncId:=166
abbrev zmo:FuncId:=169
abbrev zho:FuncId:=170
def ztP(h:Option Addr)(t aq:Nat)(ae:World)(e:Value->World->Prop):Prop:=
 ((30<(t:Int))->∀l,Ext ae l->e (.int .i64 2) l)/\(((t:Int)<=30)->∀l,Ext ae l->Run Tryz.prog (.makeMap 199) l fun ag W=>Ext l W/\∃z,ag=z/\∃(N:Int->World->Prop) (Z:Int->World->Nat),N 0 W/\∀(a:Int)(b:World),N a b->(((a<(t:Int))->h≠none/\(0:Int)<=a/\(a:Int)<(t:Int)/\(pIdx h a 8)≠none/\∃u,cell b (pIdx h a 8) 0=some (.string u)/\∃q m af,cell b (pIdx h a 8) 1=some (.slice q m af)/\∃A,cell b (pIdx h a 8) 2=some (.int .i64 A)/\∃B,cell b (pIdx h a 8) 3=some (.int .i64 B)/\∃C,cell b (pIdx h a 8) 4=some (.int .i64 C)/\∃P,cell b (pIdx h a 8) 5=some (.int .i64 P)/\∃R,cell b (pIdx h a 8) 6=some (.int .i64 R)/\∃S,cell b (pIdx h a 8) 7=some (.int .i64 S)/\∀n:Nat,b.heap.size<=n->∃(aa:World->Prop),(∀k,Ext b k->FnP Tryz.prog zbn #[(.string u)] k fun X y=>Ext k y/\∃D,X=(.bool D)/\((D=false)->∀i,Ext b i->e (.int .i64 3) i)/\((D=true)->∀i,Ext b i->Run Tryz.prog (.lookup 199 z (.string u) false) i fun ah ai=>Ext i ai/\∃E,ah=(.bool E)/\((E=true)->∀r,Ext b r->e (.int .i64 6) r)/\((E=false)->((8<(m:Int))->∀r,Ext b r->e (.int .i64 2) r)/\(((m:Int)<=8)->aa  b))))/\∀  (w18:World),aa  w18->∀k,zag [] [n] w18 k->Run Tryz.prog (.mapUpdate 199 z (.string u) (.bool true)) k fun X y=>zbK [n] k y/\∀F,zag [] [n] y F->Run Tryz.prog (.makeMap 199) F fun aj i=>Ext F i/\∃G,aj=G/\∃(O:Int->World->Prop) (ab:Int->World->Nat),O 0 i/\∀(d:Int)(c:World),O d c->(((d<(m:Int))->q≠none/\(0:Int)<=d/\(d:Int)<(m:Int)/\(pIdx q d 2)≠none/\∃v,cell c (pIdx q d 2) 0=some (.string v)/\∃T,cell c (pIdx q d 2) 1=some (.string T)/\∀H:Nat,c.heap.size<=H->∃(ac:World->Prop),(∀j,Ext c j->FnP Tryz.prog zbn #[(.string v)] j fun Y s=>Ext j s/\∃I,Y=(.bool I)/\((I=false)->∀f,Ext c f->e (.int .i64 3) f)/\((I=true)->∀f,Ext c f->FnP Tryz.prog zbn #[(.string T)] f fun ak g=>Ext f g/\∃J,ak=(.bool J)/\((J=false)->∀o,Ext c o->e (.int .i64 3) o)/\((J=true)->∀o,Ext c o->Run Tryz.prog (.lookup 199 G (.string v) false) o fun al am=>Ext o am/\∃K,al=(.bool K)/\((K=true)->∀U,Ext c U->e (.int .i64 6) U)/\((K=false)->ac  c))))/\∀  (p:World),ac  p->∀j,zag [] [n,H] p j->Run Tryz.prog (.mapUpdate 199 G (.string v) (.bool true)) j fun Y s=>zbK [n,H] j s/\InR .i64 (d+1)/\(O (d+1) s/\ab (d+1) s<ab d c)))/\(((m:Int)<=d)->∀L,Ext c L->FnP Tryz.prog zhr #[(.agg #[(.int .i64 P),(.int .i64 R),(.int .i64 S)]),(.agg #[(.int .i64 A),(.int .i64 B),(.int .i64 C)])] L fun an ao=>Ext L ao/\∃M w,an=(.tuple #[(.bool M),(.int .i64 w)])/\∀p,Ext c p->FnP Tryz.prog zbh #[(.agg #[(.int .i64 A),(.int .i64 B),(.int .i64 C)])] p fun ap j=>Ext p j/\∃x,ap=(.int .i64 x)/\∃(ad:World->Prop),(((x≠0)->∀g,Ext c g->e (.int .i64 x) g)/\((x=0)->((w≠0)->∀g,Ext c g->e (.int .i64 w) g)/\((w=0)->((M=false)->∀g,Ext c g->e (.int .i64 10) g)/\((M=true)->ad  c))))/\∀  (f:World),ad  f->InR .i64 (a+1)/\(N (a+1) f/\Z (a+1) f<Z a b))))/\(((t:Int)<=a)->∀V,Ext b V->e (.int .i64 0) V))
theorem zlO(a:Option Addr)(b c:Nat)(d:World)(e:Value->World->Prop)(h:ztP a b c d e):FnP Tryz.prog zcf #[(.slice a b c)] d e:=
 zab (Eq.mp (by kernel_rfl:_=Runs Tryz.prog e ({N:=91,joins:=[(2,[]),(5,[]),(6,[])]}:Cfg) Tryz.f54 (Tryz.f54.body.getD .skip) [.sc (.slc a b c)] d) h) Tryz.func54 (by kernel_rfl) (fun a w=>Tryz.call54 a w) (by kernel_rfl) (by kernel_rfl) rfl rfl
def zyo(v:Option Addr)(w x:Nat)(y:World)(z:Value->World->Prop):Prop:=
 ∀e,Ext y e->FnP Tryz.prog zal #[(.slice v w x)] e fun t p=>Ext e p/\∃b c h,t=(.slice b c h)/\∃(g:Int->World->Prop) (s:Int->World->Nat),g 0 p/\∀(a:Int)(d:World),g a d->(((a<(c:Int))->b≠none/\(0:Int)<=a/\(a:Int)<(c:Int)/\(pIdx b a 8)≠none/\∃i j k,cell d (pAdd (pIdx b a 8) 1) 0=some (.slice i j k)/\∀f,Ext d f->FnP Tryz.prog zaH #[(.slice i j k)] f fun u q=>Ext f q/\∃l m n,u=(.slice l m n)/\b≠none/\(0:Int)<=a/\(a:Int)<(c:Int)/\(pIdx b a 8)≠none/\zan q (pAdd (pIdx b a 8) 1) [(.slice l m n)] [] fun r=>InR .i64 (a+1)/\(g (a+1) r/\s (a+1) r<s a d)))/\(((c:Int)<=a)->∀o,Ext d o->z (.slice b c h) o)
theorem zxJ(a:Option Addr)(b c:Nat)(d:World)(e:Value->World->Prop)(h:zyo a b c d e):FnP Tryz.prog zmo #[(.slice a b c)] d e:=
 zab (Eq.mp (by kernel_rfl:_=Runs Tryz.prog e ({N:=23}:Cfg) Tryz.f169 (Tryz.f169.body.getD .skip) [.sc (.slc a b c)] d) h) Tryz.func169 (by kernel_rfl) (fun a w=>Tryz.call169 a w) (by kernel_rfl) (by kernel_rfl) rfl rfl
def zrr(c:Option Addr)(g E:Nat)(a:Int)(L:Value)(b:World)(j:Value->World->Prop):Prop:=
 ∀k,Ext b k->FnP Tryz.prog zcf #[(.slice c g E)] k fun F G=>Ext k G/\∃h,F=(.int .i64 h)/\((h≠0)->∀e,Ext b e->j (.tuple #[(.slice none 0 0),(.int .i64 h)]) e)/\((h=0)->(((a<0)\/((g:Int)<=a))->∀e,Ext b e->j (.tuple #[(.slice none 0 0),(.int .i64 5)]) e)/\(((0<=a)/\(a<(g:Int)))->c≠none/\(0:Int)<=a/\(a:Int)<(g:Int)/\(pIdx c a 8)≠none/\∃o,cell b (pIdx c a 8) 0=some (.string o)/\∃p q r,cell b (pIdx c a 8) 1=some (.slice p q r)/\∃s,cell b (pIdx c a 8) 2=some (.int .i64 s)/\∃t,cell b (pIdx c a 8) 3=some (.int .i64 t)/\∃u,cell b (pIdx c a 8) 4=some (.int .i64 u)/\∃v,cell b (pIdx c a 8) 5=some (.int .i64 v)/\∃w,cell b (pIdx c a 8) 6=some (.int .i64 w)/\∃x,cell b (pIdx c a 8) 7=some (.int .i64 x)/\∀l,Ext b l->zil Tryz.prog L [(.agg #[(.string o),(.slice p q r),(.int .i64 s),(.int .i64 t),(.int .i64 u),(.int .i64 v),(.int .i64 w),(.int .i64 x)])] l fun H I=>Ext l I/\∃y z A i,H=(.tuple #[(.agg #[(.int .i64 y),(.int .i64 z),(.int .i64 A)]),(.int .i64 i)])/\∀m:Nat,b.heap.size<=m->((i≠0)->∀d,Ext b d->j (.tuple #[(.slice none 0 0),(.int .i64 i)]) d)/\((i=0)->∀d,zag [] [m] b d->FnP Tryz.prog zmo #[(.slice c g E)] d fun J D=>Ext d D/\∃f n B,J=(.slice f n B)/\f≠none/\(0:Int)<=a/\(a:Int)<(n:Int)/\(pIdx f a 8)≠none/\zan D (pAdd (pIdx f a 8) 5) [(.int .i64 y),(.int .i64 z),(.int .i64 A)] [m] fun K=>∀C,Ext K C->j (.tuple #[(.slice f n B),(.int .i64 0)]) C)))
theorem zq1(a:Option Addr)(b c:Nat)(d:Int)(e:Value)(f:World)(g:Value->World->Prop)(h:zrr a b c d e f g):FnP Tryz.prog ze7 #[(.slice a b c),(.int .i64 d),e] f g:=
 zab (Eq.mp (by kernel_rfl:_=Runs Tryz.prog g ({N:=44}:Cfg) Tryz.f123 (Tryz.f123.body.getD .skip) [.sc (.slc a b c),.sc (.int .i64 d),.sc (.val e)] f) h) Tryz.func123 (by kernel_rfl) (fun a w=>Tryz.call123 a w) (by kernel_rfl) (by kernel_rfl) rfl rfl
def zwg(l:Option Addr)(m n:Nat)(o p q r:Int)(s:World)(t:Value->World->Prop):Prop:=
 ∀b,Ext s b->New b 44 [(.int .i64 p),(.int .i64 q),(.int .i64 r)] fun i j=>∀a,Ext j a->FnP Tryz.prog ze7 #[(.slice l m n),(.int .i64 o),(.func (.func 124) #[] #[(.pointer i)])] a fun k h=>Ext a h/\∃c d e f,k=(.tuple #[(.slice c d e),(.int .i64 f)])/\∀g,Ext h g->t (.tuple #[(.slice c d e),(.int .i64 f)]) g
theorem zvp(a:Option Addr)(b c:Nat)(d e f g:Int)(i:World)(j:Value->World->Prop)(h:zwg a b c d e f g i j):FnP Tryz.prog zkm #[(.slice a b c),(.int .i64 d),(.agg #[(.int .i64 e),(.int .i64 f),(.int .i64 g)])] i j:=
 zab (Eq.mp (by kernel_rfl:_=Runs Tryz.prog j ({N:=14,pub:=[5]}:Cfg) Tryz.f73 (Tryz.f73.body.getD .skip) [.sc (.slc a b c),.sc (.int .i64 d),.agg [.int .i64 e,.int .i64 f,.int .i64 g]] i) h) Tryz.func73 (by kernel_rfl) (fun a w=>Tryz.call73 a w) (by kernel_rfl) (by kernel_rfl) rfl rfl
def zrq(R:ByteArray)(S:Option Addr)(T U:Nat)(N O P v w x:Int)(b:Option Addr)(a:World)(y:Value->World->Prop):Prop:=
 ∀z:Nat,a.heap.size<=z->∀A:Nat,a.heap.size<=A->∀d,Ext a d->FnP Tryz.prog zcy #[(.agg #[(.int .i64 N),(.int .i64 O),(.int .i64 P)]),(.agg #[(.int .i64 v),(.int .i64 w),(.int .i64 x)])] d fun H I=>Ext d I/\∃g h i B,H=(.tuple #[(.agg #[(.int .i64 g),(.int .i64 h),(.int .i64 i)]),(.int .i64 B)])/\∀C:Nat,a.heap.size<=C->b≠none/\∃j,cell a b 0=some (.int .i64 j)/\∃k,cell a b 1=some (.int .i64 k)/\∃l,cell a b 2=some (.int .i64 l)/\∀e,Ext a e->FnP Tryz.prog zcy #[(.agg #[(.int .i64 g),(.int .i64 h),(.int .i64 i)]),(.agg #[(.int .i64 j),(.int .i64 k),(.int .i64 l)])] e fun J K=>Ext e K/\∃D E F c,J=(.tuple #[(.agg #[(.int .i64 D),(.int .i64 E),(.int .i64 F)]),(.int .i64 c)])/\∀G:Nat,a.heap.size<=G->((c≠0)->∀m,Ext a m->y (.tuple #[(.agg #[(.int .i64 0),(.int .i64 0),(.int .i64 0)]),(.int .i64 c)]) m)/\((c=0)->b≠none/\∃n,cell a b 0=some (.int .i64 n)/\∃o,cell a b 1=some (.int .i64 o)/\∃p,cell a b 2=some (.int .i64 p)/\∀f,Ext a f->FnP Tryz.prog zjy #[(.agg #[(.int .i64 v),(.int .i64 w),(.int .i64 x)]),(.agg #[(.int .i64 n),(.int .i64 o),(.int .i64 p)])] f fun L M=>Ext f M/\∃q r s t,L=(.tuple #[(.agg #[(.int .i64 q),(.int .i64 r),(.int .i64 s)]),(.int .i64 t)])/\∀u,Ext a u->y (.tuple #[(.agg #[(.int .i64 q),(.int .i64 r),(.int .i64 s)]),(.int .i64 t)]) u)
theorem zq0(a:ByteArray)(b:Option Addr)(c d:Nat)(e f g i j k:Int)(l:Option Addr)(m:World)(n:Value->World->Prop)(h:zrq a b c d e f g i j k l m n):FnP Tryz.prog zhp #[(.agg #[(.string a),(.slice b c d),(.int .i64 e),(.int .i64 f),(.int .i64 g),(.int .i64 i),(.int .i64 j),(.int .i64 k)]),(.pointer l)] m n:=
 zab (Eq.mp (by kernel_rfl:_=Runs Tryz.prog n ({N:=33}:Cfg) Tryz.f124 (Tryz.f124.body.getD .skip) [.agg [.str a,.slc b c d,.int .i64 e,.int .i64 f,.int .i64 g,.int .i64 i,.int .i64 j,.int .i64 k],.sc (.ptr l)] m) h) Tryz.func124 (by kernel_rfl) (fun a w=>Tryz.call124 a w) (by kernel_rfl) (by kernel_rfl) rfl rfl
def zwf(l:Option Addr)(m n:Nat)(o p q r:Int)(s:World)(t:Value->World->Prop):Prop:=
 ∀b,Ext s b->New b 44 [(.int .i64 p),(.int .i64 q),(.int .i64 r)] fun i j=>∀a,Ext j a->FnP Tryz.prog ze7 #[(.slice l m n),(.int .i64 o),(.func (.func 170) #[] #[(.pointer i)])] a fun k h=>Ext a h/\∃c d e f,k=(.tuple #[(.slice c d e),(.int .i64 f)])/\∀g,Ext h g->t (.tuple #[(.slice c d e),(.int .i64 f)]) g
theorem zvo(a:Option Addr)(b c:Nat)(d e f g:Int)(i:World)(j:Value->World->Prop)(h:zwf a b c d e f g i j):FnP Tryz.prog zkl #[(.slice a b c),(.int .i64 d),(.agg #[(.int .i64 e),(.int .i64 f),(.int .i64 g)])] i j:=
 zab (Eq.mp (by kernel_rfl:_=Runs Tryz.prog j ({N:=14,pub:=[5]}:Cfg) Tryz.f125 (Tryz.f125.body.getD .skip) [.sc (.slc a b c),.sc (.int .i64 d),.agg [.int .i64 e,.int .i64 f,.int .i64 g]] i) h) Tryz.func125 (by kernel_rfl) (fun a w=>Tryz.call125 a w) (by kernel_rfl) (by kernel_rfl) rfl rfl
def zrp(t:ByteArray)(u:Option Addr)(v w:Nat)(x y z p q r:Int)(b:Option Addr)(a:World)(s:Value->World->Prop):Prop:=
 ∀l:Nat,a.heap.size<=l->∀m:Nat,a.heap.size<=m->b≠none/\∃d,cell a b 0=some (.int .i64 d)/\∃e,cell a b 1=some (.int .i64 e)/\∃f,cell a b 2=some (.int .i64 f)/\∀c,Ext a c->FnP Tryz.prog zcy #[(.agg #[(.int .i64 p),(.int .i64 q),(.int .i64 r)]),(.agg #[(.int .i64 d),(.int .i64 e),(.int .i64 f)])] c fun n o=>Ext c o/\∃g h i j,n=(.tuple #[(.agg #[(.int .i64 g),(.int .i64 h),(.int .i64 i)]),(.int .i64 j)])/\∀k,Ext a k->s (.tuple #[(.agg #[(.int .i64 g),(.int .i64 h),(.int .i64 i)]),(.int .i64 j)]) k
theorem zqZ(a:ByteArray)(b:Option Addr)(c d:Nat)(e f g i j k:Int)(l:Option Addr)(m:World)(n:Value->World->Prop)(h:zrp a b c d e f g i j k l m n):FnP Tryz.prog zho #[(.agg #[(.string a),(.slice b c d),(.int .i64 e),(.int .i64 f),(.int .i64 g),(.int .i64 i),(.int .i64 j),(.int .i64 k)]),(.pointer l)] m n:=
 zab (Eq.mp (by kernel_rfl:_=Runs Tryz.prog n ({N:=11}:Cfg) Tryz.f170 (Tryz.f170.body.getD .skip) [.agg [.str a,.slc b c d,.int .i64 e,.int .i64 f,.int .i64 g,.int .i64 i,.int .i64 j,.int .i64 k],.sc (.ptr l)] m) h) Tryz.func170 (by kernel_rfl) (fun a w=>Tryz.call170 a w) (by kernel_rfl) (by kernel_rfl) rfl rfl
def zyn(c:Option Addr)(s aD:Nat)(aa:Int)(ab ac:ByteArray)(ad:Int)(ae:Option Addr)(af ag:Nat)(ah ai aj:Int)(d:World)(t:Value->World->Prop):Prop:=
 ∀j:Nat,d.heap.size<=j->∀k:Nat,d.heap.size<=k->∀u,Ext d u->FnP Tryz.prog zcf #[(.slice c s aD)] u fun an ao=>Ext u ao/\∃l,an=(.int .i64 l)/\((l≠0)->∀h,Ext d h->t (.tuple #[(.slice none 0 0),(.int .i64 l)]) h)/\((l=0)->∀h,Ext d h->FnP Tryz.prog zec #[(.agg #[(.int .i64 aa),(.string ab),(.string ac),(.int .i64 ad),(.slice ae af ag)])] h fun ap aq=>Ext h aq/\∃m,ap=(.int .i64 m)/\((m≠0)->∀i,Ext d i->t (.tuple #[(.slice none 0 0),(.int .i64 m)]) i)/\((m=0)->∀i,Ext d i->FnP Tryz.prog zbh #[(.agg #[(.int .i64 ah),(.int .i64 ai),(.int .i64 aj)])] i fun ar au=>Ext i au/\∃n,ar=(.int .i64 n)/\((n≠0)->∀M,Ext d M->t (.tuple #[(.slice none 0 0),(.int .i64 n)]) M)/\((n=0)->∃(q:Option Addr->Nat->Nat->Int->World->Prop) (r:Option Addr->Nat->Nat->Int->World->Nat),q none 0 0 0 d/\∀(e:Option Addr)(f:Nat)(g:Nat)(a:Int)(b:World),q e f g a b->(((a<(s:Int))->c≠none/\(0:Int)<=a/\(a:Int)<(s:Int)/\(pIdx c a 8)≠none/\∃N,cell b (pIdx c a 8) 0=some (.string N)/\∃O P R,cell b (pIdx c a 8) 1=some (.slice O P R)/\∃v,cell b (pIdx c a 8) 2=some (.int .i64 v)/\∃w,cell b (pIdx c a 8) 3=some (.int .i64 w)/\∃x,cell b (pIdx c a 8) 4=some (.int .i64 x)/\∃y,cell b (pIdx c a 8) 5=some (.int .i64 y)/\∃z,cell b (pIdx c a 8) 6=some (.int .i64 z)/\∃A,cell b (pIdx c a 8) 7=some (.int .i64 A)/\∀o:Nat,b.heap.size<=o->∀B,Ext b B->FnP Tryz.prog zcy #[(.agg #[(.int .i64 v),(.int .i64 w),(.int .i64 x)]),(.agg #[(.int .i64 y),(.int .i64 z),(.int .i64 A)])] B fun av aw=>Ext B aw/\∃S T U ak,av=(.tuple #[(.agg #[(.int .i64 S),(.int .i64 T),(.int .i64 U)]),(.int .i64 ak)])/\∀p:Nat,b.heap.size<=p->∀C,Ext b C->FnP Tryz.prog zki #[(.agg #[(.int .i64 aa),(.string ab),(.string ac),(.int .i64 ad),(.slice ae af ag)]),(.agg #[(.string N),(.slice O P R),(.int .i64 v),(.int .i64 w),(.int .i64 x),(.int .i64 y),(.int .i64 z),(.int .i64 A)])] C fun ax ay=>Ext C ay/\∃D al,ax=(.tuple #[(.bool D),(.int .i64 al)])/\∀E,Ext b E->FnP Tryz.prog zhr #[(.agg #[(.int .i64 ah),(.int .i64 ai),(.int .i64 aj)]),(.agg #[(.int .i64 S),(.int .i64 T),(.int .i64 U)])] E fun az aA=>Ext E aA/\∃F am,az=(.tuple #[(.bool F),(.int .i64 am)])/\((((D=true)/\(F=true))->∀G,zag [] [j,k,o,p] b G->Run Tryz.prog (.buildSlice 48 1 [(0,(.int .i64 a))]) G fun aB Z=>Ext G Z/\∃V W X,aB=(.slice V W X)/\∀H,zag [] [j,k,o,p] Z H->Run Tryz.prog (.append #[48,48] 48 [(.slice e f g),(.slice V W X)]) H fun aC L=>zbK [j,k,o,p] H L/\∃I J K,aC=(.slice I J K)/\InR .i64 (a+1)/\(q I J K (a+1) L/\r I J K (a+1) L<r e f g a b)))/\(((D=false)\/(F=false))->InR .i64 (a+1)/\(q e f g (a+1) b/\r e f g (a+1) b<r e f g a b))))/\(((s:Int)<=a)->∀Y,Ext b Y->t (.tuple #[(.slice e f g),(.int .i64 0)]) Y))))
theorem zxI(a:Option Addr)(b c:Nat)(d:Int)(e f:ByteArray)(g:Int)(i:Option Addr)(j k:Nat)(l m n:Int)(o:World)(p:Value->World->Prop)(h:zyn a b c d e f g i j k l m n o p):FnP Tryz.prog zmn #[(.slice a b c),(.agg #[(.int .i64 d),(.string e),(.string f),(.int .i64 g),(.slice i j k)]),(.agg #[(.int .i64 l),(.int .i64 m),(.int .i64 n)])] o p:=
 zab (Eq.mp (by kernel_rfl:_=Runs Tryz.prog p ({N:=72}:Cfg) Tryz.f59 (Tryz.f59.body.getD .skip) [.sc (.slc a b c),.agg [.int .i64 d,.str e,.str f,.int .i64 g,.slc i j k],.agg [.int .i64 l,.int .i64 m,.int .i64 n]] o) h) Tryz.func59 (by kernel_rfl) (fun a w=>Tryz.call59 a w) (by kernel_rfl) (by kernel_rfl) rfl rfl
def zwd(z:Option Addr)(A B:Nat)(C:Int)(D E:ByteArray)(F:Int)(G:Option Addr)(H I:Nat)(J K L:Int)(M:World)(j:Value->World->Prop):Prop:=
 ∀k,Ext M k->New k 34 [(.slice z A B)] fun s f=>∀b:Nat,f.heap.size<=b->∀c:Nat,f.heap.size<=c->∃l m n,cell f s 0=some (.slice l m n)/\∀h,zag [] [b,c] f h->FnP Tryz.prog zmn #[(.slice l m n),(.agg #[(.int .i64 C),(.string D),(.string E),(.int .i64 F),(.slice G H I)]),(.agg #[(.int .i64 J),(.int .i64 K),(.int .i64 L)])] h fun v g=>Ext h g/\∃o d p e,v=(.tuple #[(.slice o d p),(.int .i64 e)])/\((e≠0)->∀a,Ext g a->j (.tuple #[(.int .i64 0),(.int .i64 e)]) a)/\((e=0)->(((d:Int)=0)->∀a,Ext g a->j (.tuple #[(.int .i64 0),(.int .i64 5)]) a)/\(((d:Int)≠0)->∀a,zag [] [b,c] g a->New a 131 [.nilFunc] fun t w=>zan w t [(.func (.func 60) #[] #[(.pointer s)])] [b,c] fun u=>∀i,Ext u i->FnP Tryz.prog zb6 #[(.slice o d p),(.func (.func 63) #[] #[(.pointer t)])] i fun x y=>Ext i y/\∃q,x=(.int .i64 q)/\∀r,Ext u r->j (.tuple #[(.int .i64 q),(.int .i64 0)]) r))
theorem zvm(a:Option Addr)(b c:Nat)(d:Int)(e f:ByteArray)(g:Int)(i:Option Addr)(j k:Nat)(l m n:Int)(o:World)(p:Value->World->Prop)(h:zwd a b c d e f g i j k l m n o p):FnP Tryz.prog zfp #[(.slice a b c),(.agg #[(.int .i64 d),(.string e),(.string f),(.int .i64 g),(.slice i j k)]),(.agg #[(.int .i64 l),(.int .i64 m),(.int .i64 n)])] o p:=
 zab (Eq.mp (by kernel_rfl:_=Runs Tryz.prog p ({N:=30,pub:=[3,10]}:Cfg) Tryz.f20 (Tryz.f20.body.getD .skip) [.sc (.slc a b c),.agg [.int .i64 d,.str e,.str f,.int .i64 g,.slc i j k],.agg [.int .i64 l,.int .i64 m,.int .i64 n]] o) h) Tryz.func20 (by kernel_rfl) (fun a w=>Tryz.call20 a w) (by kernel_rfl) (by kernel_rfl) rfl rfl
def zrn(a:Int)(I:Option Addr)(b:World)(R:Value->World->Prop):Prop:=
 ∀e:Nat,b.heap.size<=e->∃(r:Option Addr->Int->World->Prop),(∃c s J,cell b I 0=some (.slice c s J)/\c≠none/\(0:Int)<=a/\(a:Int)<(s:Int)/\(pIdx c a 8)≠none/\(pAdd (pIdx c a 8) 2)≠none/\∃j,cell b (pAdd (pIdx c a 8) 2) 0=some (.int .i64 j)/\∃k,cell b (pAdd (pIdx c a 8) 2) 1=some (.int .i64 k)/\∃l,cell b (pAdd (pIdx c a 8) 2) 2=some (.int .i64 l)/\∃d t K,cell b I 0=some (.slice d t K)/\d≠none/\(0:Int)<=a/\(a:Int)<(t:Int)/\(pIdx d a 8)≠none/\(pAdd (pIdx d a 8) 5)≠none/\∃m,cell b (pAdd (pIdx d a 8) 5) 0=some (.int .i64 m)/\∃n,cell b (pAdd (pIdx d a 8) 5) 1=some (.int .i64 n)/\∃o,cell b (pAdd (pIdx d a 8) 5) 2=some (.int .i64 o)/\(∀f,Ext b f->FnP Tryz.prog zcy #[(.agg #[(.int .i64 j),(.int .i64 k),(.int .i64 l)]),(.agg #[(.int .i64 m),(.int .i64 n),(.int .i64 o)])] f fun L i=>Ext f i/\∃u v w x,L=(.tuple #[(.agg #[(.int .i64 u),(.int .i64 v),(.int .i64 w)]),(.int .i64 x)])/\∀y,zag [] [e] b y->New y 44 [(.int .i64 0),(.int .i64 0),(.int .i64 0)] fun G M=>zan M G [(.int .i64 u),(.int .i64 v),(.int .i64 w)] [e] fun q=>r G x q)/\∀f,zag [] [e] b f->New f 44 [(.int .i64 0),(.int .i64 0),(.int .i64 0)] fun H i=>∀p,Ext i p->FnP Tryz.prog zcy #[(.agg #[(.int .i64 j),(.int .i64 k),(.int .i64 l)]),(.agg #[(.int .i64 m),(.int .i64 n),(.int .i64 o)])] p fun N O=>Ext p O/\∃z A B C,N=(.tuple #[(.agg #[(.int .i64 z),(.int .i64 A),(.int .i64 B)]),(.int .i64 C)])/\zan i H [(.int .i64 z),(.int .i64 A),(.int .i64 B)] [e] fun q=>r H C q)/\∀(g:Option Addr)(P:Int)(h:World),r g P h->g≠none/\∃c,cell h g 0=some (.int .i64 c)/\∃D,cell h g 1=some (.int .i64 D)/\∃E,cell h g 2=some (.int .i64 E)/\∀F,zag [e] [] h F->R (.agg #[(.int .i64 c),(.int .i64 D),(.int .i64 E)]) F
theorem zqX(a:Int)(b:Option Addr)(c:World)(d:Value->World->Prop)(h:zrn a b c d):FnP Tryz.prog zc0 #[(.int .i64 a),(.pointer b)] c d:=
 zab (Eq.mp (by kernel_rfl:_=Runs Tryz.prog d ({N:=21,pub:=[4]}:Cfg) Tryz.f60 (Tryz.f60.body.getD .skip) [.sc (.int .i64 a),.sc (.ptr b)] c) h) Tryz.func60 (by kernel_rfl) (fun a w=>Tryz.call60 a w) (by kernel_rfl) (by kernel_rfl) rfl rfl
def zro(X A:Int)(ap:Option Addr)(B:World)(ay:Value->World->Prop):Prop:=
 ∃(r:Option Addr->Option Addr->World->Prop),(∃C,cell B ap 0=some C/\∃l,cell B ap 0=some l/\(∀D,Ext B D->zil Tryz.prog C [(.int .i64 X)] D fun aq p=>Ext D p/\∃H I J,aq=(.agg #[(.int .i64 H),(.int .i64 I),(.int .i64 J)])/\(∀m,Ext B m->zil Tryz.prog l [(.int .i64 A)] m fun ar E=>Ext m E/\∃Y Z aa,ar=(.agg #[(.int .i64 Y),(.int .i64 Z),(.int .i64 aa)])/\(∀e,Ext B e->New e 44 [(.int .i64 0),(.int .i64 0),(.int .i64 0)] fun T U=>∀g,Ext U g->New g 44 [(.int .i64 0),(.int .i64 0),(.int .i64 0)] fun k n=>zan n T [(.int .i64 H),(.int .i64 I),(.int .i64 J)] [] fun b=>zan b k [(.int .i64 Y),(.int .i64 Z),(.int .i64 aa)] [] fun d=>r T k d)/\∀e,Ext B e->New e 44 [(.int .i64 0),(.int .i64 0),(.int .i64 0)] fun T U=>∀g,Ext U g->New g 44 [(.int .i64 0),(.int .i64 0),(.int .i64 0)] fun k n=>zan n k [(.int .i64 H),(.int .i64 I),(.int .i64 J)] [] fun b=>zan b T [(.int .i64 Y),(.int .i64 Z),(.int .i64 aa)] [] fun d=>r k T d)/\(∀m,Ext B m->New m 44 [(.int .i64 0),(.int .i64 0),(.int .i64 0)] fun F E=>(∀a,Ext E a->zil Tryz.prog l [(.int .i64 A)] a fun G f=>Ext a f/\∃s t u,G=(.agg #[(.int .i64 s),(.int .i64 t),(.int .i64 u)])/\∀g,Ext E g->New g 44 [(.int .i64 0),(.int .i64 0),(.int .i64 0)] fun k n=>zan n F [(.int .i64 H),(.int .i64 I),(.int .i64 J)] [] fun b=>zan b k [(.int .i64 s),(.int .i64 t),(.int .i64 u)] [] fun d=>r F k d)/\∀a,Ext E a->New a 44 [(.int .i64 0),(.int .i64 0),(.int .i64 0)] fun w f=>∀c,Ext f c->zil Tryz.prog l [(.int .i64 A)] c fun x e=>Ext c e/\∃h i j,x=(.agg #[(.int .i64 h),(.int .i64 i),(.int .i64 j)])/\zan f F [(.int .i64 H),(.int .i64 I),(.int .i64 J)] [] fun b=>zan b w [(.int .i64 h),(.int .i64 i),(.int .i64 j)] [] fun d=>r F w d)/\∀m,Ext B m->New m 44 [(.int .i64 0),(.int .i64 0),(.int .i64 0)] fun F E=>(∀a,Ext E a->zil Tryz.prog l [(.int .i64 A)] a fun G f=>Ext a f/\∃s t u,G=(.agg #[(.int .i64 s),(.int .i64 t),(.int .i64 u)])/\∀g,Ext E g->New g 44 [(.int .i64 0),(.int .i64 0),(.int .i64 0)] fun k n=>zan n k [(.int .i64 H),(.int .i64 I),(.int .i64 J)] [] fun b=>zan b F [(.int .i64 s),(.int .i64 t),(.int .i64 u)] [] fun d=>r k F d)/\∀a,Ext E a->New a 44 [(.int .i64 0),(.int .i64 0),(.int .i64 0)] fun w f=>∀c,Ext f c->zil Tryz.prog l [(.int .i64 A)] c fun x e=>Ext c e/\∃h i j,x=(.agg #[(.int .i64 h),(.int .i64 i),(.int .i64 j)])/\zan f w [(.int .i64 H),(.int .i64 I),(.int .i64 J)] [] fun b=>zan b F [(.int .i64 h),(.int .i64 i),(.int .i64 j)] [] fun d=>r w F d)/\(∀D,Ext B D->New D 44 [(.int .i64 0),(.int .i64 0),(.int .i64 0)] fun q p=>(∀o,Ext p o->zil Tryz.prog C [(.int .i64 X)] o fun ac y=>Ext o y/\∃K L M,ac=(.agg #[(.int .i64 K),(.int .i64 L),(.int .i64 M)])/\(∀a,Ext p a->zil Tryz.prog l [(.int .i64 A)] a fun G f=>Ext a f/\∃s t u,G=(.agg #[(.int .i64 s),(.int .i64 t),(.int .i64 u)])/\∀g,Ext p g->New g 44 [(.int .i64 0),(.int .i64 0),(.int .i64 0)] fun k n=>zan n q [(.int .i64 K),(.int .i64 L),(.int .i64 M)] [] fun b=>zan b k [(.int .i64 s),(.int .i64 t),(.int .i64 u)] [] fun d=>r q k d)/\∀a,Ext p a->New a 44 [(.int .i64 0),(.int .i64 0),(.int .i64 0)] fun w f=>∀c,Ext f c->zil Tryz.prog l [(.int .i64 A)] c fun x e=>Ext c e/\∃h i j,x=(.agg #[(.int .i64 h),(.int .i64 i),(.int .i64 j)])/\zan f q [(.int .i64 K),(.int .i64 L),(.int .i64 M)] [] fun b=>zan b w [(.int .i64 h),(.int .i64 i),(.int .i64 j)] [] fun d=>r q w d)/\∀o,Ext p o->New o 44 [(.int .i64 0),(.int .i64 0),(.int .i64 0)] fun V y=>∀v,Ext y v->zil Tryz.prog C [(.int .i64 X)] v fun W m=>Ext v m/\∃P R S,W=(.agg #[(.int .i64 P),(.int .i64 R),(.int .i64 S)])/\∀c,Ext y c->zil Tryz.prog l [(.int .i64 A)] c fun x e=>Ext c e/\∃h i j,x=(.agg #[(.int .i64 h),(.int .i64 i),(.int .i64 j)])/\zan y q [(.int .i64 P),(.int .i64 R),(.int .i64 S)] [] fun b=>zan b V [(.int .i64 h),(.int .i64 i),(.int .i64 j)] [] fun d=>r q V d)/\∀D,Ext B D->New D 44 [(.int .i64 0),(.int .i64 0),(.int .i64 0)] fun q p=>(∀o,Ext p o->zil Tryz.prog C [(.int .i64 X)] o fun ac y=>Ext o y/\∃K L M,ac=(.agg #[(.int .i64 K),(.int .i64 L),(.int .i64 M)])/\(∀a,Ext p a->zil Tryz.prog l [(.int .i64 A)] a fun G f=>Ext a f/\∃s t u,G=(.agg #[(.int .i64 s),(.int .i64 t),(.int .i64 u)])/\∀g,Ext p g->New g 44 [(.int .i64 0),(.int .i64 0),(.int .i64 0)] fun k n=>zan n k [(.int .i64 K),(.int .i64 L),(.int .i64 M)] [] fun b=>zan b q [(.int .i64 s),(.int .i64 t),(.int .i64 u)] [] fun d=>r k q d)/\∀a,Ext p a->New a 44 [(.int .i64 0),(.int .i64 0),(.int .i64 0)] fun w f=>∀c,Ext f c->zil Tryz.prog l [(.int .i64 A)] c fun x e=>Ext c e/\∃h i j,x=(.agg #[(.int .i64 h),(.int .i64 i),(.int .i64 j)])/\zan f w [(.int .i64 K),(.int .i64 L),(.int .i64 M)] [] fun b=>zan b q [(.int .i64 h),(.int .i64 i),(.int .i64 j)] [] fun d=>r w q d)/\∀o,Ext p o->New o 44 [(.int .i64 0),(.int .i64 0),(.int .i64 0)] fun V y=>∀v,Ext y v->zil Tryz.prog C [(.int .i64 X)] v fun W m=>Ext v m/\∃P R S,W=(.agg #[(.int .i64 P),(.int .i64 R),(.int .i64 S)])/\∀c,Ext y c->zil Tryz.prog l [(.int .i64 A)] c fun x e=>Ext c e/\∃h i j,x=(.agg #[(.int .i64 h),(.int .i64 i),(.int .i64 j)])/\zan y V [(.int .i64 P),(.int .i64 R),(.int .i64 S)] [] fun b=>zan b q [(.int .i64 h),(.int .i64 i),(.int .i64 j)] [] fun d=>r V q d)/\∀(N:Option Addr)(O:Option Addr)(z:World),r N O z->N≠none/\∃C,cell z (pAdd N 0) 0=some (.int .i64 C)/\O≠none/\∃l,cell z (pAdd O 0) 0=some (.int .i64 l)/\N≠none/\∃ad,cell z (pAdd N 1) 0=some (.int .i64 ad)/\O≠none/\∃ae,cell z (pAdd O 1) 0=some (.int .i64 ae)/\N≠none/\∃af,cell z (pAdd N 2) 0=some (.int .i64 af)/\O≠none/\∃ag,cell z (pAdd O 2) 0=some (.int .i64 ag)/\∀v,Ext z v->FnP Tryz.prog zbx #[(.int .i64 C),(.int .i64 l)] v fun W m=>Ext v m/\∃ah,W=(.int .i64 ah)/\∀a,Ext z a->FnP Tryz.prog zbx #[(.int .i64 ad),(.int .i64 ae)] a fun G f=>Ext a f/\∃ai,G=(.int .i64 ai)/\∀e,Ext z e->FnP Tryz.prog zbx #[(.int .i64 af),(.int .i64 ag)] e fun au U=>Ext e U/\∃aj,au=(.int .i64 aj)/\∀n,Ext z n->Run Tryz.prog (.buildSlice 48 3 [(0,(.int .i64 ah)),(1,(.int .i64 ai)),(2,(.int .i64 aj))]) n fun av b=>Ext n b/\∃ak al am,av=(.slice ak al am)/\∀ab,Ext b ab->FnP Tryz.prog ziM #[(.slice ak al am)] ab fun aw ax=>Ext ab ax/\∃an,aw=(.int .i64 an)/\∀ao,Ext b ao->ay (.int .i64 an) ao
theorem zqY(a b:Int)(c:Option Addr)(d:World)(e:Value->World->Prop)(h:zro a b c d e):FnP Tryz.prog zhn #[(.int .i64 a),(.int .i64 b),(.pointer c)] d e:=
 zab (Eq.mp (by kernel_rfl:_=Runs Tryz.prog e ({N:=31,pub:=[6,7]}:Cfg) Tryz.f63 (Tryz.f63.body.getD .skip) [.sc (.int .i64 a),.sc (.int .i64 b),.sc (.ptr c)] d) h) Tryz.func63 (by kernel_rfl) (fun a w=>Tryz.call63 a w) (by kernel_rfl) (by kernel_rfl) rfl rfl
def zgN(e:Option Addr)(d w:Nat)(u:Value)(l:World)(v:Value->World->Prop):Prop:=
 ((((d:Int)<1)->∀h,Ext l h->Run Tryz.prog (.makeInterface 9 (.string (⟨#[115,108,105,99,101,115,46,77,105,110,70,117,110,99,58,32,101,109,112,116,121,32,108,105,115,116]⟩:ByteArray))) h fun q r=>Ext h r/\∃p,q=p/\zEs))/\((1<=(d:Int))->e≠none/\(0:Int)<=0/\(0:Int)<(d:Int)/\∃m,cell l (pIdx e 0 1) 0=some (.int .i64 m)/\∃(f:Int->Int->World->Prop) (g:Int->Int->World->Nat),f m 1 l/\∀(c:Int)(a:Int)(b:World),f c a b->(((a<(d:Int))->e≠none/\(0:Int)<=a/\(a:Int)<(d:Int)/\∃n,cell b (pIdx e a 1) 0=some (.int .i64 n)/\∀i,Ext b i->zil Tryz.prog u [(.int .i64 n),(.int .i64 c)] i fun s t=>Ext i t/\∃j,s=(.int .i64 j)/\(((j<0)->e≠none/\(0:Int)<=a/\(a:Int)<(d:Int)/\∃k,cell b (pIdx e a 1) 0=some (.int .i64 k)/\InR .i64 (a+1)/\(f k (a+1) b/\g k (a+1) b<g c a b)))/\((0<=j)->InR .i64 (a+1)/\(f c (a+1) b/\g c (a+1) b<g c a b))))/\(((d:Int)<=a)->∀o,Ext b o->v (.int .i64 c) o))
theorem zgD(a:Option Addr)(b c:Nat)(d:Value)(e:World)(f:Value->World->Prop)(h:zgN a b c d e f):FnP Tryz.prog zb6 #[(.slice a b c),d] e f:=
 zab (Eq.mp (by kernel_rfl:_=Runs Tryz.prog f ({N:=33}:Cfg) Tryz.f62 (Tryz.f62.body.getD .skip) [.sc (.slc a b c),.sc (.val d)] e) h) Tryz.func62 (by kernel_rfl) (fun a w=>Tryz.call62 a w) (by kernel_rfl) (by kernel_rfl) rfl rfl
def ztJ(i:Option Addr)(e l:Nat)(k:World)(j:Value->World->Prop):Prop:=
 ∃(d:Int->World->Prop) (h:Int->World->Nat),d 0 k/\∀(a:Int)(b:World),d a b->(((a<(e:Int))->i≠none/\(0:Int)<=a/\(a:Int)<(e:Int)/\∃c,cell b (pIdx i a 1) 0=some (.int .i64 c)/\((c≠0)->∀f,Ext b f->j (.int .i64 c) f)/\((c=0)->InR .i64 (a+1)/\(d (a+1) b/\h (a+1) b<h a b))))/\(((e:Int)<=a)->∀g,Ext b g->j (.int .i64 0) g)
theorem zta(a:Option Addr)(b c:Nat)(d:World)(e:Value->World->Prop)(h:ztJ a b c d e):FnP Tryz.prog ziM #[(.slice a b c)] d e:=
 zab (Eq.mp (by kernel_rfl:_=Runs Tryz.prog e ({N:=18}:Cfg) Tryz.f64 (Tryz.f64.body.getD .skip) [.sc (.slc a b c)] d) h) Tryz.func64 (by kernel_rfl) (fun a w=>Tryz.call64 a w) (by kernel_rfl) (by kernel_rfl) rfl rfl
def zjZ(e f:Int)(b:World)(c:Value->World->Prop):Prop:=
 ∀g,Ext b g->FnP Tryz.prog zcW #[(.int .i64 e)] g fun j k=>Ext g k/\∃h,j=(.bool h)/\∀i,Ext b i->FnP Tryz.prog zcW #[(.int .i64 f)] i fun l m=>Ext i m/\∃d,l=(.bool d)/\(((h=true)->((d=true)->∀a,Ext b a->c (.int .i64 0) a)/\((d=false)->∀a,Ext b a->c (.int .i64 (-1)) a)))/\((h=false)->((d=true)->∀a,Ext b a->c (.int .i64 1) a)/\((d=false)->((e<f)->∀a,Ext b a->c (.int .i64 (-1)) a)/\((f<=e)->((f<e)->∀a,Ext b a->c (.int .i64 1) a)/\((e<=f)->∀a,Ext b a->c (.int .i64 0) a))))
theorem zjT(a b:Int)(c:World)(d:Value->World->Prop)(h:zjZ a b c d):FnP Tryz.prog zbx #[(.int .i64 a),(.int .i64 b)] c d:=
 zab (Eq.mp (by kernel_rfl:_=Runs Tryz.prog d ({N:=20}:Cfg) Tryz.f65 (Tryz.f65.body.getD .skip) [.sc (.int .i64 a),.sc (.int .i64 b)] c) h) Tryz.func65 (by kernel_rfl) (fun a w=>Tryz.call65 a w) (by kernel_rfl) (by kernel_rfl) rfl rfl
def zl7(b:Int)(c:World)(d:Value->World->Prop):Prop:=
 ∀a,Ext c a->d (.bool (decide (b≠b))) a
theorem zlI(a:Int)(b:World)(c:Value->World->Prop)(h:zl7 a b c):FnP Tryz.prog zcW #[(.int .i64 a)] b c:=
 zab (Eq.mp (by kernel_rfl:_=Runs Tryz.prog c ({N:=6}:Cfg) Tryz.f116 (Tryz.f116.body.getD .skip) [.sc (.int .i64 a)] b) h) Tryz.func116 (by kernel_rfl) (fun a w=>Tryz.call116 a w) (by kernel_rfl) (by kernel_rfl) rfl rfl
def zeM(g:Option Addr)(h i:Nat)(j:Value)(d:World)(k:Value->World->Prop):Prop:=
 ∀a,Ext d a->FnP Tryz.prog zbJ #[(.slice g h i),j] a fun e f=>Ext a f/\∃b,e=(.int .i64 b)/\∀c,Ext d c->k (.bool (decide (0<=b))) c
theorem zeI(a:Option Addr)(b c:Nat)(d:Value)(e:World)(f:Value->World->Prop)(h:zeM a b c d e f):FnP Tryz.prog zaV #[(.slice a b c),d] e f:=
 zab (Eq.mp (by kernel_rfl:_=Runs Tryz.prog f ({N:=9}:Cfg) Tryz.f119 (Tryz.f119.body.getD .skip) [.sc (.slc a b c),.sc (.val d)] e) h) Tryz.func119 (by kernel_rfl) (fun a w=>Tryz.call119 a w) (by kernel_rfl) (by kernel_rfl) rfl rfl
def zfO(k:Option Addr)(f q:Nat)(o:Value)(p:World)(l:Value->World->Prop):Prop:=
 ∃(e:Int->World->Prop) (j:Int->World->Nat),e 0 p/\∀(a:Int)(b:World),e a b->(((a<(f:Int))->k≠none/\(0:Int)<=a/\(a:Int)<(f:Int)/\∃g,cell b (pIdx k a 1) 0=some (.int .i64 g)/\∀c,Ext b c->zil Tryz.prog o [(.int .i64 g)] c fun m n=>Ext c n/\∃d,m=(.bool d)/\((d=true)->∀h,Ext b h->l (.int .i64 a) h)/\((d=false)->InR .i64 (a+1)/\(e (a+1) b/\j (a+1) b<j a b))))/\(((f:Int)<=a)->∀i,Ext b i->l (.int .i64 (-1)) i)
theorem zfE(a:Option Addr)(b c:Nat)(d:Value)(e:World)(f:Value->World->Prop)(h:zfO a b c d e f):FnP Tryz.prog zbJ #[(.slice a b c),d] e f:=
 zab (Eq.mp (by kernel_rfl:_=Runs Tryz.prog f ({N:=19}:Cfg) Tryz.f166 (Tryz.f166.body.getD .skip) [.sc (.slc a b c),.sc (.val d)] e) h) Tryz.func166 (by kernel_rfl) (fun a w=>Tryz.call166 a w) (by kernel_rfl) (by kernel_rfl) rfl rfl
def zd4(b:Option Addr)(q r:Nat)(l:World)(m:Value->World->Prop):Prop:=
 ((b=none)->∀a,Ext l a->m (.slice none 0 0) a)/\((b≠none)->∀a,Ext l a->Run Tryz.prog (.buildSlice 34 0 []) a fun n k=>Ext a k/\∃c d e,n=(.slice c d e)/\∀f,Ext k f->Run Tryz.prog (.append #[34,34] 34 [(.slice c d e),(.slice b q r)]) f fun o p=>∃g h i,o=(.slice g h i)/\∀j,Ext p j->m (.slice g h i) j)
theorem zdX(a:Option Addr)(b c:Nat)(d:World)(e:Value->World->Prop)(h:zd4 a b c d e):FnP Tryz.prog zal #[(.slice a b c)] d e:=
 zab (Eq.mp (by kernel_rfl:_=Runs Tryz.prog e ({N:=8}:Cfg) Tryz.f111 (Tryz.f111.body.getD .skip) [.sc (.slc a b c)] d) h) Tryz.func111 (by kernel_rfl) (fun a w=>Tryz.call111 a w) (by kernel_rfl) (by kernel_rfl) rfl rfl
def zdu(b:Option Addr)(q r:Nat)(l:World)(m:Value->World->Prop):Prop:=
 ((b=none)->∀a,Ext l a->m (.slice none 0 0) a)/\((b≠none)->∀a,Ext l a->Run Tryz.prog (.buildSlice 74 0 []) a fun n k=>Ext a k/\∃c d e,n=(.slice c d e)/\∀f,Ext k f->Run Tryz.prog (.append #[74,74] 74 [(.slice c d e),(.slice b q r)]) f fun o p=>∃g h i,o=(.slice g h i)/\∀j,Ext p j->m (.slice g h i) j)
theorem zds(a:Option Addr)(b c:Nat)(d:World)(e:Value->World->Prop)(h:zdu a b c d e):FnP Tryz.prog zaH #[(.slice a b c)] d e:=
 zab (Eq.mp (by kernel_rfl:_=Runs Tryz.prog e ({N:=8}:Cfg) Tryz.f112 (Tryz.f112.body.getD .skip) [.sc (.slc a b c)] d) h) Tryz.func112 (by kernel_rfl) (fun a w=>Tryz.call112 a w) (by kernel_rfl) (by kernel_rfl) rfl rfl
end Go.Proofs.YtcceeahmcecbnaaGreatDoor
