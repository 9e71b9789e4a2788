/- The framework, the program's texts and what is shown of them: part 2. -/
import Derived.Test.YtcceeahmcecbnaaGreatDoorWDeskAsksUpto1
import Derived.WalkKit
import Derived.ProofKit
import Derived.OpenShut
import Derived.JoinedCond
import Derived.Laws.AppendOwn
import Derived.Laws.OwnMore
import Derived.Great.BuildSlice
import Derived.Laws.StructEq
import Derived.LaidLaws
import Derived.LaidHandle
import Derived.LaidMore
import Derived.SevenTiedAt
import Derived.JoinedOf
import Derived.FnData
import Derived.Test.YtcceeahmcecbnaaGreatDoorRows
set_option linter.unusedVariables false
set_option linter.unusedSimpArgs false
set_option maxRecDepth 100000
namespace Go.Sx
open RowKit
variable {P:Program} {Q:Value->World->Prop}
def zyY:Ex->Exit
 |.normal => .normal
 |.exit id => .exit id
 |.ret => .ret
theorem zm2:∀(sl:List (Nat×Bool×Nat)) (cs:List (Sc (sem P Q))),zaC (zdF sl cs).1=zaC sl
 |[],cs => rfl
 |(i,agg,n)::r,cs => by
  have ih:=zm2 r (zbt n cs)
  cases agg<;>cases cs<;>simp only[zdF,zaC,List.map_cons] at ih ⊢<;>rw[<-ih]
theorem zI5{p:Nat->Prop}(h:∃n,p n):∃n,p n/\∀k,p k->n<=k:=by
 obtain⟨n,hn⟩:=h
 induction n using Nat.strongRecOn with
 |_ n ih =>
  by_cases hl:∃k,k<n/\p k
  ·obtain⟨k,hk,hp⟩:=hl;exact ih k hk hp
  ·exact⟨n,hn,fun k hk=>Nat.le_of_not_lt fun hlt=>hl ⟨k,hlt,hk⟩⟩
noncomputable def zoK (p:Nat->Prop):Nat:=by
 classical exact if h:∃n,p n then Classical.choose (zI5 h) else 0
theorem zm3{p:Nat->Prop}(h:∃n,p n):p (zoK p)/\∀k,p k->zoK p<=k:=by
 have:zoK p=Classical.choose (zI5 h):=by unfold zoK;simp[h]
 rw[this];exact Classical.choose_spec (zI5 h)
section
variable {cfg:Cfg} {ro:Ro (sem P Q)} {st st':St (sem P Q)} {a a':Act} {w w':World}
theorem zjX:∀{bl:List (Nat×Nat)} {l:List (Sc (sem P Q))},zlZ ro st bl=some l->∀j n,(j,n)∈bl->∃b,ro.blk st j=some b
 |[],l,_,j,n,h => by cases h
 |(i,m)::r,l,h,j,n,hm => by
  unfold zlZ at h
  split at h
  ·rename_i b2 l' hb2 hr
   rcases List.mem_cons.1 hm with hm|hm
   ·obtain⟨rfl,rfl⟩:=Prod.mk.inj hm;exact⟨b2,hb2⟩
   ·exact zjX hr j n hm
  ·cases h
theorem zE8(hw:zbU ro st w)(j:Nat):ro.blk (zbx st st') j=(zaS cfg ro st).blk st' j:=by
 unfold Ro.blk
 rw[za9 hw]
 unfold zbx
 simp only[zj0,zj1 (fun i=>!zgM (zaC st'.bl) i)]
 cases hl:zdl st'.bl j with
 |some b => rfl
 |none =>
  have:zgM (zaC st'.bl) j=false:=by
   cases hm:zgM (zaC st'.bl) j
   ·rfl
   ·exact absurd ((zcr _ _).1 hm) (zfg.1 hl)
  simp only[this,Bool.not_false,if_true]
  unfold Ro.blk
  split<;>rfl
theorem zya{i:Nat}{e:Ent (sem P Q)}(hc0:ztc cfg ro st a)(h:ro.get (zbx st st') i=some e) :
  (zaS cfg ro st).get st' i=some e\/(¬i<cfg.N/\ro.get st i=some e):=by
 have hcase:zdl st'.ov i=some (some e)\/(zdl st'.ov i=none/\ro.get st i=some e):=by
  unfold Ro.get zbx at h
  simp only[zj0,zj1 (fun i=>!zgM (zaC st'.ov) i)] at h
  cases hl:zdl st'.ov i with
  |some x => rw[hl] at h;simp only at h;exact .inl (by rw[h])
  |none =>
   rw[hl] at h
   have:zgM (zaC st'.ov) i=false:=by
    cases hm:zgM (zaC st'.ov) i
    ·rfl
    ·exact absurd ((zcr _ _).1 hm) (zfg.1 hl)
   simp only[this,Bool.not_false,if_true] at h
   refine .inr ⟨rfl,?_⟩
   unfold Ro.get
   exact h
 rcases hcase with hl|⟨hl,hg⟩
 ·refine .inl ?_
  unfold Ro.get;rw[hl]
 ·by_cases hi:i<cfg.N
  ·refine .inl ?_
   unfold Ro.get;rw[hl]
   obtain⟨v,key⟩:=e
   have hk:=(hc0.fr i _ hg).1
   simp only at hk
   subst hk
   simp only
   rw[zf6.2 ⟨hi,hg⟩];rfl
  ·exact .inr ⟨hi,hg⟩
theorem zpc{i:Nat}(hs:a.tmps.size=cfg.N)(hi:¬i<cfg.N):a.tmps.getD i undef=undef:=by
 unfold Array.getD;rw[dif_neg (by omega)]
theorem zlX(hc0:ztc cfg ro st a)(hs0:zdX ro st)(hw0:zbU ro st w)(hc:ztc cfg (zaS cfg ro st) st' a')(hs:zdX (zaS cfg ro st) st')(hw:zbU (zaS cfg ro st) st' w') :
  ztc cfg ro (zbx st st') a'/\zdX ro (zbx st st')/\zbU ro (zbx st st') w':=by
 have hb:∀j,ro.blk (zbx st st') j=(zaS cfg ro st).blk st' j:=zE8 hw0
 refine⟨⟨hc.size,hc.defers,fun i e he=>?_⟩,fun i e he=>?_,?_⟩
 ·rcases zya hc0 he with h|⟨hi,h⟩
  ·exact hc.fr i e h
  ·obtain⟨h1,h2⟩:=hc0.fr i e h
   refine⟨h1,?_⟩
   rw[<-h2,zpc hc.size hi,zpc hc0.size hi]
 ·have key:∀u,zkq (zaS cfg ro st) st' u->zkq ro (zbx st st') u:=by
   intro u hu
   cases u with
   |one v =>
    cases v with
    |agg l => exact hu
    |sc x =>
     cases x with
     |loc j n off => exact⟨hu.1,fun b hbb => hu.2 b (by rw[<-hb];exact hbb)⟩
     |_ => trivial
   |tup l => exact hu
   |undef => trivial
  rcases zya hc0 he with h|⟨hi,h⟩
  ·exact key _ (hs i e h)
  ·obtain⟨h1,h2⟩:=hc0.fr i e h
   rw[zpc hc0.size hi] at h2
   have h3:=hs0 i e h
   revert h2 h3
   generalize e.1=u
   intro h2 h3
   cases u with
   |one v =>
    cases v with
    |agg l => exact h3
    |sc x =>
     cases x with
     |loc j n off => exact absurd h2 (by simp[SL.toV,SV.toV,Sc.toV,undef])
     |_ => trivial
   |tup l => exact h3
   |undef => trivial
 ·have hdn:ro.dn (zbx st st')=(zaS cfg ro st).dn st':=by
   unfold Ro.dn
   have:(zbx st st').dirty=st'.dirty:=rfl
   rw[this];congr 1;funext j;rw[hb]
  refine⟨by rw[hdn];exact hw.but,fun j b h=>hw.bk j b (by rw[<-hb];exact h),fun j b h=>hw.lt j b (by rw[<-hb];exact h),
   fun i j b c h1 h2=>hw.ord i j b c (by rw[<-hb];exact h1) (by rw[<-hb];exact h2),fun j b h=>hw.ax j b (by rw[<-hb];exact h),fun j b h=>hw.nol j b (by rw[<-hb];exact h),fun j b b0 h0 h=>?_⟩
  have h1:∃b1,ro.blk st j=some b1:=by
   unfold Ro.blk
   cases hl:zdl st.bl j with
   |some x => exact⟨x,rfl⟩
   |none => exact⟨b0,h0⟩
  obtain⟨b1,h1⟩:=h1
  obtain⟨e1,e2⟩:=hw0.same j b1 b0 h0 h1
  obtain⟨e3,e4⟩:=hw.same j b b1 (by rw[za9 hw0];exact h1) (by rw[<-hb];exact h)
  exact⟨by rw[e3,e1],by rw[e4,e2]⟩
theorem zog{hv:Hv}{body:Code}{cs:List (Sc (sem P Q))}{wa:World}{shs:List Sh}{vs:List At}(hc0:ztc cfg ro st a)(hs0:zdX ro st)(hw0:zbU ro st w)(hex:∀j n,(j,n)∈hv.blocks->∃b,ro.blk st j=some b)
  (h:znK hv st (zaF ro st hv body cs wa) shs (zaS cfg ro st) st'=some vs)
  (hc:ztc cfg (zaS cfg ro st) st' a') (hs:zdX (zaS cfg ro st) st') (hw:zbU (zaS cfg ro st) st' w') :
  ∃cs',zvB shs vs/\zbM shs vs=some cs'/\zxw cfg ro st hv body cs' st'.anchor a' w':=by
 unfold znK at h
 simp only[Option.bind_eq_some_iff,cond_eq_ite] at h
 obtain⟨l,hl,al,hal,h⟩:=h
 split at h
 ·rename_i hchk
  obtain rfl:=Option.some.inj h
  simp only[Bool.and_eq_true,List.all_eq_true,Bool.or_eq_true] at hchk
  obtain⟨⟨⟨k1,k2⟩,k3⟩,k4⟩:=hchk
  have k1:=zyS k1
  subst k1
  obtain⟨cs',e1,e2,e3,e4⟩:=zru hal
  have hkeys:∀cs₂ wa₂,zaC (zaF ro st hv body cs₂ wa₂).ov=zaC (zaF ro st hv body cs wa).ov:=by
   intro cs₂ wa₂
   have:∀c,zaC (zdF hv.slots c).1=zaC hv.slots:=zm2 (P:=P) (Q:=Q) hv.slots
   unfold zaF zkU
   simp only[zaC,List.map_append] at this ⊢
   rw[this,this]
  have hnot:∀j,j<st.nx->j∉zaC hv.blocks->zdl st'.bl j=none:=by
   intro j hj hn
   rw[zfg]
   intro hm
   simp only[zaC,List.mem_map] at hm
   obtain⟨x,hx,rfl⟩:=hm
   rcases k2 x hx with h|h
   ·exact absurd (Nat.le_of_ble_eq_true h) (by omega)
   ·exact hn ((zcr _ _).1 h)
  refine⟨cs',e4,e1,zGU (ro2:=zaS cfg ro st) (st2:=st') hw0 hs0 hl e2 e3 hc hw ?_ hex ?_ ?_ hw.but ?_ ?_⟩
  ·intro i v hi hg hN
   rw[hkeys] at hi
   have hn:zdl st'.ov i=none:=by
    rw[zfg]
    intro hm
    simp only[zaC,List.mem_map] at hm
    obtain⟨x,hx,rfl⟩:=hm
    exact hi ((zcr _ _).1 (k3 x hx))
   exact(hc.fr i (v,none) (by unfold Ro.get;rw[hn];simp only;rw[zf6.2 ⟨hN,hg⟩];rfl)).2
  ·intro j b b2 h1 h2
   exact hw.same j b2 b (by rw[za9 hw0];exact h1) h2
  ·intro j b hj hb
   unfold Ro.blk
   rw[hnot j (hw0.lt j b hb) hj]
   simp only
   rw[za9 hw0];exact hb
  ·intro j hj
   exact(zcr _ _).1 (k4 j hj).1
  ·intro j b2 hj hb2
   have hlt:j<st.nx:=by have:=(k4 j hj).2;simp[Nat.blt] at this;omega
   by_cases hk:j∈zaC hv.blocks
   ·simp only[zaC,List.mem_map] at hk
    obtain⟨x,hx,rfl⟩:=hk
    exact hex x.1 x.2 hx
   ·unfold Ro.blk at hb2
    rw[hnot j hlt hk] at hb2
    simp only at hb2
    rw[za9 hw0] at hb2
    exact⟨b2,hb2⟩
 ·cases h
theorem zrH{hv:Hv}{body:Code}{al:List (Sh×At)}(hc:ztc cfg ro st a)(hs:zdX ro st)(hw:zbU ro st w)(h:(zkL ro st hv).bind zjQ=some al) :
  ∃cs l0,zkL ro st hv=some l0/\zvB (al.map (·.1)) (al.map (·.2))/\zbM (al.map (·.1)) (al.map (·.2))=some cs/\zxw cfg ro st hv body cs st.anchor a w:=by
 simp only[Option.bind_eq_some_iff] at h
 obtain⟨l,hl,hal⟩:=h
 obtain⟨cs,e1,e2,e3,e4⟩:=zru hal
 have hex:∀j n,(j,n)∈hv.blocks->∃b,ro.blk st j=some b:=by
  have hg0:=hl
  unfold zkL at hg0
  simp only[Option.bind_eq_some_iff,Option.map_eq_some_iff] at hg0
  obtain⟨ss,_,bs,hbs,_⟩:=hg0
  exact zjX hbs
 refine⟨cs,l,hl,e4,e1,zGU (ro2:=ro) (st2:=st) hw hs hl e2 e3 hc hw ?_ hex ?_ ?_ hw.but ?_ ?_⟩
 ·intro i v _ hg _
  exact(hc.fr i _ hg).2
 ·intro j b b2 h1 h2
  rw[h1] at h2;obtain rfl:=Option.some.inj h2;exact⟨rfl,rfl⟩
 ·intro j b _ hb;exact hb
 ·intro j hj;unfold zkT;exact List.mem_append_right _ hj
 ·intro j b2 _ hb2;exact⟨b2,hb2⟩
end
theorem zzK{ro:Ro (sem P Q)}{st:St (sem P Q)}{hv:Hv}{l0:List (Sc (sem P Q))}(hg0:zkL ro st hv=some l0):∀j n,(j,n)∈hv.blocks->∃b,ro.blk st j=some b:=by
 unfold zkL at hg0
 simp only[Option.bind_eq_some_iff,Option.map_eq_some_iff] at hg0
 obtain⟨ss,_,bs,hbs,_⟩:=hg0
 exact zjX hbs
theorem zhb:∀{shs:List Sh}{l:List At},zvB shs l->shs.length=l.length
 |[],[],_ => rfl
 |.int _::r,.int _::l,h|.bool::r,.bool _::l,h|.str::r,.str _::l,h|.slc::r,.slc _ _ _::l,h|.ptr::r,.ptr _::l,h|.val::r,.val _::l,h => by
  simp only[zvB] at h
  simp[zhb h]
 |.bool::_,.int _::_,hf|.bool::_,.str _::_,hf|.bool::_,.slc _ _ _::_,hf|.bool::_,.ptr _::_,hf|.bool::_,.val _::_,hf => hf.elim
 |.int _::_,.bool _::_,hf|.int _::_,.str _::_,hf|.int _::_,.slc _ _ _::_,hf|.int _::_,.ptr _::_,hf|.int _::_,.val _::_,hf => hf.elim
 |.str::_,.int _::_,hf|.str::_,.bool _::_,hf|.str::_,.slc _ _ _::_,hf|.str::_,.ptr _::_,hf|.str::_,.val _::_,hf => hf.elim
 |.slc::_,.int _::_,hf|.slc::_,.str _::_,hf|.slc::_,.bool _::_,hf|.slc::_,.ptr _::_,hf|.slc::_,.val _::_,hf => hf.elim
 |.ptr::_,.int _::_,hf|.ptr::_,.str _::_,hf|.ptr::_,.slc _ _ _::_,hf|.ptr::_,.bool _::_,hf|.ptr::_,.val _::_,hf => hf.elim
 |.val::_,.int _::_,hf|.val::_,.str _::_,hf|.val::_,.slc _ _ _::_,hf|.val::_,.ptr _::_,hf|.val::_,.bool _::_,hf => hf.elim
 |[],_::_,hf => hf.elim
 |.int _::_,[],hf|.bool::_,[],hf|.str::_,[],hf|.slc::_,[],hf|.ptr::_,[],hf|.val::_,[],hf => hf.elim
theorem zeQ{w:World}:∀{shs:List Sh}{I:zAH shs Prop}{l:List At},znC False shs I l w->shs.length=l.length
 |[],I,[],_ => rfl
 |.int _::r,I,.int _::l,h => by simp only[znC] at h;simp[zeQ h]
 |.bool::r,I,.bool _::l,h => by simp only[znC] at h;simp[zeQ h]
 |.str::r,I,.str _::l,h => by simp only[znC] at h;simp[zeQ h]
 |.slc::r,I,.slc _ _ _::l,h => by simp only[znC] at h;simp[zeQ h]
 |.ptr::r,I,.ptr _::l,h => by simp only[znC] at h;simp[zeQ h]
 |.val::r,I,.val _::l,h => by simp only[znC] at h;simp[zeQ h]
 |.bool::_,_,.int _::_,hf|.bool::_,_,.str _::_,hf|.bool::_,_,.slc _ _ _::_,hf|.bool::_,_,.ptr _::_,hf|.bool::_,_,.val _::_,hf => hf.elim
 |.int _::_,_,.bool _::_,hf|.int _::_,_,.str _::_,hf|.int _::_,_,.slc _ _ _::_,hf|.int _::_,_,.ptr _::_,hf|.int _::_,_,.val _::_,hf => hf.elim
 |.str::_,_,.int _::_,hf|.str::_,_,.bool _::_,hf|.str::_,_,.slc _ _ _::_,hf|.str::_,_,.ptr _::_,hf|.str::_,_,.val _::_,hf => hf.elim
 |.slc::_,_,.int _::_,hf|.slc::_,_,.str _::_,hf|.slc::_,_,.bool _::_,hf|.slc::_,_,.ptr _::_,hf|.slc::_,_,.val _::_,hf => hf.elim
 |.ptr::_,_,.int _::_,hf|.ptr::_,_,.str _::_,hf|.ptr::_,_,.slc _ _ _::_,hf|.ptr::_,_,.bool _::_,hf|.ptr::_,_,.val _::_,hf => hf.elim
 |.val::_,_,.int _::_,hf|.val::_,_,.str _::_,hf|.val::_,_,.slc _ _ _::_,hf|.val::_,_,.ptr _::_,hf|.val::_,_,.bool _::_,hf => hf.elim
 |[],_,_::_,hf => hf.elim
 |.int _::_,_,[],hf|.bool::_,_,[],hf|.str::_,_,[],hf|.slc::_,_,[],hf|.ptr::_,_,[],hf|.val::_,_,[],hf => hf.elim
theorem zCi{shs:List (String×Sh)}{init:List At}{w:World}{body:(List At->World->Prop)->List At->World->Prop}(h:(sem P Q).loop shs init w body) :
 ∃shs':List Sh,shs'=shs.map (·.2)/\∃(I:zAH shs' Prop) (M:zAH shs' Nat),znC False shs' I init w /\
  zEo shs' fun vs=>∀w':World,znC False shs' I vs w'->body (fun vs' w''=>znC False shs' I vs' w''/\znC 0 shs' M vs' w''<znC 0 shs' M vs w') vs w':=⟨_,rfl,h⟩
theorem ztT{shs:List (String×Sh)}{br:(List At->World->Prop)->Prop}{body:List At->World->Prop}(h:(sem P Q).join shs br body) :
 ∃shs':List Sh,shs'=shs.map (·.2)/\∃(I:zAH shs' Prop),br (fun vs w=>znC False shs' I vs w)/\zEo shs' fun vs=>∀w':World,znC False shs' I vs w'->body vs w':=⟨_,rfl,h⟩
theorem zxs{α:Type}{names:List α}{shs l:List Sh}(h:l=(List.zip names shs).map (·.2))(hl:l.length=shs.length):l=shs:=by
 subst h
 induction shs generalizing names with
 |nil => simp
 |cons s r ih =>
  cases names with
  |nil => simp at hl
  |cons n ns =>
   simp only[List.zip_cons_cons,List.map_cons,List.length_cons,Nat.add_right_cancel_iff] at hl ⊢
   rw[ih hl]
theorem zim{ops:Array Oper}{kd:Oper->Kd}{Qx:Exit->Act->World->Prop}:∀(l:List Nat)(C:World->Prop)(a:Act)(w:World),zjf P ops kd (Qx .normal) (.chain l) C a->C w->wpOps P ops Qx l a w
 |[],C,a,w,h,hw => h w hw
 |i::l,C,a,w,h,hw => by
  simp only[DT.chain,zjf] at h
  simp only[wpOps]
  split at h
  ·rename_i ho
   simp only[ho]
   exact zim l C a w h hw
  ·rename_i o ho
   simp only[ho]
   split at h
   ·rename_i hwant
    rw[if_pos hwant]
    refine .inl ?_
    rcases h with⟨v,hv,hc⟩|⟨_,h⟩
    ·have hg:=hv w (.inr hw)
     unfold za8 at hg
     unfold Oper.wp
     rw[hg]
     exact zim l C _ w hc hw
    ·refine Oper.wp_mono (fun a' w' hk=>?_) (zDF (h w hw))
     obtain⟨v,_,C',hC',_,hc⟩:=hk
     exact zim l C' a' w' hc hC'
   ·rename_i hwant
    rw[if_neg hwant]
    exact zim l C _ w h hw
theorem zzy{cfg:Cfg}{ops:Array Oper}{t:DT}(h:zIs P cfg ops=some t):P.follows .mixedOrders=true/\(∀(j:Nat) (o:Oper) cs b,ops[j]?=some o->o.op≠.select cs b)/\(∀(j:Nat)(o:Oper),ops[j]?=some o->∀e∈o.after,e.on<ops.size)/\okD .any ops (kdD P cfg true) ops.size false t (List.range ops.size)=true:=by
 unfold zIs at h
 simp only[cond_eq_ite] at h
 split at h
 ·rename_i hc
  obtain rfl:=Option.some.inj h
  simp only[Bool.and_eq_true,List.all_eq_true] at hc
  obtain⟨⟨⟨h1,h2⟩,h3⟩,h4⟩:=hc
  refine⟨h1,Region.noSelect_spec h2,fun j o ho e he=>?_,h4⟩
  have:=h3 o (by have:=(Array.getElem?_eq_some_iff.1 ho);obtain⟨hl,hv⟩:=this;rw[<-hv];simp) e (by simpa using he)
  simp[Nat.blt] at this;omega
 ·cases h
theorem zt5{md:Region.Mode}{ops:Array Oper}:Lst md ops (List.range ops.size) (Array.replicate ops.size false):=by
 refine⟨by simp,fun k hk=>?_,fun k hk=>List.mem_range.1 hk,fun k o ho hn=>?_⟩
 ·simp[Array.getD,hk]
 ·exact absurd (List.mem_range.2 (Array.getElem?_eq_some_iff.1 ho).1) hn
theorem zrf{ro:Ro (sem P Q)}{st:St (sem P Q)}{w:World}{n:Nat}(hw:zbU ro st w):zbU ro st { w with drawn:=n } :=
 ⟨⟨hw.but.os,hw.but.tape,hw.but.output,hw.but.size,hw.but.block⟩,hw.bk,hw.lt,hw.ord,hw.ax,hw.nol,hw.same⟩
theorem sx_ok{cfg:Cfg}:∀(c:Code) (ro:Ro (sem P Q)) (st:St (sem P Q)) (k:Ex->St (sem P Q)->Prop) (Qx:Exit->Act->World->Prop) (a:Act) (w:World),sx (A:=sem P Q) P cfg c ro st k->ztc cfg ro st a->zdX ro st->zbU ro st w ->
  (∀e st' a' w',k e st'->ztc cfg ro st' a'->zdX ro st'->zbU ro st' w'->Qx (zyY e) a' w')->c.wp P Qx a w:=by
 intro c
 induction c with
 |skip => exact fun ro st k Qx a w h hc hs hw hk => wp_skip (hk .normal st a w h hc hs hw)
 |label _ => exact fun ro st k Qx a w h hc hs hw hk => wp_label (hk .normal st a w h hc hs hw)
 |exit id => exact fun ro st k Qx a w h hc hs hw hk => wp_exit (hk (.exit id) st a w h hc hs hw)
 |ret => exact fun ro st k Qx a w h hc hs hw hk => wp_ret (hk .ret st a w h hc hs hw)
 |seq x y ihx ihy =>
  intro ro st k Qx a w h hc hs hw hk
  refine wp_seq (ihx ro st _ _ a w h hc hs hw ?_)
  intro e st' a' w' h' hc' hs' hw'
  cases e with
  |normal => exact ihy ro st' k Qx a' w' h' hc' hs' hw' hk
  |exit id => exact hk (.exit id) st' a' w' h' hc' hs' hw'
  |ret => exact hk .ret st' a' w' h' hc' hs' hw'
 |cond b x y ihx ihy =>
  intro ro st k Qx a w h hc hs hw hk
  unfold sx at h
  split at h
  ·rename_i t ht
   have hev:a.eval b=.bool t.den:=by
    have:=zFR (ops:=#[]) (cur:=none) hc.relF (fun c hc=>by cases hc) b _ (sc?_some ht)
    simpa[SL.toV,SV.toV,Sc.toV] using this
   split at h
   ·exact wp_cond hev (by simp only[BE.den];exact ihx ro st k Qx a w h hc hs hw hk)
   ·exact wp_cond hev (by simp only[BE.den];exact ihy ro st k Qx a w h hc hs hw hk)
   ·obtain⟨h1,h2⟩:=h
    refine wp_cond_split hev (fun hd=>?_) (fun hd=>?_)
    ·exact ihx ro st k Qx a w (h1 (by rw[zee,hd])) hc hs hw hk
    ·exact ihy ro st k Qx a w (h2 (by rw[zee,zdc,hd];rfl)) hc hs hw hk
  ·exact h.elim
 |block id x ih =>
  intro ro st k Qx a w h hc hs hw hk
  unfold sx at h
  split at h
  ·refine wp_block (ih ro st _ _ a w h hc hs hw ?_)
   intro e st' a' w' h' hc' hs' hw'
   cases e with
   |normal => exact hk .normal st' a' w' h' hc' hs' hw'
   |exit i =>
    simp only[zGJ,cond_eq_ite] at h'
    simp only[zyY,Exit.inBlock]
    split at h'
    ·rename_i hi
     have hi:=Nat.eq_of_beq_eq_true hi
     rw[if_pos hi];exact hk .normal st' a' w' h' hc' hs' hw'
    ·rename_i hi
     have hi:¬i=id:=fun he=>hi (by rw[he];exact Nat.beq_refl _)
     rw[if_neg hi];exact hk (.exit i) st' a' w' h' hc' hs' hw'
   |ret => exact hk .ret st' a' w' h' hc' hs' hw'
  ·rename_i l hl
   simp only[cond_eq_ite] at h
   split at h
   ·exact h.elim
   ·rename_i hchk
    simp only[Bool.not_eq_true',Bool.not_eq_false,Bool.and_eq_true,List.all_eq_true] at hchk
    generalize hhv:zBY (A:=sem P Q) P ro st l (zqh x)=hv at h hchk
    generalize hshs:zFl (A:=sem P Q) P ro st hv (zqh x).toArray=shs at h
    obtain⟨shs',hz,I,hbr,hbody⟩:=ztT (P:=P) (Q:=Q) (shs:=List.zip (zl3 cfg hv) shs)
     (br:=fun leave=>sx (A:=sem P Q) P cfg x (zaS cfg ro st) (zaF ro st ⟨[],[]⟩ .skip [] st.anchor) (zBe (A:=sem P Q) cfg ro st hv x shs id leave k))
     (body:=fun vars w=>zrb (A:=sem P Q) (fun cs=>k .normal (zbx st (zaF ro st hv x cs w))) (zbM shs vars)) h
    have hex:∀j n,(j,n)∈hv.blocks->∃b,ro.blk st j=some b:=fun j n hm=>by
     have:=hchk.2 (j,n) hm
     cases hb:ro.blk st j with
     |some b => exact⟨b,rfl⟩
     |none => simp[hb] at this
    obtain⟨cs0,l0,hg0,hf0,ho0,hh0⟩:=zrH (hv:=⟨[],[]⟩) (body:=.skip) (al:=[]) hc hs hw rfl
    have hcs0:cs0=[]:=by
     have:zbM (A:=sem P Q) [] []=some cs0:=ho0
     simp[zbM] at this;exact this
    subst hcs0
    have hjoin : ∀ (st' : St (sem P Q)) (a' : Act) (w' : World), zwr (A := sem P Q) cfg ro st hv x shs "block back" (fun vs w => znC False shs' I vs w) st' -> ztc cfg (zaS cfg ro st) st' a' -> zdX (zaS cfg ro st) st' -> zbU (zaS cfg ro st) st' w' -> Qx .normal a' w' := by
     intro st' a' w' h' hc' hs' hw'
     unfold zwr at h'
     split at h'
     ·rename_i vs hback
      have hsz:shs'=shs:=by
       refine zxs hz ?_
       obtain⟨cs',hf',ho',hh'⟩:=zog hc hs hw hex hback hc' hs' hw'
       exact(zeQ h').trans (zhb hf').symm
      subst hsz
      obtain⟨cs',hf',ho',hh'⟩:=zog hc hs hw hex hback hc' hs' hw'
      have hb:=zg4 hbody vs hf' _ h'
      rw[ho'] at hb
      obtain⟨e1,e2,e3⟩:=zlX hc hs hw hh'.c hh'.s hh'.w
      exact hk .normal _ a' w' hb e1 e2 e3
     ·exact h'.elim
    refine wp_block (ih _ _ _ _ a w hbr hh0.c hh0.s hh0.w ?_)
    intro e st' a' w' h' hc' hs' hw'
    cases e with
    |normal => exact hjoin st' a' w' h' hc' hs' hw'
    |exit i =>
     simp only[zBe,cond_eq_ite] at h'
     simp only[zyY,Exit.inBlock]
     split at h'
     ·rename_i hi
      have hi:=Nat.eq_of_beq_eq_true hi
      rw[if_pos hi];exact hjoin st' a' w' h' hc' hs' hw'
     ·rename_i hi
      have hi:¬i=id:=fun he=>hi (by rw[he];exact Nat.beq_refl _)
      rw[if_neg hi]
      obtain⟨e1,e2,e3⟩:=zlX hc hs hw hc' hs' hw'
      exact hk (.exit i) _ a' w' h' e1 e2 e3
    |ret =>
     obtain⟨e1,e2,e3⟩:=zlX hc hs hw hc' hs' hw'
     exact hk .ret _ a' w' h' e1 e2 e3
 |region id ops draw =>
  intro ro st k Qx a w h hc hs hw hk
  unfold sx at h
  cases draw with
  |true =>
   simp only[cond_true] at h
   split at h
   ·rename_i t ht
    obtain⟨hm,hsel,hin,hok⟩:=zzy ht
    simp only[cond_eq_ite] at h
    split at h
    ·split at h
     ·exact h.elim
     ·rename_i hchk
      simp only[Bool.not_eq_true',Bool.not_eq_false,Bool.and_eq_true,List.all_eq_true] at hchk
      generalize hshs:zFl (A:=sem P Q) P ro st (zqW P cfg ro st ops) ops=shs at h
      obtain⟨shs',hz,I,hbr,hbody⟩:=ztT (P:=P) (Q:=Q) (shs:=List.zip (zl3 cfg (zqW P cfg ro st ops)) shs)
       (br:=fun leave=>zgH (A:=sem P Q) P cfg true ops (zaS cfg ro st) (4*ops.size+4+ops.size*ops.size) t (zaF ro st ⟨[],[]⟩ .skip [] st.anchor)
        (zwr (A := sem P Q) cfg ro st (zqW P cfg ro st ops) (.region id ops true) shs ("join back " ++ match ops[0]? with | some o => o.pos | none => "") leave))
       (body:=fun vars w=>zrb (A:=sem P Q) (fun cs=>k .normal (zbx st (zaF ro st (zqW P cfg ro st ops) (.region id ops true) cs w))) (zbM shs vars)) h
      have hex:∀j n,(j,n)∈(zqW P cfg ro st ops).blocks->∃b,ro.blk st j=some b:=fun j n hm=>by
       have:=hchk.2 (j,n) hm
       cases hb:ro.blk st j with
       |some b => exact⟨b,rfl⟩
       |none => simp[hb] at this
      obtain⟨cs0,l0,hg0,hf0,ho0,hh0⟩:=zrH (hv:=⟨[],[]⟩) (body:=.skip) (al:=[]) hc hs hw rfl
      have hcs0:cs0=[]:=by
       have:zbM (A:=sem P Q) [] []=some cs0:=ho0
       simp[zbM] at this;exact this
      subst hcs0
      refine wp_region_any hm (zol (kd:=kdD P cfg true) (n:=ops.size) hsel hin ops.size t _ _ (zbU (zaS cfg ro st) (zaF ro st ⟨[],[]⟩ .skip [] st.anchor)) a _ (by simp) List.nodup_range hok zt5 ?_ (zrf hh0.w))
      refine zcC _ _ _ a _ hbr hh0.c.relF hh0.s ⟨_,hh0.w⟩ fun st' a' h' hc' hs' w' hw'=>?_
      unfold zwr at h'
      split at h'
      ·rename_i vs hback
       have hsz:shs'=shs:=by
        refine zxs hz ?_
        obtain⟨cs',hf',ho',hh'⟩:=zog hc hs hw hex hback hc' hs' hw'
        exact(zeQ h').trans (zhb hf').symm
       subst hsz
       obtain⟨cs',hf',ho',hh'⟩:=zog hc hs hw hex hback hc' hs' hw'
       have hb:=zg4 hbody vs hf' _ h'
       rw[ho'] at hb
       obtain⟨e1,e2,e3⟩:=zlX hc hs hw hh'.c hh'.s hh'.w
       exact hk .normal _ a' w' hb e1 e2 e3
      ·exact h'.elim
    ·refine wp_region_any hm (zol (kd:=kdD P cfg true) (n:=ops.size) hsel hin ops.size t _ _ (zbU ro st) a _ (by simp) List.nodup_range hok zt5 ?_ (zrf hw))
     exact zcC _ _ st a _ h hc.relF hs ⟨_,hw⟩ fun st' a' h' hc' hs' w' hw'=>hk .normal st' a' w' h' hc' hs' hw'
   ·exact h.elim
  |false =>
   simp only[cond_false] at h
   refine wp_region (zim (kd:=kdD P cfg false) _ (zbU ro st) a w ?_ hw)
   exact zcC _ _ st a _ h hc.relF hs ⟨_,hw⟩ fun st' a' h' hc' hs' w' hw'=>hk .normal st' a' w' h' hc' hs' hw'
 |loop body ih =>
  intro ro st k Qx a w h hc hs hw hk
  unfold sx at h
  simp only at h
  split at h
  ·exact h.elim
  ·rename_i al hal
   simp only[cond_eq_ite] at h
   split at h
   ·exact h.elim
   ·rename_i hdup
    generalize hshs:al.map (·.1)=shs at h
    obtain⟨cs0,l0,hg0,hf0,ho0,hh0⟩:=zrH (body:=body) hc hs hw hal
    rw[hshs] at hf0 ho0
    obtain⟨shs',hz,I,M,hI,hbody⟩:=zCi (P:=P) (Q:=Q) (shs:=List.zip (zl3 cfg (hvOf ro st body)) shs) (init:=al.map (·.2)) (w:=st.anchor) (body:=fun back vars w=>zrb (A:=sem P Q) (fun cs=>sx (A:=sem P Q) P cfg body (zaS cfg ro st) (zaF ro st (hvOf ro st body) body cs w) (zCZ (A:=sem P Q) cfg ro st (hvOf ro st body) body shs cs w back k)) (zbM shs vars)) h
    have hsz:shs'=shs:=by
     refine zxs hz ?_
     exact(zeQ hI).trans (zhb hf0).symm
    subst hsz
    let Pn (a':Act) (w':World) (n:Nat):Prop:=∃(vs:List At) (wa:World) (cs:List (Sc (sem P Q))),zvB shs' vs/\zbM shs' vs=some cs/\znC False shs' I vs wa/\zxw cfg ro st (hvOf ro st body) body cs wa a' w'/\znC 0 shs' M vs wa=n
    refine wp_loop (fun a' w'=>∃n,Pn a' w' n) (fun a' w'=>zoK (Pn a' w')) ⟨_,_,_,cs0,hf0,ho0,hI,hh0,rfl⟩ ?_
    intro a1 w1 hex
    obtain⟨⟨vs,wa,cs,hf,ho,hIv,hhd,hm⟩,hmin⟩:=zm3 hex
    have hb:=zg4 hbody vs hf wa hIv
    rw[ho] at hb
    refine ih _ _ _ _ a1 w1 hb hhd.c hhd.s hhd.w ?_
    intro e st' a' w' h' hc' hs' hw'
    cases e with
    |normal =>
     simp only[zCZ] at h'
     split at h'
     ·rename_i vs' hback
      obtain⟨cs',hf',ho',hh'⟩:=zog hc hs hw (zzK hg0) hback hc' hs' hw'
      simp only[zyY,Exit.then]
      have hPn:Pn a' w' (znC 0 shs' M vs' st'.anchor):=⟨vs',_,cs',hf',ho',h'.1,hh',rfl⟩
      refine⟨⟨_,hPn⟩,?_⟩
      have h2:=(zm3 ⟨_,hPn⟩).2 _ hPn
      have h3:=h'.2
      rw[hm] at h3
      omega
     ·exact h'.elim
    |exit id =>
     obtain⟨e1,e2,e3⟩:=zlX hc hs hw hc' hs' hw'
     exact hk (.exit id) _ a' w' h' e1 e2 e3
    |ret =>
     obtain⟨e1,e2,e3⟩:=zlX hc hs hw hc' hs' hw'
     exact hk .ret _ a' w' h' e1 e2 e3
 |scope _ _ => exact fun ro st k Qx a w h => h.elim
 |rangeFunc => exact fun ro st k Qx a w h => h.elim
 |goto _ => exact fun ro st k Qx a w h => h.elim
 |refuse _ => exact fun ro st k Qx a w h => h.elim
variable {P:Program} {Q:Value->World->Prop}
theorem zFx{ps:List (SV (sem P Q))}{w:World}{i:Nat}{e:Option (Ent (sem P Q))}(h:zdl (st0 ps w).ov i=some e):∃v,ps[i]?=some v/\e=some (.one v,none):=by
 have hm:=zd1 h
 simp only[st0,List.mem_map] at hm
 obtain⟨⟨v,j⟩,hx,he⟩:=hm
 simp only[Prod.mk.injEq] at he
 obtain⟨rfl,rfl⟩:=he
 exact⟨v,List.mem_zipIdx_iff_getElem?.1 hx,rfl⟩
theorem zBT{ps:List (SV (sem P Q))}{w:World}{i:Nat}{e:Ent (sem P Q)}(h:Ro.get { sl:=[],bl:=[] } (st0 ps w) i=some e):∃v,ps[i]?=some v/\e=(.one v,none):=by
 unfold Ro.get at h
 split at h
 ·rename_i e' he
  subst h
  obtain⟨v,h1,h2⟩:=zFx he
  exact⟨v,h1,Option.some.inj h2⟩
 ·simp[zdl] at h
theorem zsA{cfg:Cfg}{ro:Ro (sem P Q)}{st:St (sem P Q)}{a:Act}{w:World}(hc:ztc cfg ro st a)(hs:zdX ro st)(hw:zbU ro st w):∀{rs:List ResultVar} {l:List (SV (sem P Q))},zwV P ro st rs=some l ->
  (rs.mapM (m:=Sem) fun|.tmp t=>pure (a.tmps.getD t undef)|.cell c t=>do loadVar t (<-asAddr (a.tmps.getD c undef))).run P w=.ok (l.map SV.toV) w
 |[],l,h => by simp[zwV] at h;subst h;simp
 |.tmp t::r,l,h => by
  unfold zwV at h
  split at h
  ·rename_i v l' hv hl
   obtain rfl:=Option.some.inj h
   have h1:=one?_some hv
   simp only[Option.bind_eq_some_iff] at h1
   obtain⟨e,he,h2⟩:=h1
   have h3:=(hc.fr t e he).2
   obtain⟨u,key⟩:=e
   cases key with
   |none =>
    simp only[Option.some.injEq] at h2
    subst h2
    simp only[List.mapM_cons,Sem.run_bind,Sem.run_pure,Result.andThen_ok,zsA hc hs hw hl]
    rw[h3];rfl
   |some k => cases h2
  ·cases h
 |.cell c t::r,l,h => by
  unfold zwV at h
  split at h
  ·rename_i j b off l' hv hl
   split at h
   ·rename_i blk hb
    split at h
    ·rename_i v hp
     simp only[cond_eq_ite] at h
     split at h
     ·rename_i hlen
      obtain rfl:=Option.some.inj h
      have h1:=sc?_some hv
      simp only[Option.bind_eq_some_iff] at h1
      obtain⟨e,he,h2⟩:=h1
      have h3:=(hc.fr c e he).2
      have h4:=hs c e he
      obtain⟨u,key⟩:=e
      cases key with
      |none =>
       simp only[Option.some.injEq] at h2
       subst h2
       have hn:=h4.2 blk hb
       have hbk:=hw.bk j blk hb
       unfold zlQ at hbk
       have hload:=zrj (P:=P) (t:=t) (v:=v) hbk hp hlen
       rw[hn] at hload
       simp only[List.mapM_cons,Sem.run_bind]
       rw[h3]
       have hl2:(loadVar t ⟨b,off,none⟩).run P w=.ok v.toV w:=by
        simpa[Instr.loadAt,Instr.sureAddr] using hload
       have e1:(asAddr (SL.toV (SL.one (SV.sc (Sc.loc (A:=sem P Q) j b off))))).run P w=.ok ⟨b,off,none⟩ w:=by
        simp[SL.toV,SV.toV,Sc.toV,asAddr]
       rw[e1]
       simp only[Result.andThen_ok,hl2,Sem.run_pure,zsA hc hs hw hl]
       rfl
      |some k => cases h2
     ·cases h
    ·cases h
   ·cases h
  ·cases h
theorem zHf(l:List (SV (sem P Q))):(zby l).toV=if h:l.length=1 then (l[0]'(by omega)).toV else .tuple (l.map SV.toV).toArray:=by
 match l with
 |[] => rfl
 |[v] => rfl
 |a::b::r => simp[zby,SL.toV]
theorem zIH(l:List (SV (sem P Q))):(if h:(l.map SV.toV).toArray.size=1 then (l.map SV.toV).toArray[0] else .tuple (l.map SV.toV).toArray)=(zby l).toV:=by
 match l with
 |[] => rfl
 |[v] => rfl
 |a::b::r => simp[zby,SL.toV]
theorem sx_fn{f:FuncId}{fn:Func}{c:Code}{cfg:Cfg}{ps:List (SV (sem P Q))}{args:Array Value}{w:World}(hf:P.funcs[f]?=some fn)(hb:fn.body=some c)(hent:zmU P f)
  (hN:cfg.N=fn.ntmps) (hlen:Nat.ble ps.length fn.ntmps=true) (hargs:args=(ps.map SV.toV).toArray) (hn:ps.all zaT=true) (h:zGR (A:=sem P Q) P cfg fn c ps w):FnP P f args w Q:=by
 have hlen:=Nat.le_of_ble_eq_true hlen
 refine⟨hent,calls_of_wp hf hb (sx_ok (cfg:=cfg) c { sl:=[],bl:=[] } (st0 ps w) _ _ _ w h ?_ ?_ ?_ ?_)⟩
 ·subst hargs
  refine⟨?_,rfl,fun i e he=>?_⟩
  ·simp;omega
  ·obtain⟨v,hv,rfl⟩:=zBT he
   refine⟨rfl,?_⟩
   have hi:i<ps.length:=by
    rw[List.getElem?_eq_some_iff] at hv;exact hv.1
   have h2:ps[i]=v:=by rw[List.getElem?_eq_some_iff] at hv;exact hv.2
   simp[SL.toV,Array.getD,Array.getElem_append,hi,h2]
   intro h;omega
 ·intro i e he
  obtain⟨v,hv,rfl⟩:=zBT he
  refine zcO ?_
  simp only[List.all_eq_true] at hn
  exact hn v (List.mem_of_getElem? hv)
 ·have hno:∀j,(Ro.blk { sl:=[],bl:=[] } (st0 ps w) j:Option (Blk (sem P Q)))=none:=fun j=>rfl
  refine⟨But.refl _ _,?_,?_,?_,?_,?_,?_⟩
  ·intro j b h;rw[hno] at h;cases h
  ·intro j b h;rw[hno] at h;cases h
  ·intro i j b c h;rw[hno] at h;cases h
  ·intro j b h;rw[hno] at h;cases h
  ·intro j b h;rw[hno] at h;cases h
  ·intro j b b0 h0 h;rw[hno] at h;cases h
 ·intro e st' a' w' hk hc hs hw
  have key:zwW (A:=sem P Q) P fn { sl:=[],bl:=[] } st'->a'.defers=[]/\∃v,(results fn a'.tmps).run P w'=.ok v w'/\∃u,Ending.returned v=.returned u/\Q u w':=by
   intro hr
   unfold zwW at hr
   split at hr
   ·rename_i l hl
    simp only[cond_eq_ite] at hr
    split at hr
    ·have hq:=zii (P:=P) (Q:=Q) hr hw.but (fun b hb=>by cases hb)
     refine⟨hc.defers,(zby l).toV,?_,_,rfl,hq⟩
     have h1:=zsA hc hs hw hl
     unfold results
     obtain⟨rs,hrs⟩:∃rs,fn.results=⟨rs⟩:=⟨_,rfl⟩
     rw[hrs] at h1 ⊢
     simp only[List.mapM_toArray,Sem.run_bind,Sem.run_map]
     show(((Sem.run P (List.mapM _ rs) w').andThen _).andThen _)=_
     have h1':(List.mapM (m:=Sem) (fun|ResultVar.tmp t=>pure (a'.tmps.getD t undef)|.cell c t=>do loadVar t (<-asAddr (a'.tmps.getD c undef))) rs).run P w'=.ok (l.map SV.toV) w':=h1
     erw [h1']
     simp only[Result.andThen_ok]
     exact congrArg (fun v=>Result.ok v w') (zIH l)
    ·exact hr.elim
   ·exact hr.elim
  cases e with
  |normal => exact key hk
  |exit id => exact hk.elim
  |ret => exact key hk
@[irreducible] def Runs(P:Program)(Q:Value->World->Prop)(cfg:Cfg)(fn:Func)(c:Code)(ps:List (SV (sem P Q)))(w:World):Prop:=zGR (A:=sem P Q) P cfg fn c ps w
theorem zab {f:FuncId} {fn:Func} {c:Code} {cfg:Cfg} {ps:List (SV (sem P Q))} {args:Array Value} {w:World} (h:Runs P Q cfg fn c ps w) (hf:P.funcs[f]?=some fn) (hb:fn.body=some c) (hent:zmU P f)
  (hN:cfg.N=fn.ntmps) (hlen:Nat.ble ps.length fn.ntmps=true) (hargs:args=(ps.map SV.toV).toArray) (hn:ps.all zaT=true):FnP P f args w Q:=by
 unfold Runs at h
 exact sx_fn hf hb hent hN hlen hargs hn h
end Go.Sx
namespace Go.Sx
open Go.ChangeShapes Go.WideShapes Go.ChangeAt Go.RowKit
variable {H:Type} {enc:TypeId×Value->H} {P:Program}
def Good(P:Program)(w:World):Nat->TypeId->List Value->Prop
 |0,_,_ => False
 |n+1,t,cs =>
  match P.underlying t with
  |some .bool => ∃b,cs=[.bool b]
  |some (.int k) => ∃x,cs=[.int k x]/\InR k x
  |some .string => ∃s:ByteArray,cs=[.string s]/\s.size<=9223372036854775807
  |some (.pointer e) => cs=[.pointer none]\/∃a es,cs=[.pointer (some a)]/\w.cells? 0 a (P.cellsOf e)=some es/\Good P w n e es
  |some (.slice e) => cs=[.slice none 0 0]\/∃a len cap,cs=[.slice (some a) len cap]/\len<=cap/\cap<=9223372036854775807 /\
   ∀i,i<cap->∃es,w.cells? 0 (a.add (i*P.cellsOf e)) (P.cellsOf e)=some es/\Good P w n e es
  |some (.struct fs) => cs.length=P.cellsOf t/\∀f∈fs.toList,Good P w n f.type ((cs.drop f.offset).take (P.cellsOf f.type))
  |some (.array m e) => cs.length=P.cellsOf t/\∀i,i<m->Good P w n e ((cs.drop (i*P.cellsOf e)).take (P.cellsOf e))
  |_ => ∃v,cs=[v]
theorem wf_inR{k:IntKind}{x:Int}(h:(Lit.int k x).wf=true):InR k x:=by
 simpa[Lit.wf,InR] using h
theorem zoT{α β:Type}{f:α->Option β}:∀{l:List α}{ys:List β},l.mapM f=some ys->∀x∈l,∃y,f x=some y
 |[],ys,_,x,hx => by cases hx
 |a::r,ys,h,x,hx => by
  simp only[List.mapM_cons,Option.bind_eq_bind,Option.bind_eq_some_iff] at h
  obtain⟨y,hy,ys',hr,_⟩:=h
  rcases List.mem_cons.1 hx with rfl|hx
  ·exact⟨y,hy⟩
  ·exact zoT hr x hx
theorem zek{w:World}:∀{n:Nat}{t:TypeId}{cs:List Value}{x:DataW H×List MemPlace},DataW.trod enc P w 0 (fun _=>true) true n t cs=some x->Good P w n t cs
 |0,t,cs,x,h => by cases h
 |n+1,t,cs,x,h => by
  unfold DataW.trod at h
  unfold Good
  cases hu:P.underlying t with
  |none => simp[hu] at h
  |some u =>
   rw[hu] at h
   cases u with
   |bool => simp only at h ⊢;split at h<;>simp_all
   |int k =>
    simp only at h ⊢
    split at h<;>simp_all
    obtain⟨⟨h1,h2⟩,_⟩:=h
    exact wf_inR h2
   |string =>
    simp only at h ⊢
    split at h<;>simp_all
    simp only[maxLen] at h
    omega
   |pointer e =>
    simp only at h ⊢
    split at h
    all_goals first|(simp_all;done)|skip
    rename_i a heq
    simp only[Option.some.injEq,TypeDesc.pointer.injEq] at heq
    subst heq
    rw[Option.map_eq_some_iff] at h
    obtain⟨y,h,_⟩:=h
    rw[Option.bind_eq_some_iff] at h
    obtain⟨es,h1,h2⟩:=h
    exact .inr ⟨a,es,rfl,h1,zek h2⟩
   |slice e =>
    simp only
    have h':DataW.trod enc P w 0 (fun _=>true) true (n+1) t cs=some x:=by unfold DataW.trod;rw[hu];exact h
    rcases DataW.trod_slice hu h' with h0|⟨a,len,cap,elems,rest,n',hn,hcs,hx,hb,hl,hm,hlen,hel,hsp,_⟩
    ·exact .inl h0.1
    ·obtain rfl:n=n':=by omega
     refine .inr ⟨a,len,cap,hcs,hl,by simp only[maxLen] at hm;omega,fun i hi=>?_⟩
     obtain⟨hrl,hrest⟩:=hsp rfl
     have hsome:∃y,(w.cells? 0 (a.add (i*P.cellsOf e)) (P.cellsOf e)).bind (DataW.trod enc P w 0 (fun _=>true) true n e)=some y:=by
      by_cases hil:i<len
      ·exact⟨elems[i]'(by omega),by rw[hel i hil];exact List.getElem?_eq_getElem (by omega)⟩
      ·have:=hrest (i-len) (by omega)
       rw[show len+(i-len)=i by omega] at this
       exact⟨rest[i-len]'(by omega),by rw[this];exact List.getElem?_eq_getElem (by omega)⟩
     obtain⟨y,hy⟩:=hsome
     rw[Option.bind_eq_some_iff] at hy
     obtain⟨es,h1,h2⟩:=hy
     exact⟨es,h1,zek h2⟩
   |struct fs =>
    simp only at h ⊢
    split at h
    ·rename_i hl
     rw[Option.map_eq_some_iff] at h
     obtain⟨y,h,_⟩:=h
     refine⟨hl,fun f hf=>?_⟩
     obtain⟨z,hz⟩:=zoT h f hf
     exact zek hz
    ·cases h
   |array m e =>
    simp only at h ⊢
    split at h
    ·rename_i hl
     rw[Option.map_eq_some_iff] at h
     obtain⟨y,h,_⟩:=h
     refine⟨hl,fun i hi=>?_⟩
     obtain⟨z,hz⟩:=zoT h i (by simpa using hi)
     exact zek hz
    ·cases h
   |_ =>
    simp only at h ⊢
    match cs,h with
    |[],h => simp at h
    |[v],h => exact⟨v,rfl⟩
    |_::_::_,h => simp at h
def zAE(P:Program)(w:World)(t:TypeId)(v:Value):Prop :=
 ∃n cs,Good P w n t cs/\v=bif zcS P t then .agg cs.toArray else cs.headD undef
theorem zFh{w:World}{r:Reach}{b:Nat}{t:TypeId}{v:Value}{d:DataW H}{ps:List MemPlace}(hok:Value.okWide P w r b t v)(h:DataW.Trod enc P w 0 (fun _=>true) true t v d ps):zAE P w t v:=by
 obtain⟨n,h⟩:=h
 refine⟨n,v.cells.toList,zek h,?_⟩
 cases n with
 |zero => cases h
 |succ n =>
  unfold Value.okWide at hok
  unfold zcS
  cases hu:P.underlying t with
  |none => unfold DataW.trod at h;rw[hu] at h;simp at h
  |some u =>
   rw[hu] at hok
   cases u with
   |struct fs => obtain⟨cs,rfl,_⟩:=hok;rfl
   |array m e => obtain⟨cs,rfl,_⟩:=hok;rfl
   |_ => cases v<;>first|rfl|(unfold Cell.okWide at hok;rw[hu] at hok;simp[Cell.ok] at hok)
inductive zds(P:Program)(w:World):List TypeId->List Value->Prop
 |nil:zds P w [] []
 |cons {t ts v vs}:zAE P w t v->zds P w ts vs->zds P w (t::ts) (v::vs)
theorem zl0{w:World}{r:Reach}{b:Nat}:∀{ts:List TypeId} {vs:List Value} {ds:List (DataW H)} {ps:List MemPlace},(∀(j:Nat) t v,ts[j]?=some t->vs[j]?=some v->Value.okWide P w r b t v) ->
  DataW.TrodAll enc P w 0 (fun _=>true) true ts vs ds ps->zds P w ts vs/\ds.length=ts.length
 |[],[],[],ps,_,_ => ⟨.nil,rfl⟩
 |[],[],_::_,ps,_,h => h.elim
 |[],_::_,_,ps,_,h => by simp[DataW.TrodAll] at h
 |_::_,[],_,ps,_,h => by simp[DataW.TrodAll] at h
 |_::_,_::_,[],ps,_,h => by simp[DataW.TrodAll] at h
 |t::ts,v::vs,d::ds,ps,hok,h => by
  obtain⟨p,q,h1,h2,_⟩:=h
  obtain⟨g,e⟩:=zl0 (fun j t v ht hv=>hok (j+1) t v (by simpa using ht) (by simpa using hv)) h2
  exact⟨.cons (zFh (hok 0 t v rfl rfl) h1) g,by simp[e]⟩
theorem zfr{w:World}{sp:Nat->Bool}:∀{ns:List String} {gs:List (DataW H)} {ps:List MemPlace},DataW.TrodVars enc P w sp ns gs ps->gs.length=ns.length
 |[],[],_,_ => rfl
 |[],_::_,_,h => h.elim
 |_::_,[],_,h => h.elim
 |_::_,_::_,_,h => by
  obtain⟨g,t,cs,fuel,p,q,_,_,_,_,hs,_⟩:=h
  simp[zfr hs]
theorem zkz(hl:laidOutB P=true){W W':World}(hb:Below W.heap.size W W'):∀{ts:List TypeId} {vs:List Value} {ds:List (DataW H)} {ps:List MemPlace},(ts.all fun t=>P.readableRec t&&decide (t<P.types.size))=true ->
  DataW.TrodAll enc P W 0 (fun _=>true) true ts vs ds ps->(∀x∈ps,x.block<W.heap.size)->DataW.TrodAll enc P W' 0 (fun b=>decide (b<W.heap.size)) true ts vs ds ps
 |[],[],[],ps,_,h,_ => h
 |[],[],_::_,ps,_,h,_ => h.elim
 |[],_::_,_,ps,_,h,_ => by simp[DataW.TrodAll] at h
 |_::_,[],_,ps,_,h,_ => by simp[DataW.TrodAll] at h
 |_::_,_::_,[],ps,_,h,_ => by simp[DataW.TrodAll] at h
 |t::ts,v::vs,d::ds,ps,hr,h,hlt => by
  obtain⟨p,q,h1,h2,e⟩:=h
  simp only[List.all_cons,Bool.and_eq_true,decide_eq_true_eq] at hr
  exact⟨p,q,Below.trod hl hr.1.1 hr.1.2 h1 hb (fun x hx=>hlt x (by rw[e];simp[hx])),zkz hl hb (by simpa using hr.2) h2 (fun x hx=>hlt x (by rw[e];simp[hx])),e⟩
theorem zyp{f:Func}{s:ChangeSpec}{apart fresh handsOn:Bool}{W W':World}{args:Array Value}{ds gs:List (DataW H)}{zcy:List MemPlace}{tb:TypeId}(hl:laidOutB P=true)
  (hrow:(f.params.toList.all fun t=>P.readableRec t&&decide (t<P.types.size))=true) (hres:f.resultTypes=#[tb]) (htb:P.underlying tb=some .bool)
  (hvars:∀q,DataW.TrodVars enc P W (fun _=>true) s.vars gs q->(∀x∈q,x.block<W.heap.size)->DataW.TrodVars enc P W' (fun b=>decide (b<W.heap.size)) s.vars gs q)
  (hs:s.fn H (ds++gs)={ results:=[.lit (.bool true)],args:=ds,vars:=gs }) (hW:DataW.Whole enc P f.params.toList s.vars apart W args.toList ds gs zcy) (hB:Ext W W') :
  s.post enc P f apart fresh handsOn false W args (.bool true) W':=by
 have hlt:=hW.lt
 have hW':=hW
 obtain⟨p,q,hA,hV,he,_,_⟩:=hW
 refine⟨ds,gs,zcy,[],p,q,hW',?_,?_,?_,Below.frame hB _,fun h=>by cases h⟩
 ·rw[hs,hres]
  exact⟨[],[],⟨1,by simp[DataW.trod,htb,Value.cells]⟩,rfl,rfl⟩
 ·rw[hs]
  exact zkz hl hB hrow hA (fun x hx=>hlt x (by rw[he];simp[hx]))
 ·rw[hs]
  exact hvars q hV (fun x hx=>hlt x (by rw[he];simp[hx]))
theorem zGY{f:Func}{F:FuncId}{s:ChangeSpec}{apart fresh handsOn:Bool}{tb:TypeId}(hl:laidOutB P=true)
  (hrow:(f.params.toList.all fun t=>P.readableRec t&&decide (t<P.types.size))=true) (hres:f.resultTypes=#[tb]) (htb:P.underlying tb=some .bool) (hv:s.vars=[])
  (hs:∀ds:List (DataW H),ds.length=f.params.toList.length->s.fn H ds={ results:=[.lit (.bool true)],args:=ds,vars:=[] })
  (law:∀W args,zds P W f.params.toList args.toList->FnP P F args W fun v W'=>v=.bool true/\Ext W W')
  (W:World) (base:Nat) (args:Array Value) (ds gs:List (DataW H)) (zcy:List MemPlace)
  (hval:∀(j:Nat) t v,f.params[j]?=some t->args[j]?=some v->Value.okWide P W .any base t v)
  (hW:DataW.Whole enc P f.params.toList s.vars apart W args.toList ds gs zcy) :
  Calls P F args W fun e W'=>∃v,e=.returned v/\s.post enc P f apart fresh handsOn false W args v W':=by
 have hW':=hW
 obtain⟨p,q,hA,hV,_,_,_⟩:=hW
 obtain⟨hg,hlen⟩:=zl0 (fun j t v ht hv=>hval j t v (by simpa using ht) (by simpa using hv)) hA
 refine(law W args hg).2.mono fun e W' ⟨v,he,hvt,hE⟩=>⟨v,he,?_⟩
 subst hvt
 have hg0:gs=[]:=by
  have:=zfr hV
  rw[hv] at this
  exact List.length_eq_zero_iff.1 this
 refine zyp hl hrow hres htb (fun q h _=>?_) (by subst hg0;simpa using hs ds hlen) hW' hE
 subst hg0
 rw[hv] at h ⊢
 exact h
theorem law_at{f:Func}{F:FuncId}{s:ChangeSpec}{apart fresh handsOn:Bool}{tb:TypeId}(hl:laidOutB P=true)
  (hrow:(f.params.toList.all fun t=>P.readableRec t&&decide (t<P.types.size))=true) (hres:f.resultTypes=#[tb]) (htb:P.underlying tb=some .bool) (hv:s.vars=[])
  (hs:∀ds:List (DataW H),ds.length=f.params.toList.length->s.fn H ds={ results:=[.lit (.bool true)],args:=ds,vars:=[] })
  (W:World) (base:Nat) (args:Array Value) (law:zds P W f.params.toList args.toList->FnP P F args W fun v W'=>v=.bool true/\Ext W W') (ds gs:List (DataW H)) (zcy:List MemPlace)
  (hval:∀(j:Nat) t v,f.params[j]?=some t->args[j]?=some v->Value.okWide P W .any base t v)
  (hW:DataW.Whole enc P f.params.toList s.vars apart W args.toList ds gs zcy) :
  Calls P F args W fun e W'=>∃v,e=.returned v/\s.post enc P f apart fresh handsOn false W args v W':=by
 have hW':=hW
 obtain⟨p,q,hA,hV,_,_,_⟩:=hW
 obtain⟨hg,hlen⟩:=zl0 (fun j t v ht hv=>hval j t v (by simpa using ht) (by simpa using hv)) hA
 refine(law hg).2.mono fun e W' ⟨v,he,hvt,hE⟩=>⟨v,he,?_⟩
 subst hvt
 have hg0:gs=[]:=by
  have:=zfr hV
  rw[hv] at this
  exact List.length_eq_zero_iff.1 this
 refine zyp hl hrow hres htb (fun q h _=>?_) (by subst hg0;simpa using hs ds hlen) hW' hE
 subst hg0
 rw[hv] at h ⊢
 exact h
end Go.Sx
namespace Go.Sx
open Go.RowKit
variable {P:Program}
def zoL(P:Program)(rec:TypeId->Option (List TypeId)):Nat->List Field->Option (List TypeId)
 |_,[] => some []
 |off,f::r =>
  match rec f.type,zoL P rec (off+P.cellsOf f.type) r with
  |some l,some l' => bif Nat.beq f.offset off&&Nat.beq l.length (P.cellsOf f.type) then some (l++l') else none
  |_,_ => none
def zjY(l:List TypeId):Nat->List TypeId
 |0 => []
 |n+1 => l++zjY l n
def zm4(P:Program):Nat->TypeId->Option (List TypeId)
 |0,_ => none
 |d+1,t =>
  match P.underlying t with
  |some (.struct fs) =>
   match zoL P (zm4 P d) 0 fs.toList with
   |some l => bif Nat.beq l.length (P.cellsOf t) then some l else none
   |none => none
  |some (.array m e) =>
   match zm4 P d e with
   |some l => bif Nat.beq l.length (P.cellsOf e)&&Nat.beq (zjY l m).length (P.cellsOf t) then some (zjY l m) else none
   |none => none
  |some _ => some [t]
  |none => none
def zGx(P:Program)(w:World)(t:TypeId)(v:Value):Prop:=∃n,Good P w n t [v]
inductive zdi(P:Program)(w:World):List TypeId->List Value->Prop
 |nil:zdi P w [] []
 |cons {t ts v vs}:zGx P w t v->zdi P w ts vs->zdi P w (t::ts) (v::vs)
theorem zdi.append{w:World}{ts us:List TypeId}{vs ws:List Value}(h:zdi P w ts vs)(k:zdi P w us ws):zdi P w (ts++us) (vs++ws):=by
 induction h with
 |nil => exact k
 |cons h1 _ ih => exact .cons h1 ih
theorem zq1{w:World}{rec:TypeId->Option (List TypeId)}{n:Nat}(ih:∀t l cs,rec t=some l->Good P w n t cs->zdi P w l cs):∀(fs:List Field)(off:Nat)(l:List TypeId)(cs:List Value),zoL P rec off fs=some l ->
  (∀f∈fs,Good P w n f.type ((cs.drop f.offset).take (P.cellsOf f.type)))->∃l',zdi P w l l'/\l'=(cs.drop off).take l.length
 |[],off,l,cs,h,_ => by simp[zoL] at h;subst h;exact⟨[],.nil,by simp⟩
 |f::r,off,l,cs,h,hg => by
  unfold zoL at h
  split at h
  ·rename_i l1 l2 h1 h2
   simp only[cond_eq_ite] at h
   split at h
   ·rename_i hc
    simp only[Bool.and_eq_true,Nat.beq_eq] at hc
    obtain⟨ho,hl⟩:=hc
    obtain rfl:=Option.some.inj h
    have g1:=ih _ _ _ h1 (hg f (List.mem_cons_self ..))
    obtain⟨l2',g2,e2⟩:=zq1 ih r _ l2 cs h2 (fun x hx=>hg x (List.mem_cons_of_mem _ hx))
    refine⟨_,g1.append g2,?_⟩
    rw[e2,ho,<-hl,List.length_append,<-List.drop_drop,List.take_add]
   ·cases h
  ·cases h
theorem zq0{w:World}{l:List TypeId}{cs:List Value}{c:Nat}(hc:l.length=c):∀(m off:Nat),(∀i,i<m->zdi P w l ((cs.drop (off+i*c)).take c))->∃l',zdi P w (zjY l m) l'/\l'=(cs.drop off).take (zjY l m).length
 |0,off,_ => ⟨[],.nil,by simp[zjY]⟩
 |m+1,off,h => by
  have h0:=h 0 (by omega)
  obtain⟨l',g,e⟩:=zq0 hc m (off+c) (fun i hi=>by
   have:=h (i+1) (by omega)
   rw[show off+(i+1)*c=off+c+i*c by rw[Nat.add_mul];omega] at this
   exact this)
  refine⟨_,h0.append g,?_⟩
  simp only[zjY,List.length_append,Nat.zero_mul,Nat.add_zero]
  rw[e,hc,<-List.drop_drop,List.take_add]
theorem zc1{w:World}:∀(d:Nat)(t:TypeId)(l:List TypeId)(n:Nat)(cs:List Value),zm4 P d t=some l->Good P w n t cs->zdi P w l cs
 |0,t,l,n,cs,h,_ => by cases h
 |d+1,t,l,0,cs,h,hg => hg.elim
 |d+1,t,l,n+1,cs,h,hg => by
  unfold zm4 at h
  have hg0:=hg
  unfold Good at hg
  cases hu:P.underlying t with
  |none => rw[hu] at h;cases h
  |some u =>
   rw[hu] at h hg
   have hleaf:cs.length=1->zdi P w [t] cs:=by
    intro h1
    match cs,h1 with
    |[v],_ => exact .cons ⟨n+1,hg0⟩ .nil
   cases u with
   |struct fs =>
    simp only at h hg
    split at h
    ·rename_i l0 hl0
     simp only[cond_eq_ite] at h
     split at h
     ·rename_i hc
      have hc:l0.length=P.cellsOf t:=by simpa using hc
      obtain rfl:=Option.some.inj h
      obtain⟨l',g,e⟩:=zq1 (fun t' l1 cs' h1 hg1=>zc1 d t' l1 n cs' h1 hg1) fs.toList 0 l0 cs hl0 hg.2
      rw[hc,<-hg.1] at e
      simp at e
      rw[<-e];exact g
     ·cases h
    ·cases h
   |array m e =>
    simp only at h hg
    split at h
    ·rename_i l0 hl0
     simp only[cond_eq_ite] at h
     split at h
     ·rename_i hc
      simp only[Bool.and_eq_true,Nat.beq_eq] at hc
      obtain rfl:=Option.some.inj h
      obtain⟨l',g,e⟩:=zq0 (P:=P) (w:=w) (cs:=cs) hc.1 m 0 (fun i hi=>by
       have:=zc1 d e l0 n _ hl0 (hg.2 i hi)
       simpa using this)
      rw[hc.2,<-hg.1] at e
      simp at e
      rw[<-e];exact g
     ·cases h
    ·cases h
   |bool => obtain rfl:=Option.some.inj h;obtain⟨_,rfl⟩:=hg;exact hleaf rfl
   |string => obtain rfl:=Option.some.inj h;obtain⟨_,rfl,_⟩:=hg;exact hleaf rfl
   |int k => obtain rfl:=Option.some.inj h;obtain⟨_,rfl,_⟩:=hg;exact hleaf rfl
   |pointer e => obtain rfl:=Option.some.inj h;rcases hg with rfl|⟨_,_,rfl,_⟩<;>exact hleaf rfl
   |slice e => obtain rfl:=Option.some.inj h;rcases hg with rfl|⟨_,_,_,rfl,_⟩<;>exact hleaf rfl
   |_ => obtain rfl:=Option.some.inj h;obtain⟨_,rfl⟩:=hg;exact hleaf rfl
theorem za1{w:World}{t:TypeId}{v:Value}{k:IntKind}(hu:P.underlying t=some (.int k))(h:zGx P w t v):∃x,v=.int k x/\InR k x:=by
 obtain⟨n,h⟩:=h
 cases n with
 |zero => exact h.elim
 |succ n => unfold Good at h;rw[hu] at h;simpa using h
theorem ztY{w:World}{t:TypeId}{v:Value}(hu:P.underlying t=some .bool)(h:zGx P w t v):∃b,v=.bool b:=by
 obtain⟨n,h⟩:=h
 cases n with
 |zero => exact h.elim
 |succ n => unfold Good at h;rw[hu] at h;simpa using h
theorem zec{w:World}{t:TypeId}{v:Value}(hu:P.underlying t=some .string)(h:zGx P w t v):∃s:ByteArray,v=.string s/\s.size<=9223372036854775807:=by
 obtain⟨n,h⟩:=h
 cases n with
 |zero => exact h.elim
 |succ n => unfold Good at h;rw[hu] at h;simpa using h
theorem zi6{w:World}{t e:TypeId}{v:Value}(hu:P.underlying t=some (.slice e))(h:zGx P w t v):∃(p:Option Addr) (len cap:Nat),v=.slice p len cap/\len<=cap/\cap<=9223372036854775807/\(p=none->cap=0) /\
  ∀a,p=some a->∀i,i<cap->∃n es,w.cells? 0 (a.add (i*P.cellsOf e)) (P.cellsOf e)=some es/\Good P w n e es:=by
 obtain⟨n,h⟩:=h
 cases n with
 |zero => exact h.elim
 |succ n =>
  unfold Good at h
  rw[hu] at h
  rcases h with h|⟨a,len,cap,h,h1,h2,h3⟩
  ·simp only[List.cons.injEq,and_true] at h
   exact⟨none,0,0,h,Nat.le_refl _,by omega,fun _=>rfl,fun a ha=>by cases ha⟩
  ·simp only[List.cons.injEq,and_true] at h
   refine⟨some a,len,cap,h,h1,h2,fun ha=>(by cases ha),fun b hb i hi=>?_⟩
   obtain rfl:=Option.some.inj hb
   obtain⟨es,h4,h5⟩:=h3 i hi
   exact⟨n,es,h4,h5⟩
theorem ztI{w:World}{t:TypeId}{v:Value}{d:Nat}{l:List TypeId}(hl:zm4 P d t=some l)(h:zAE P w t v):∃cs,zdi P w l cs/\v=bif zcS P t then .agg cs.toArray else cs.headD undef:=by
 obtain⟨n,cs,hg,hv⟩:=h
 exact⟨cs,zc1 d t l n cs hl hg,hv⟩
theorem zar{w:World}{t:TypeId}{ts:List TypeId}{cs:List Value}(h:zdi P w (t::ts) cs):∃v vs,cs=v::vs/\zGx P w t v/\zdi P w ts vs:=by
 cases h with
 |cons h1 h2 => exact⟨_,_,rfl,h1,h2⟩
theorem ziy{w:World}{cs:List Value}(h:zdi P w [] cs):cs=[]:=by cases h;rfl
theorem ztH{w:World}{t:TypeId}{ts:List TypeId}{cs:List Value}(h:zds P w (t::ts) cs):∃v vs,cs=v::vs/\zAE P w t v/\zds P w ts vs:=by
 cases h with
 |cons h1 h2 => exact⟨_,_,rfl,h1,h2⟩
theorem zwi{w:World}{cs:List Value}(h:zds P w [] cs):cs=[]:=by cases h;rfl
end Go.Sx
namespace Go.Sx
open Go.RowKit
variable {P:Program}
structure zbA(P:Program)(w:World)(e:TypeId)(p:Option Addr)(l c:Nat):Prop where
 le:l<=c
 max:c<=9223372036854775807
 nil:p=none->c=0
 el:∀a,p=some a->∀i,i<c->∃n es,w.cells? 0 (a.add (i*P.cellsOf e)) (P.cellsOf e)=some es/\Good P w n e es
def zvC(P:Program)(w:World)(t:TypeId)(R:Value->Prop):Prop :=
 match P.underlying t with
 |some (.int k) => ∀x:Int,InR k x->R (.int k x)
 |some .bool => ∀b:Bool,R (.bool b)
 |some .string => ∀s:ByteArray,s.size<=9223372036854775807->R (.string s)
 |some (.slice e) => ∀(p:Option Addr)(l c:Nat),zbA P w e p l c->R (.slice p l c)
 |_ => ∀v,zGx P w t v->R v
def zoa(P:Program)(w:World):List TypeId->(List Value->Prop)->Prop
 |[],R => R []
 |t::ts,R => zvC P w t fun v => zoa P w ts fun vs => R (v::vs)
def zh7(P:Program)(w:World):List TypeId->(List Value->Prop)->Prop
 |[],R => R []
 |t::ts,R =>
  match zm4 P 6 t with
  |some l => zoa P w l fun cs => zh7 P w ts fun vs => R ((bif zcS P t then .agg cs.toArray else cs.headD undef)::vs)
  |none => ∀v,zAE P w t v->zh7 P w ts fun vs => R (v::vs)
theorem zzQ{w:World}{t:TypeId}{R:Value->Prop}(h:zvC P w t R){v:Value}(hl:zGx P w t v):R v:=by
 unfold zvC at h
 split at h
 ·rename_i k hu
  obtain⟨x,rfl,hx⟩:=za1 hu hl
  exact h x hx
 ·rename_i hu
  obtain⟨b,rfl⟩:=ztY hu hl
  exact h b
 ·rename_i hu
  obtain⟨s,rfl,hs⟩:=zec hu hl
  exact h s hs
 ·rename_i e hu
  obtain⟨p,l,c,rfl,h1,h2,h3,h4⟩:=zi6 hu hl
  exact h p l c ⟨h1,h2,h3,h4⟩
 ·exact h v hl
theorem zm5{w:World}:∀{l:List TypeId}{R:List Value->Prop},zoa P w l R->∀{cs:List Value},zdi P w l cs->R cs
 |[],R,h,cs,hl => by obtain rfl:=ziy hl;exact h
 |t::ts,R,h,cs,hl => by
  obtain⟨v,vs,rfl,h1,h2⟩:=zar hl
  exact zm5 (zzQ h h1) h2
theorem zlM{w:World}:∀{ts:List TypeId}{R:List Value->Prop},zh7 P w ts R->∀{vs:List Value},zds P w ts vs->R vs
 |[],R,h,vs,hg => by obtain rfl:=zwi hg;exact h
 |t::ts,R,h,vs,hg => by
  obtain⟨v,vs,rfl,h1,h2⟩:=ztH hg
  unfold zh7 at h
  split at h
  ·rename_i l hl
   obtain⟨cs,h3,rfl⟩:=ztI hl h1
   exact zlM (R:=fun vs=>R ((bif zcS P t then .agg cs.toArray else cs.headD undef)::vs)) (zm5 h h3) h2
  ·exact zlM (R:=fun vs=>R (v::vs)) (h v h1) h2
theorem zod{w:World}{ts:List TypeId}{R:Array Value->Prop}(h:zh7 P w ts fun l=>R l.toArray)(args:Array Value)(hg:zds P w ts args.toList):R args:=by
 have:=zlM h hg
 simpa using this
end Go.Sx
namespace Go.Sx
open Go.RowKit
variable {P:Program}
theorem add_zero(a:Addr):a.add 0=a:=by simp[Addr.add]
theorem ze9(a:Addr)(m n:Nat):(a.add m).add n=a.add (m+n):=by
 unfold Addr.add
 by_cases hm:m=0
 ·subst hm;simp
 ·by_cases hn:n=0
  ·subst hn;simp[hm]
  ·rw[if_neg hm,if_neg hn,if_neg (by omega)];simp[Nat.add_assoc]
theorem zad(w:World)(p:Option Addr)(i:Int)(n j:Nat):cell w (pIdx p i n) j=cell w p (i.toNat*n+j):=by
 cases p with
 |none => rfl
 |some a => simp[cell,pIdx,ze9]
theorem zam(w:World)(p:Option Addr)(m j:Nat):cell w (pAdd p m) j=cell w p (m+j):=by
 cases p with
 |none => rfl
 |some a => simp[cell,pAdd,ze9]
theorem zfj(p:Option Addr)(c n:Nat):pCut p c 0 n=p:=by
 unfold pCut
 split
 ·rfl
 ·cases p<;>simp[add_zero]
theorem zah{p:Option Addr}{i:Int}{n:Nat}:pIdx p i n=none↔p=none:=by cases p<;>simp[pIdx]
theorem zc3{p:Option Addr}{n:Nat}:pAdd p n=none↔p=none:=by cases p<;>simp[pAdd]
theorem zdu{w:World}{p:Option Addr}{i:Nat}{v:Value}(h:cell w p i=some v):∃a,p=some a/\a.block<w.heap.size/\w.cell? (a.add i)=some v:=by
 cases p with
 |none => cases h
 |some a =>
  refine⟨a,rfl,?_,h⟩
  have:=World.block_lt_of_cell? w (a.add i) h
  rwa [zaO] at this
theorem zH6{w:World}{p:Option Addr}{i:Nat}{v:Value}(h:cell w p i=some v):p≠none:=by
 intro hp;subst hp;cases h
theorem zaH{w w':World}(he:Ext w w'){p:Option Addr}{i:Nat}{v:Value}(h:cell w p i=some v):cell w' p i=some v:=by
 obtain⟨a,rfl,hb,h⟩:=zdu h
 have:=Below.cell he (p:=a.add i) (by rw[zaO];exact hb)
 simp only[cell,Option.bind_some] at this ⊢
 rw[this];exact h
def zat(w:World)(p:Option Addr)(vs:List Value):Prop:=∀i v,vs[i]?=some v->cell w p i=some v
theorem zat.ext{w w':World}{p:Option Addr}{vs:List Value}(h:zat w p vs)(he:Ext w w'):zat w' p vs:=fun i v hv=>zaH he (h i v hv)
theorem zat.nil{w:World}{p:Option Addr}:zat w p []:=fun i v hv=>by simp at hv
theorem zat.at{w:World}{p:Option Addr}{vs:List Value}(h:zat w p vs)(i:Nat)(hi:i<vs.length):cell w p i=some vs[i]:=h i _ (List.getElem?_eq_getElem hi)
theorem zat.lt{w:World}{p:Option Addr}{vs:List Value}(h:zat w p vs)(hv:vs≠[]):∀a,p=some a->a.block<w.heap.size:=by
 intro a ha
 subst ha
 have:=h.at 0 (by cases vs<;>simp_all)
 obtain⟨b,hb,hl,_⟩:=zdu this
 obtain rfl:=Option.some.inj hb
 exact hl
theorem zat.ne{w:World}{p:Option Addr}{vs:List Value}(h:zat w p vs)(hv:vs≠[]):p≠none:=by
 have:=h.at 0 (by cases vs<;>simp_all)
 exact zH6 this
abbrev zdJ(k:IntKind)(w:World)(p:Option Addr)(xs:List Int):Prop:=zat w p (xs.map (.int k))
theorem zdJ.idx{k:IntKind}{w:World}{p:Option Addr}{xs:List Int}(h:zdJ k w p xs){i:Int}(h0:0<=i)(hi:i<xs.length):cell w (pIdx p i 1) 0=some (.int k (xs.getD i.toNat 0)):=by
 rw[zad]
 refine h _ _ ?_
 have:i.toNat<xs.length:=by omega
 simp[this,List.getD_eq_getElem?_getD]
theorem zoS{f:Nat->Option Value}:∀{n:Nat}{es:List Value},(List.range n).mapM f=some es->es.length=n/\∀i u,es[i]?=some u->f i=some u:=by
 intro n es h
 have hg:∀(l:List Nat)(es:List Value),l.mapM f=some es->es.length=l.length/\∀(i:Nat)(u:Value),es[i]?=some u->∃j:Nat,l[i]?=some j/\f j=some u:=by
  intro l
  induction l with
  |nil => intro es h;simp at h;subst h;exact⟨rfl,fun i u h => by simp at h⟩
  |cons a r ih =>
   intro es h
   simp only[List.mapM_cons,Option.bind_eq_bind,Option.bind_eq_some_iff,Option.pure_def,Option.some.injEq] at h
   obtain⟨y,hy,ys,hys,rfl⟩:=h
   obtain⟨h1,h2⟩:=ih ys hys
   refine⟨by simp[h1],fun i u hu=>?_⟩
   cases i with
   |zero => simp at hu;subst hu;exact⟨a,rfl,hy⟩
   |succ i => simp at hu;simpa using h2 i u hu
 obtain⟨h1,h2⟩:=hg _ _ h
 refine⟨by simpa using h1,fun i u hu=>?_⟩
 obtain⟨j,hj,hf⟩:=h2 i u hu
 obtain⟨_,rfl⟩:=List.getElem?_eq_some_iff.1 hj
 simpa using hf
theorem cells?_some{w:World}{a:Addr}{n:Nat}{es:List Value}(h:w.cells? 0 a n=some es):es.length=n/\zat w (some a) es:=by
 unfold World.cells? at h
 rw[if_pos (Nat.zero_le _)] at h
 obtain⟨h1,h2⟩:=zoS h
 exact⟨h1,fun i v hv=>h2 i v hv⟩
theorem zbA.list{w:World}{e:TypeId}{p:Option Addr}{l c:Nat}{α:Type}(h:zbA P w e p l c)(enc:α->List Value)(ok:α->Prop)
  (hr:∀n es,Good P w n e es->es.length=P.cellsOf e->∃x,es=enc x/\ok x) :
  ∃xs:List α,xs.length=l/\(∀x∈xs,ok x)/\∀(i:Nat)(x:α),xs[i]?=some x->∀j u,(enc x)[j]?=some u->cell w p (i*P.cellsOf e+j)=some u:=by
 have key:∀m,m<=l->∃xs:List α,xs.length=m/\(∀x∈xs,ok x)/\∀(i:Nat)(x:α),xs[i]?=some x->∀j u,(enc x)[j]?=some u->cell w p (i*P.cellsOf e+j)=some u:=by
  intro m
  induction m with
  |zero => exact fun _ => ⟨[],rfl,(fun x hx => by cases hx),(fun i x hx => by simp at hx)⟩
  |succ m ih =>
   intro hm
   obtain⟨xs,h1,h2,h3⟩:=ih (by omega)
   have hc:=h.le
   cases p with
   |none => have:=h.nil rfl;omega
   |some a =>
    obtain⟨n,es,h4,h5⟩:=h.el a rfl m (by omega)
    obtain⟨h6,h7⟩:=cells?_some h4
    obtain⟨x,rfl,hx⟩:=hr n es h5 h6
    refine⟨xs++[x],by simp[h1],fun y hy=>?_,fun i y hy j u hu=>?_⟩
    ·rcases List.mem_append.1 hy with hy|hy
     ·exact h2 y hy
     ·simp at hy;subst hy;exact hx
    ·by_cases hi:i<xs.length
     ·rw[List.getElem?_append_left hi] at hy
      exact h3 i y hy j u hu
     ·rw[List.getElem?_append_right (by omega)] at hy
      obtain⟨hlt,he⟩:=List.getElem?_eq_some_iff.1 hy
      simp at hlt he
      obtain rfl:i=m:=by omega
      subst he
      have:=h7 j u hu
      simpa[cell,ze9] using this
 exact key l (Nat.le_refl _)
abbrev Own(B:Nat)(w:World)(e:TypeId)(s:Nat)(p:Option Addr)(n c:Nat)(xs:List Value):Prop:=w.ownsRow B e s (.slice p n c) n xs
def blk(p:Option Addr):Option Nat:=p.map (·.block)
structure zbN(w w':World)(p q:Option Addr):Prop where
 by_:w.grownBy w' (blk p)
 new:blk q=blk p\/∀a,q=some a->w.heap.size<=a.block
def zbo(p q:Option Addr):Prop:=∀a b,p=some a->q=some b->a.block≠b.block
theorem zbo.symm{p q:Option Addr}(h:zbo p q):zbo q p:=fun a b ha hb he=>h b a hb ha he.symm
theorem zbo.nil{p:Option Addr}:zbo p none:=fun a b _ hb=>by cases hb
theorem Own.nil{B:Nat}{w:World}{e:TypeId}{s:Nat}:Own B w e s none 0 0 []:=World.ownsRow_nil w B e s
theorem Own.lt{B:Nat}{w:World}{e:TypeId}{s:Nat}{p:Option Addr}{n c:Nat}{xs:List Value}(h:Own B w e s p n c xs):∀a,p=some a->B<=a.block/\a.block<w.heap.size:=by
 intro a ha
 subst ha
 exact World.ownsRow.lt h a.block rfl
theorem Own.len{B:Nat}{w:World}{e:TypeId}{s:Nat}{p:Option Addr}{n c:Nat}{xs:List Value}(h:Own B w e s p n c xs):xs.length=n*s:=h.1
theorem Own.le{B:Nat}{w:World}{e:TypeId}{s:Nat}{p:Option Addr}{n c:Nat}{xs:List Value}(h:Own B w e s p n c xs):n<=c/\c<=9223372036854775807:=by
 rcases h.2 with⟨h1,h2⟩|⟨g,cap,cur,h1,_,_,h2,h3,_⟩
 ·simp at h1;omega
 ·simp at h1;simp[maxLen] at h3;omega
theorem Own.cells{B:Nat}{w:World}{e:TypeId}{s:Nat}{p:Option Addr}{n c:Nat}{xs:List Value}(h:Own B w e s p n c xs):zat w p xs:=by
 intro i v hv
 rcases h.2 with⟨h1,h2⟩|⟨g,cap,cur,h1,_⟩
 ·have:=h.1;subst h2;simp at this;subst this;simp at hv
 ·simp at h1
  obtain⟨rfl,rfl⟩:=h1
  have:=World.ownsRow.cells h (g:=g) rfl i v hv
  exact this
theorem Own.grew{B B':Nat}{w w':World}{e:TypeId}{s:Nat}{p q q':Option Addr}{n c:Nat}{xs:List Value}(h:Own B w e s p n c xs)(ha:zbo p q)(hg:zbN w w' q q'):Own B w' e s p n c xs:=by
 refine World.ownsRow.kept h hg.by_ ?_
 cases p with
 |none => exact .inl rfl
 |some a =>
  refine .inr ?_
  cases q with
  |none => simp[blk,Value.ownBlock]
  |some b => simp[blk,Value.ownBlock];exact ha a b rfl rfl
theorem zbo.grew{B:Nat}{w w':World}{e:TypeId}{s:Nat}{p q q':Option Addr}{n c:Nat}{xs:List Value}(ha:zbo p q)(h:Own B w e s p n c xs)(hg:zbN w w' q q'):zbo p q':=by
 intro a b h1 h2 he
 rcases hg.new with hn|hn
 ·subst h2;subst h1
  cases q with
  |none => simp[blk] at hn
  |some x => simp[blk] at hn;exact ha a x rfl rfl (by omega)
 ·have:=hn b h2
  have:=(h.lt a h1).2
  omega
theorem zat.grew{w w':World}{p q q':Option Addr}{vs:List Value}(h:zat w p vs)(ha:zbo p q)(hg:zbN w w' q q'):zat w' p vs:=by
 intro i v hv
 obtain⟨a,rfl,hb,hc⟩:=zdu (h i v hv)
 refine World.grownBy.cell hg.by_ hc ?_
 rw[zaO]
 cases q with
 |none => simp[blk]
 |some b => simp[blk];exact ha a b rfl rfl
theorem zbo.grewC{w w':World}{p q q':Option Addr}(ha:zbo p q)(h:∀a,p=some a->a.block<w.heap.size)(hg:zbN w w' q q'):zbo p q':=by
 intro a b h1 h2 he
 rcases hg.new with hn|hn
 ·subst h2;subst h1
  cases q with
  |none => simp[blk] at hn
  |some x => simp[blk] at hn;exact ha a x rfl rfl (by omega)
 ·have:=hn b h2
  have:=h a h1
  omega
theorem zbN.below{B:Nat}{w0 w w':World}{p q:Option Addr}(hg:zbN w w' p q)(h:Below B w0 w)(hB:B<=w.heap.size)(hp:∀a,p=some a->B<=a.block):Below B w0 w' :=
 Below.grown h hg.by_ hB (fun k hk=>by
  cases p with
  |none => cases hk
  |some a => simp[blk] at hk;subst hk;exact hp a rfl)
theorem zbN.ext{w0 w w':World}{e:TypeId}{s:Nat}{p q:Option Addr}{n c:Nat}{xs:List Value}(hg:zbN w w' p q)(h:Ext w0 w)(ho:Own w0.heap.size w e s p n c xs):Ext w0 w' :=
 zbN.below hg h h.size (fun a ha=>(Own.lt ho a ha).1)
theorem zbN.size{w w':World}{p q:Option Addr}(hg:zbN w w' p q):w.heap.size<=w'.heap.size:=hg.by_.size
theorem zye{w w':World}(h:Ext w w'):zbN w w' none none:=⟨⟨h.os,h.tape,h.output,h.size,fun k hk _=>h.block k hk⟩,.inl rfl⟩
theorem zbN.of_ext{w w' w'':World}{p q:Option Addr}(h:Ext w w')(hg:zbN w' w'' p q):zbN w w'' p q :=
 ⟨⟨hg.by_.os.trans h.os,hg.by_.tape.trans h.tape,hg.by_.output.trans h.output,Nat.le_trans h.size hg.by_.size,
  fun k hk hne=>(hg.by_.block k (Nat.lt_of_lt_of_le hk h.size) hne).trans (h.block k hk)⟩,hg.new.imp id (fun f a ha=>Nat.le_trans h.size (f a ha))⟩
theorem Own.ext{B:Nat}{w w':World}{e:TypeId}{s:Nat}{p:Option Addr}{n c:Nat}{xs:List Value}(h:Own B w e s p n c xs)(he:Ext w w'):Own B w' e s p n c xs :=
 Own.grew (B':=B) h zbo.nil (zye he)
theorem Own.weak{B B':Nat}{w:World}{e:TypeId}{s:Nat}{p:Option Addr}{n c:Nat}{xs:List Value}(h:Own B w e s p n c xs)(hb:B'<=B):Own B' w e s p n c xs:=by
 refine⟨h.1,h.2.imp id ?_⟩
 rintro⟨g,cap,cur,h1,h2,h3⟩
 exact⟨g,cap,cur,h1,by omega,h3⟩
def zfz(P:Program)(t:TypeId):Option (TypeId×Nat×Nat×Value) :=
 match P.underlying t with
 |some (.slice e) =>
  match P.info? e with
  |some i => match i.zero with
   |some z => bif Nat.beq z.cells.size i.size then some (e,i.size,i.bytes,z) else none
   |none => none
  |none => none
 |_ => none
theorem zdE{t e:TypeId}{s b:Nat}{z:Value}(h:zfz P t=some (e,s,b,z)):∃i,P.underlying t=some (.slice e)/\P.info? e=some i/\i.zero=some z/\i.size=s/\i.bytes=b/\z.cells.size=s:=by
 unfold zfz at h
 split at h
 ·rename_i e' hu
  split at h
  ·rename_i i hi
   split at h
   ·rename_i z' hz
    simp only[cond_eq_ite] at h
    split at h
    ·rename_i hc
     simp only[Option.some.injEq,Prod.mk.injEq] at h
     obtain⟨rfl,rfl,rfl,rfl⟩:=h
     exact⟨i,hu,hi,hz,rfl,rfl,Nat.eq_of_beq_eq_true hc⟩
    ·cases h
   ·cases h
  ·cases h
 ·cases h
theorem ztF(off:Nat):∀(l:List Value)(k:Nat)(cs:Array Value),off+k+l.length<=cs.size ->
  ((l.zipIdx k).foldl (fun(cs:Array Value) (x:Value×Nat)=>cs.setIfInBounds (off+x.2) x.1) cs).toList=cs.toList.take (off+k)++l++cs.toList.drop (off+k+l.length)
 |[],k,cs,h => by simp
 |v::r,k,cs,h => by
  simp only[List.zipIdx_cons,List.foldl_cons]
  simp only[List.length_cons] at h
  rw[ztF off r (k+1) _ (by simp;omega)]
  have hlt:off+k<cs.size:=by omega
  simp only[Array.toList_setIfInBounds]
  have e1:(cs.toList.set (off+k) v).take (off+(k+1))=cs.toList.take (off+k)++[v]:=by
   rw[<-Nat.add_assoc,List.take_set]
   rw[List.take_succ_eq_append_getElem (by simpa using hlt)]
   rw[List.set_append_right _ _ (by simp;omega)]
   simp[Nat.min_eq_left (Nat.le_of_lt hlt)]
  have e2:(cs.toList.set (off+k) v).drop (off+(k+1)+r.length)=cs.toList.drop (off+k+(r.length+1)):=by
   rw[List.drop_set_of_lt (by omega)]
   congr 1;omega
  rw[e1,e2]
  simp
def zkb:Nat->List Value->List (Nat×Value)
 |_,[] => []
 |i,v::r => (i,v)::zkb (i+1) r
theorem zqU(s:Nat):∀(vs:List Value)(i:Nat)(cs:Array Value),(∀v∈vs,v.cells.size=s)->i*s+vs.length*s<=cs.size ->
  ∃out,Instr.fill (fun i=>some (i*s,s)) cs (zkb i vs)=some out/\out.toList=cs.toList.take (i*s)++vs.flatMap (fun v=>v.cells.toList)++cs.toList.drop (i*s+vs.length*s)
 |[],i,cs,_,h => ⟨cs,rfl,by simp⟩
 |v::r,i,cs,hs,h => by
  have hv:=hs v (List.mem_cons_self ..)
  simp only[List.length_cons,Nat.add_mul,Nat.one_mul] at h
  have h1:i*s+s<=cs.size:=by omega
  let cs':=v.cells.zipIdx.foldl (fun(cs:Array Value) (x:Value×Nat)=>cs.setIfInBounds (i*s+x.2) x.1) cs
  have e1:cs'.toList=cs.toList.take (i*s)++v.cells.toList++cs.toList.drop (i*s+s):=by
   have:=ztF (i*s) v.cells.toList 0 cs (by simp;omega)
   simp only[Nat.add_zero,Array.length_toList,hv] at this
   rw[<-this]
   have e0:cs'=v.cells.zipIdx.toList.foldl (fun(cs:Array Value) (x:Value×Nat)=>cs.setIfInBounds (i*s+x.2) x.1) cs:=by rw[Array.foldl_toList]
   rw[e0,Array.toList_zipIdx]
  have hsz:cs'.size=cs.size:=by
   have:=congrArg List.length e1
   simp[hv] at this;omega
  obtain⟨out,h2,h3⟩:=zqU s r (i+1) cs' (fun u hu=>hs u (List.mem_cons_of_mem _ hu)) (by rw[hsz,Nat.add_mul];omega)
  refine⟨out,?_,?_⟩
  ·simp only[zkb,Instr.fill]
   rw[if_neg (by simp[hv];omega)]
   exact h2
  ·rw[h3,e1]
   have hl:(cs.toList.take (i*s)).length=i*s:=by simp;omega
   have hl2:(cs.toList.take (i*s)++v.cells.toList).length=(i+1)*s:=by simp[hv,Nat.add_mul];omega
   rw[List.take_append_of_le_length (by omega),List.take_of_length_le (by omega)]
   rw[List.drop_append,List.drop_of_length_le (by omega),hl2,List.drop_drop]
   simp only[List.nil_append,List.flatMap_cons,List.length_cons,List.append_assoc]
   congr 4
   simp only[Nat.add_mul,Nat.one_mul];omega
theorem zbY{t e:TypeId}{s b:Nat}{z:Value}(he:zfz P t=some (e,s,b,z))(vs:List Value){n:Nat}{parts:List (Nat×Value)}{w:World}{K:Value->World->Prop}(hp:parts=zkb 0 vs)(hn:n=vs.length)
  (hs:∀v∈vs,v.cells.size=s) (h0:0<n*s) (h24:n*s<=16777216)
  (hk:∀w',(∀B,B<=w.heap.size->Own B w' e s (some ⟨w.heap.size,0,none⟩) n n (vs.flatMap fun v=>v.cells.toList))->Ext w w'->K (.slice (some ⟨w.heap.size,0,none⟩) n n) w'):Run P (.buildSlice t n parts) w K:=by
 obtain⟨i,h1,h2,h3,rfl,rfl,h6⟩:=zdE he
 subst hp;subst hn
 obtain⟨out,h7,h8⟩:=zqU i.size vs 0 ((Array.range (vs.length*i.size)).map (z.cells[·%z.cells.size]!)) hs (by simp)
 have h9:out.toList=vs.flatMap fun v=>v.cells.toList:=by rw[h8];simp
 have hlen:(vs.flatMap fun v=>v.cells.toList).length=vs.length*i.size:=by
  clear h7 h8 h9 hk h24 h0
  induction vs with
  |nil => simp
  |cons v r ih =>
   simp only[List.flatMap_cons,List.length_append,Array.length_toList,List.length_cons,Nat.add_mul,Nat.one_mul]
   rw[ih (fun u hu=>hs u (List.mem_cons_of_mem _ hu)),hs v (List.mem_cons_self ..)];omega
 refine⟨_,w.alloc (.cells out e),?_,hk _ (fun B hB=>⟨hlen,.inr ⟨w.heap.size,vs.length,out,rfl,hB,heap_alloc_new w _,Nat.le_refl _,?_,?_,?_⟩⟩) ?_⟩
 ·show(Instr.buildSlice t vs.length _).run P w=_
  exact run_buildSlice w t e vs.length _ out i z h1 h2 h3 (by omega) (by omega) (by simpa using h7)
 ·simp only[maxLen]
  have:vs.length<=vs.length*i.size:=Nat.le_mul_of_pos_right _ (by rcases Nat.eq_zero_or_pos i.size with h|h;(· rw[h] at h0;simp at h0);exact h)
  omega
 ·rw[<-Array.length_toList,h9,hlen]
 ·rw[h9,<-hlen,List.take_length]
 ·exact Below.alloc (Below.refl _ _) (Nat.le_refl _) _
theorem zA7{t ty e:TypeId}{i:TypeInfo}{z:Value}(g1:P.underlying t=some (.slice e))(g2:P.info? e=some i)(g3:i.zero=some z)(g6:z.cells.size=i.size)(hs:0<i.size)
  {B:Nat} {w:World} {p:Option Addr} {a:Addr} {n c m d:Nat} {xs news:List Value}
  (ho:Own B w e i.size p n c xs) (hB:B<=w.heap.size) (hl:news.length=m*i.size) (hn:zat w (some a) news) (h1:∀u∈news,u.oneCell'=true) (hb:(n+m)*i.bytes<=140737488355328) (hm:n+m<=9223372036854775807) :
  ∃p' c' w',(Builtin.append_ #[t,t] ty #[.slice p n c,.slice (some a) m d]).run P w=.ok (.slice p' (n+m) c') w'/\Own B w' e i.size p' (n+m) c' (xs++news)/\zbN w w' p p'/\(p'=none↔p=none/\m=0):=by
 have hlen:(xs++news).length=(n+m)*i.size:=by rw[List.length_append,ho.1,hl,Nat.add_mul]
 have hmax:n+m<=maxLen:=by simp only[maxLen];omega
 have fresh:∀(old:Nat),old<n+m->∀cur:Array Value,cur=xs.toArray++news.toArray++Builtin.zeroCells z.cells (grownCap w (n+m) old e-(n+m)) ->
   Own B (w.drew.alloc (.cells cur e)) e i.size (some ⟨w.heap.size,0,none⟩) (n+m) (grownCap w (n+m) old e) (xs++news)/\zbN w (w.drew.alloc (.cells cur e)) p (some ⟨w.heap.size,0,none⟩):=by
  intro old hold cur hcur
  have hge:=grownCap_ge w (n+m) old e
  refine⟨⟨hlen,.inr ⟨w.heap.size,_,_,rfl,hB,heap_alloc_new w.drew _,hge,grownCap_le_maxLen w (n+m) old e hmax,?_,?_⟩⟩,⟨⟨rfl,rfl,rfl,by simp,fun k hk _=>World.grownBy_alloc w.drew _ none |>.block k hk (by simp)⟩,.inr fun x hx=>?_⟩⟩
  ·subst hcur
   simp only[Array.size_append,List.size_toArray,size_zeroCells,g6,ho.1,hl,<-Nat.add_mul]
   congr 1;omega
  ·subst hcur
   simp only[Array.toList_append]
   rw[<-hlen];exact List.take_left
  ·obtain rfl:=Option.some.inj hx;exact Nat.le_refl _
 rcases ho.2 with⟨hv,hn0⟩|⟨g,cap,cur,hv,hbg,hg,hnc,hcm,hcs,htake⟩
 ·obtain⟨rfl,_,rfl⟩:p=none/\n=0/\c=0:=by simpa using hv
  subst hn0
  have hx:xs=[]:=List.eq_nil_of_length_eq_zero (by simpa using ho.1)
  subst hx
  by_cases hm0:m=0
  ·subst hm0
   have hnn:news=[]:=List.eq_nil_of_length_eq_zero (by simpa using hl)
   subst hnn
   refine⟨none,0,w,?_,Own.nil,zye (Below.refl _ _),by simp⟩
   simp[Builtin.append_,run_underlying g1,sizeOf,typeInfo,g2,Builtin.lenOf,Builtin.firstCells,loadCells,loadCellsFrom]
  ·have hr:=run_append_nil (P:=P) w t ty e i z g1 g2 g3 a m d news hl hn (by omega) (by omega) (by have h:=hb;simp only[Nat.zero_add] at h;omega)
   have hf:=fresh 0 (by omega) _ rfl
   simp only[Nat.zero_add,List.nil_append,Array.empty_append] at hf ⊢
   exact⟨_,_,_,hr,hf.1,hf.2,by simp[hm0]⟩
 ·obtain⟨rfl,_,rfl⟩:p=some ⟨g,0,none⟩/\n=n/\c=cap:=by simpa using hv
  by_cases hroom:n+m<=c
  ·have hfit:n*i.size+news.length<=cur.size:=by rw[hl,hcs,<-Nat.add_mul];exact Nat.mul_le_mul_right _ hroom
   have hr:=run_append_room (P:=P) w t ty e i g1 g2 g n c cur hg a m d news hl hn h1 hroom hfit
   refine⟨_,_,_,hr,⟨hlen,.inr ⟨g,c,_,rfl,hbg,setRow_heap w g cur _ e _ hg,hroom,hcm,?_,?_⟩⟩,⟨⟨rfl,rfl,rfl,by simp,fun k _ hk=>setRow_other w g k _ (fun e=>hk (by simp[blk,e]))⟩,.inl rfl⟩,by simp⟩
   ·simp only[List.size_toArray,List.length_append,List.length_take,List.length_drop,Array.length_toList]
    omega
   ·rw[htake,<-hlen]
    exact List.take_left
  ·have hr:=run_append_grow (P:=P) w t ty e i z g1 g2 g3 ⟨g,0,none⟩ n c xs ho.1 (World.ownsRow.cells ho (g:=g) rfl) a m d news hl hn (by omega) (by omega) (growslice_fits (by omega) hb)
   have hf:=fresh c (by omega) _ rfl
   exact⟨_,_,_,hr,hf.1,hf.2,by simp⟩
theorem zms{t ty e:TypeId}{s b:Nat}{z:Value}(he:zfz P t=some (e,s,b,z))(hs:0<s){B:Nat}{w:World}{p q:Option Addr}{n c m d:Nat}{xs news:List Value}{K:Value->World->Prop}
  (ho:Own B w e s p n c xs) (hB:B<=w.heap.size) (hq:q≠none) (hl:news.length=m*s) (hn:zat w q news) (h1:∀u∈news,u.oneCell'=true) (hb:(n+m)*b<=140737488355328) (hm:n+m<=9223372036854775807)
  (hk:∀p' c' w',Own B w' e s p' (n+m) c' (xs++news)->zbN w w' p p'->(p'=none↔p=none/\m=0)->K (.slice p' (n+m) c') w'):Run P (.append #[t,t] ty [.slice p n c,.slice q m d]) w K:=by
 obtain⟨i,g1,g2,g3,rfl,rfl,g6⟩:=zdE he
 cases q with
 |none => exact absurd rfl hq
 |some a =>
  obtain⟨p',c',w',hr,h2,h3,h4⟩:=zA7 (ty:=ty) (d:=d) g1 g2 g3 g6 hs ho hB hl hn h1 hb hm
  exact⟨_,w',hr,hk p' c' w' h2 h3 h4⟩
theorem push{t ty e:TypeId}{s b:Nat}{z:Value}(he:zfz P t=some (e,s,b,z))(hs:0<s){B:Nat}{w:World}{p:Option Addr}{n c:Nat}{xs:List Value}{v:Value}
  {K:Option Addr->Nat->Nat->World->Prop} (ho:Own B w e s p n c xs) (hB:B<=w.heap.size) (hv:v.cells.size=s) (h1:∀u∈v.cells.toList,u.oneCell'=true) (hb:(n+1)*b<=140737488355328) (hs24:s<=16777216) (hm:n+1<=9223372036854775807)
  (hk:∀p' c' w',Own B w' e s p' (n+1) c' (xs++v.cells.toList)->zbN w w' p p'->p'≠none->K p' (n+1) c' w') :
  ∀w1,Ext w w1->Run P (.buildSlice t 1 [(0,v)]) w1 fun v2 w2=>Ext w1 w2/\∃q:Option Addr,∃m:Nat,∃d:Nat,v2=.slice q m d/\∀w3,Ext w2 w3 ->
   Run P (.append #[t,t] ty [.slice p n c,.slice q m d]) w3 fun v4 w4=>∃q':Option Addr,∃m':Nat,∃d':Nat,v4=.slice q' m' d'/\K q' m' d' w4:=by
 intro w1 e1
 refine zbY he [v] rfl rfl (fun u hu=>by simp at hu;subst hu;exact hv) (by omega) (by omega) fun w2 o2 e2=>⟨e2,_,_,_,rfl,fun w3 e3=>?_⟩
 have o2:=(o2 w1.heap.size (Nat.le_refl _)).ext e3
 have ho':=((ho.ext e1).ext e2).ext e3
 have hsz:B<=w3.heap.size:=Nat.le_trans hB (Nat.le_trans e1.size (Nat.le_trans e2.size e3.size))
 refine zms he hs ho' hsz (by simp) (news:=v.cells.toList) (by simp[hv]) (by simpa using o2.cells) h1 hb hm fun p' c' w4 h2 h3 h4=>⟨_,_,_,rfl,hk p' c' w4 h2 ?_ ?_⟩
 ·exact zbN.of_ext e1 (zbN.of_ext e2 (zbN.of_ext e3 h3))
 ·intro hn;have:=h4.1 hn;omega
def zct:List Value->Nat->List Value->List Value
 |xs,_,[] => xs
 |xs,i,v::r => zct (xs.set i v) (i+1) r
theorem ziJ:∀(vs xs:List Value)(i:Nat),(zct xs i vs).length=xs.length
 |[],xs,i => rfl
 |v::r,xs,i => by simp[zct,ziJ r]
theorem zJn{B:Nat}{w:World}{e:TypeId}{s:Nat}{a:Addr}{n c:Nat}{xs:List Value}(ho:Own B w e s (some a) n c xs){i:Nat}(hi:i<xs.length)(v:Value) :
  Own B (w.setCell (a.add i) v) e s (some a) n c (xs.set i v)/\zbN w (w.setCell (a.add i) v) (some a) (some a):=by
 rcases ho.2 with⟨hv,_⟩|⟨g,cap,cur,hv,hbg,hg,hnc,hcm,hcs,htake⟩
 ·simp at hv
 ·obtain⟨rfl,rfl⟩:a=⟨g,0,none⟩/\c=cap:=by simpa using hv
  have hadd:(⟨g,0,none⟩:Addr).add i=⟨g,i,none⟩:=by unfold Addr.add;split<;>simp_all
  have hlt:g<w.heap.size:=(Array.getElem?_eq_some_iff.1 hg).1
  have hgv:w.heap[g]=.cells cur e (0,0):=(Array.getElem?_eq_some_iff.1 hg).2
  have hnew:(w.setCell ⟨g,i,none⟩ v).heap[g]?=some (.cells (cur.setIfInBounds i v) e (0,0)):=by
   unfold World.setCell
   rw[Array.getElem?_eq_getElem (by simpa using hlt),Array.getElem_modify]
   simp[hgv]
  have hle:xs.length<=cur.size:=by rw[ho.1,hcs];exact Nat.mul_le_mul_right _ hnc
  refine⟨⟨by simp[ho.1],.inr ⟨g,c,_,rfl,hbg,by rw[hadd];exact hnew,hnc,hcm,by simpa using hcs,?_⟩⟩,⟨⟨rfl,rfl,rfl,by simp[World.setCell],fun k hk hne=>?_⟩,.inl rfl⟩⟩
  ·rw[Array.toList_setIfInBounds,List.take_set,htake]
  ·refine Below.heap_setCell w _ v k ?_
   rw[hadd];intro he;exact hne (by simp[blk,he])
theorem znd{B:Nat}{e:TypeId}{s:Nat}{a:Addr}{n c:Nat}:∀(vs:List Value)(k:Nat)(w:World)(xs:List Value)(off:Nat),Own B w e s (some a) n c xs->off+k+vs.length<=xs.length ->
  Own B (setCells w (a.add off) vs k) e s (some a) n c (zct xs (off+k) vs)/\zbN w (setCells w (a.add off) vs k) (some a) (some a)
 |[],k,w,xs,off,ho,_ => ⟨ho,⟨⟨rfl,rfl,rfl,Nat.le_refl _,fun _ _ _ => rfl⟩,.inl rfl⟩⟩
 |v::r,k,w,xs,off,ho,h => by
  simp only[List.length_cons] at h
  obtain⟨h1,h2⟩:=zJn ho (i:=off+k) (by omega) v
  obtain⟨h3,h4⟩:=znd r (k+1) _ _ off h1 (by simp;omega)
  simp only[setCells,zct,ze9]
  refine⟨by rw[Nat.add_assoc];exact h3,⟨⟨h4.by_.os.trans h2.by_.os,h4.by_.tape.trans h2.by_.tape,h4.by_.output.trans h2.by_.output,Nat.le_trans h2.by_.size h4.by_.size,fun j hj hne=>?_⟩,.inl rfl⟩⟩
  exact(h4.by_.block j (Nat.lt_of_lt_of_le hj h2.by_.size) hne).trans (h2.by_.block j hj hne)
theorem zaU{B:Nat}{w:World}{e:TypeId}{s:Nat}{q a:Option Addr}{n c off:Nat}{xs vs:List Value}{ns:List Nat}{K:World->Prop}
  (ho:Own B w e s q n c xs) (ha:a=q.map (·.add off)) (hlen:off+vs.length<=xs.length) (hpos:vs≠[]) (h1:∀v∈vs,v.oneCell'=true) (hns:∀b∈ns,∀x,q=some x->x.block≠b)
  (hk:∀w',Own B w' e s q n c (zct xs off vs)->zbN w w' q q->K w'):zan w a vs ns K:=by
 cases q with
 |none =>
  rcases ho.2 with⟨_,h2⟩|⟨g,cap,cur,hv,_⟩
  ·have:=ho.1;rw[h2] at this;simp at this;subst this
   cases vs with
   |nil => exact absurd rfl hpos
   |cons v r => simp at hlen
  ·simp at hv
 |some x =>
  simp only[Option.map_some] at ha
  subst ha
  have hcells:=ho.cells
  refine⟨⟨by simp,fun i hi=>?_,fun i hi y hy=>?_,?_,h1⟩,fun w' hw'=>?_⟩
  ·have:=hcells (off+i) _ (List.getElem?_eq_getElem (by omega))
   simp only[cell,Option.bind_some] at this ⊢
   rw[ze9,this];rfl
  ·obtain rfl:=Option.some.inj hy
   rcases ho.2 with⟨hv,_⟩|⟨g,cap,cur,hv,hbg,hg,_⟩
   ·simp at hv
   ·obtain⟨rfl,rfl⟩:x=⟨g,0,none⟩/\c=cap:=by simpa using hv
    unfold World.frozen?
    rw[zaO,zaO,hg]
    simp
  ·intro b hb y hy
   obtain rfl:=Option.some.inj hy
   rw[zaO];exact hns b hb x rfl
  ·obtain⟨h2,h3⟩:=znd vs 0 w xs off ho (by simpa using hlen)
   rw[hw']
   exact hk _ h2 h3
theorem zss{q:Option Addr}{i:Int}{n:Nat}:pIdx q i n=q.map (·.add (i.toNat*n)):=rfl
theorem znR{q:Option Addr}{i:Int}{n m:Nat}:pAdd (pIdx q i n) m=q.map (·.add (i.toNat*n+m)):=by
 cases q<;>simp[pAdd,pIdx,ze9]
end Go.Sx
namespace Go.Sx
open Go.RowKit
variable {P:Program}
def zgr{α:Type}(s:Nat)(enc:α->List Value)(w:World)(p:Option Addr)(xs:List α):Prop:=∀(i:Nat)(x:α),xs[i]?=some x->∀(j:Nat)(u:Value),(enc x)[j]?=some u->cell w p (i*s+j)=some u
theorem zgr.ext{α:Type}{s:Nat}{enc:α->List Value}{w w':World}{p:Option Addr}{xs:List α}(h:zgr s enc w p xs)(he:Ext w w'):zgr s enc w' p xs:=fun i x hx j u hu=>zaH he (h i x hx j u hu)
theorem zgr.at{α:Type}{s:Nat}{enc:α->List Value}{w:World}{p:Option Addr}{xs:List α}(h:zgr s enc w p xs){k:Int}(h0:0<=k){x:α}(hx:xs[k.toNat]?=some x){j:Nat}{u:Value}(hu:(enc x)[j]?=some u):cell w (pIdx p k s) j=some u:=by
 rw[zad];exact h _ x hx j u hu
theorem getElem?_getD{α:Type}(xs:List α)(d:α){i:Nat}(h:i<xs.length):xs[i]?=some (xs.getD i d):=by
 simp[h,List.getD_eq_getElem?_getD]
theorem zgr.idx{α:Type}{s:Nat}{enc:α->List Value}{w:World}{p:Option Addr}{xs:List α}(h:zgr s enc w p xs)(d:α){k:Int}(h0:0<=k)(hk:k<xs.length){j:Nat}{u:Value}(hu:(enc (xs.getD k.toNat d))[j]?=some u):cell w (pIdx p k s) j=some u :=
 h.at h0 (getElem?_getD xs d (by omega)) hu
theorem zal{w:World}{p:Option Addr}{j:Nat}{u:Value}(h:cell w p j=some u):p≠none:=by
 intro hp;subst hp;cases h
theorem zgr.ne{α:Type}{s:Nat}{enc:α->List Value}{w:World}{p:Option Addr}{xs:List α}(h:zgr s enc w p xs){x:α}(hx:x∈xs)(he:enc x≠[]):p≠none:=by
 obtain⟨i,hi⟩:=List.mem_iff_getElem?.1 hx
 cases hx2:enc x with
 |nil => exact absurd hx2 he
 |cons a r => exact zal (h i x hi 0 a (by rw[hx2];rfl))
theorem zgr.lt{α:Type}{s:Nat}{enc:α->List Value}{w:World}{p:Option Addr}{xs:List α}(h:zgr s enc w p xs){x:α}(hx:x∈xs)(he:enc x≠[]):∀a,p=some a->a.block<w.heap.size:=by
 intro a ha
 obtain⟨i,hi⟩:=List.mem_iff_getElem?.1 hx
 cases hx2:enc x with
 |nil => exact absurd hx2 he
 |cons b r =>
  obtain⟨c,hc,hl,_⟩:=zdu (h i x hi 0 b (by rw[hx2];rfl))
  rw[ha] at hc
  obtain rfl:=Option.some.inj hc
  exact hl
theorem Own.recs{α:Type}{B:Nat}{w:World}{e:TypeId}{s:Nat}{p:Option Addr}{n c:Nat}{xs:List α}{enc:α->List Value}(h:Own B w e s p n c (xs.flatMap enc))(hs:∀x∈xs,(enc x).length=s):zgr s enc w p xs:=by
 intro i x hx j u hu
 refine h.cells _ u ?_
 clear h
 induction xs generalizing i with
 |nil => simp at hx
 |cons a r ih =>
  have ha:=hs a (List.mem_cons_self ..)
  simp only[List.flatMap_cons]
  cases i with
  |zero =>
   simp at hx;subst hx
   rw[Nat.zero_mul,Nat.zero_add,List.getElem?_append_left (List.getElem?_eq_some_iff.1 hu).1];exact hu
  |succ i =>
   rw[List.getElem?_append_right (by rw[Nat.add_mul];omega)]
   have:=ih (fun x hx=>hs x (List.mem_cons_of_mem _ hx)) i (by simpa using hx)
   rw[show(i+1)*s+j-(enc a).length=i*s+j by rw[Nat.add_mul];omega]
   exact this
theorem Own.leni{B:Nat}{w:World}{e:TypeId}{p:Option Addr}{n c:Nat}{α:Type}{f:α->Value}{xs:List α}(h:Own B w e 1 p n c (xs.map f)):xs.length=n:=by
 have:=h.len;simpa using this
theorem Own.ne{B:Nat}{w:World}{e:TypeId}{s:Nat}{p:Option Addr}{n c:Nat}{xs:List Value}(h:Own B w e s p n c xs)(hx:xs≠[]):p≠none:=h.cells.ne hx
theorem Own.ne1{B:Nat}{w:World}{e:TypeId}{s:Nat}{p:Option Addr}{n c:Nat}{xs:List Value}(h:Own B w e s p n c xs)(hn:0<n)(hs:0<s):p≠none:=by
 refine h.ne (fun hx=>?_)
 have h2:=Nat.mul_pos hn hs
 rw[<-h.len,hx] at h2
 simp at h2
end Go.Sx
namespace Go.Sx
variable {P:Program}
end Go.Sx
namespace Go.Sx
variable {P:Program}
end Go.Sx
namespace Go.Sx
end Go.Sx
namespace Go.Sx
open Go.RowKit
theorem zaa{ns:List Nat}{w w':World}(h:zag [] ns w w'):Ext w w':=⟨h.os,h.tape,h.output,h.size,fun k hk=>h.block k hk (by simp)⟩
theorem zBg{B:Nat}{ds:List Nat}{w0 w w':World}(h:But ds w w')(hb:Below B w0 w)(hB:B<=w.heap.size)(hd:∀d∈ds,B<=d):Below B w0 w' :=
 ⟨h.os.trans hb.os,h.tape.trans hb.tape,h.output.trans hb.output,Nat.le_trans hb.size h.size,fun k hk=>(h.block k (by omega) (fun hm=>by have:=hd k hm;omega)).trans (hb.block k hk)⟩
theorem zau{ds ns:List Nat}{w0 w w':World}(h:zag ds ns w w')(hb:Ext w0 w)(hd:∀d∈ds,w0.heap.size<=d):Ext w0 w':=zBg h.toBut hb hb.size hd
theorem Own.but{B:Nat}{w w':World}{e:TypeId}{s:Nat}{p:Option Addr}{n c:Nat}{xs:List Value}{ds:List Nat}(h:Own B w e s p n c xs)(hb:But ds w w')(hd:∀d∈ds,∀x,p=some x->x.block≠d):Own B w' e s p n c xs:=by
 refine⟨h.1,h.2.imp id ?_⟩
 rintro⟨g,cap,cur,h1,h2,h3,h4⟩
 refine⟨g,cap,cur,h1,h2,?_,h4⟩
 have hlt:=(Array.getElem?_eq_some_iff.1 h3).1
 rw[hb.block g hlt (fun hm=>?_)]
 ·exact h3
 ·simp at h1
  exact hd g hm _ h1.1 rfl
theorem zbv{w:World}{t:TypeId}{vs:List Value}{K:Option Addr->World->Prop}(h1:∀v∈vs,v.oneCell'=true)
  (h:∀w',(∀B,B<=w.heap.size->Own B w' t vs.length (some ⟨w.heap.size,0,none⟩) 1 1 vs)->Ext w w'->K (some ⟨w.heap.size,0,none⟩) w'):New w t vs K:=by
 refine⟨h1,fun p w' hn=>?_⟩
 rw[hn.at_]
 refine h w' (fun B hB=>⟨by simp,.inr ⟨w.heap.size,1,vs.toArray,rfl,hB,hn.block,Nat.le_refl _,by simp[maxLen],by simp,by simp⟩⟩) hn.ext
theorem zeT(p:Option Addr):p=p.map (·.add 0):=by cases p<;>simp[add_zero]
theorem Own.size_lt{B:Nat}{w:World}{e:TypeId}{s:Nat}{b n c:Nat}{xs:List Value}(h:Own B w e s (some ⟨b,0,none⟩) n c xs):b<w.heap.size:=(h.lt _ rfl).2
end Go.Sx
namespace Go.Sx
open Go.RowKit
variable {P:Program}
theorem zgF{t ty e:TypeId}{z:Value}{k:IntKind}{b:Nat}(he:zfz P t=some (e,1,b,z)){B:Nat}{w:World}{p:Option Addr}{n c:Nat}{xs:List Int}{x:Int}{ns:List Nat}
  {K:Option Addr->Nat->Nat->World->Prop} (ho:Own B w e 1 p n c (xs.map (.int k))) (hB:B<=w.heap.size) (hns:∀b∈ns,∀x,p=some x->x.block≠b) (hb:(n+1)*b<=140737488355328) (hm:n+1<=9223372036854775807)
  (hk:∀p' c' w',Own B w' e 1 p' (n+1) c' ((xs++[x]).map (.int k))->zbN w w' p p'->p'≠none->(∀b∈ns,∀x,p'=some x->x.block≠b)->K p' (n+1) c' w') :
  ∀w1,zag [] ns w w1->Run P (.buildSlice t 1 [(0,.int k x)]) w1 fun v2 w2=>Ext w1 w2/\∃q:Option Addr,∃m:Nat,∃d:Nat,v2=.slice q m d/\∀w3,zag [] ns w2 w3 ->
   Run P (.append #[t,t] ty [.slice p n c,.slice q m d]) w3 fun v4 w4=>zcm ns w3 w4/\∃q':Option Addr,∃m':Nat,∃d':Nat,v4=.slice q' m' d'/\K q' m' d' w4:=by
 intro w1 x1
 have e1:=zaa x1
 refine zbY he [.int k x] rfl rfl (fun u hu=>by simp at hu;subst hu;rfl) (by omega) (by omega) fun w2 o2 e2=>⟨e2,_,_,_,rfl,fun w3 x3=>?_⟩
 have e3:=zaa x3
 have o2:=(o2 w1.heap.size (Nat.le_refl _)).ext e3
 have ho':=((ho.ext e1).ext e2).ext e3
 have hsz:B<=w3.heap.size:=Nat.le_trans hB (Nat.le_trans e1.size (Nat.le_trans e2.size e3.size))
 refine zms he (by omega) ho' hsz (by simp) (news:=[.int k x]) (by simp) (by simpa[Value.cells] using o2.cells) (by intro u hu;simp at hu;subst hu;rfl) hb hm fun p' c' w4 h2 h3 h4=>⟨fun b hb=>?_,_,_,_,rfl,hk p' c' w4 (by simpa using h2) ?_ ?_ ?_⟩
 ·refine h3.by_.block b (x3.lt b hb) fun he=>?_
  cases p with
  |none => cases he
  |some y => simp[blk] at he;exact hns b hb y rfl he.symm
 ·exact zbN.of_ext e1 (zbN.of_ext e2 (zbN.of_ext e3 h3))
 ·intro hn;have:=h4.1 hn;omega
 ·intro b hb y hy heq
  rcases h3.new with hn|hn
  ·subst hy
   cases p with
   |none => simp[blk] at hn
   |some z' => simp[blk] at hn;exact hns b hb z' rfl (by omega)
  ·have:=hn y hy
   have:=x3.lt b hb
   omega
end Go.Sx
namespace Go.Sx
open Go.RowKit
variable {P:Program}
theorem zyO{t e:TypeId}{s b:Nat}{z:Value}(he:zfz P t=some (e,s,b,z)){w:World}{K:Value->World->Prop}
  (hk:∀w',(∀B,B<=w.heap.size->Own B w' e s (some ⟨w.heap.size,0,none⟩) 0 0 [])->Ext w w'->K (.slice (some ⟨w.heap.size,0,none⟩) 0 0) w'):Run P (.buildSlice t 0 []) w K:=by
 obtain⟨i,h1,h2,h3,rfl,rfl,h6⟩:=zdE he
 refine⟨_,w.alloc (.cells #[] e),?_,hk _ (fun B hB=>⟨by simp,.inr ⟨w.heap.size,0,#[],rfl,hB,heap_alloc_new w _,Nat.le_refl _,by simp[maxLen],by simp,by simp⟩⟩) ?_⟩
 ·show(Instr.buildSlice t 0 #[]).run P w=_
  simp[Instr.buildSlice,run_underlying h1,sizeOf,typeInfo,zeroValue,h2,h3,newRow,Instr.fill]
  congr 2
  apply Array.eq_empty_of_size_eq_zero;simp
 ·exact Below.alloc (Below.refl _ _) (Nat.le_refl _) _
theorem Own.pre{B:Nat}{w:World}{e:TypeId}{s:Nat}{p:Option Addr}{n c m:Nat}{xs:List Value}(h:Own B w e s p n c xs)(hm:m<=n):Own B w e s p m c (xs.take (m*s)):=by
 have hle:m*s<=n*s:=Nat.mul_le_mul_right _ hm
 refine⟨by rw[List.length_take,h.1];omega,?_⟩
 rcases h.2 with⟨hv,hn⟩|⟨g,cap,cur,hv,hb,hg,hnc,hcm,hcs,ht⟩
 ·left
  obtain⟨rfl,_,rfl⟩:p=none/\n=0/\c=0:=by simpa using hv
  exact⟨by rw[show m=0 by omega],by omega⟩
 ·right
  obtain⟨rfl,_,rfl⟩:p=some ⟨g,0,none⟩/\n=n/\c=cap:=by simpa using hv
  refine⟨g,c,cur,rfl,hb,hg,by omega,hcm,hcs,?_⟩
  rw[<-ht,List.take_take,Nat.min_eq_left hle]
theorem zJw{t ty e:TypeId}{s b:Nat}{z:Value}(he:zfz P t=some (e,s,b,z))(hs:0<s){B:Nat}{w:World}{p q:Option Addr}{n c d i j m:Nat}{xs:List Value}{K:Value->World->Prop}
  (ho:Own B w e s p n c xs) (hij:i<j) (hj:j<=n) (hm:m=n-j) (hq:q=pCut p c j s) (h1:∀u∈xs,u.oneCell'=true)
  (hk:∀w',Own B w' e s p (i+m) c (xs.take (i*s)++xs.drop (j*s))->zbN w w' p p->K (.slice p (i+m) c) w'):Run P (.append #[t,t] ty [.slice p i c,.slice q m d]) w K:=by
 obtain⟨inf,g1,g2,g3,rfl,rfl,g6⟩:=zdE he
 have hle:(j+m)*inf.size<=n*inf.size:=Nat.mul_le_mul_right _ (by omega)
 have hxl:=ho.1
 have hlen:(xs.drop (j*inf.size)).length=m*inf.size:=by
  rw[List.length_drop,ho.1,hm,Nat.sub_mul]
 rcases ho.2 with⟨hv,hn⟩|⟨g,cap,cur,hv,hb,hg,hnc,hcm,hcs,ht⟩
 ·omega
 obtain⟨rfl,_,rfl⟩:p=some ⟨g,0,none⟩/\n=n/\c=cap:=by simpa using hv
 have hcur:n*inf.size<=cur.size:=by rw[hcs];exact Nat.mul_le_mul_right _ hnc
 have hij':(i+m)*inf.size<=n*inf.size:=Nat.mul_le_mul_right _ (by omega)
 have hq':∃a,q=some a/\∀k u,(xs.drop (j*inf.size))[k]?=some u->w.cell? (a.add k)=some u:=by
  by_cases hc:c=(j:Int).toNat
  ·refine⟨⟨g,0,none⟩,by rw[hq];unfold pCut;rw[if_pos hc],fun k u hu=>?_⟩
   have hz:(xs.drop (j*inf.size)).length=0:=by rw[hlen,show m=0 by simp at hc;omega];simp
   rw[List.eq_nil_of_length_eq_zero hz] at hu;simp at hu
  ·refine⟨_,by rw[hq];unfold pCut;rw[if_neg hc];rfl,fun k u hu=>?_⟩
   have:=ho.cells (j*inf.size+k) u (by rw[List.getElem?_drop] at hu;exact hu)
   simp only[cell,Option.bind_some] at this
   rw[ze9]
   simpa using this
 obtain⟨a,rfl,hcell⟩:=hq'
 have hr:=run_append_room (P:=P) w t ty e inf g1 g2 g i c cur hg a m d (xs.drop (j*inf.size)) hlen hcell (fun u hu=>h1 u (List.mem_of_mem_drop hu)) (by omega) (by rw[hlen,<-Nat.add_mul];omega)
 refine⟨_,_,hr,hk _ ⟨?_,.inr ⟨g,c,_,rfl,hb,setRow_heap w g cur _ e _ hg,by omega,hcm,?_,?_⟩⟩ ⟨⟨rfl,rfl,rfl,by simp,fun k _ hk=>setRow_other w g k _ (fun e=>hk (by simp[blk,e]))⟩,.inl rfl⟩⟩
 ·rw[List.length_append,hlen,List.length_take,ho.1,Nat.min_eq_left (Nat.mul_le_mul_right _ (by omega)),Nat.add_mul]
 ·have e1:i*inf.size+m*inf.size<=cur.size:=by rw[<-Nat.add_mul];omega
  simp only[List.size_toArray,List.length_append,List.length_take,List.length_drop,Array.length_toList,hlen,hxl]
  rw[<-hcs]
  rw[hlen.symm.trans (List.length_drop ..),hxl] at *
  omega
 ·have hti:cur.toList.take (i*inf.size)=xs.take (i*inf.size):=by
   rw[<-ht,List.take_take,Nat.min_eq_left (Nat.mul_le_mul_right _ (by omega))]
  simp only[]
  rw[hti]
  have hl2:(xs.take (i*inf.size)++xs.drop (j*inf.size)).length=(i+m)*inf.size:=by
   rw[List.length_append,hlen,List.length_take,ho.1,Nat.min_eq_left (Nat.mul_le_mul_right _ (by omega)),Nat.add_mul]
  rw[<-hl2]
  exact List.take_left
theorem zC2{t ty e:TypeId}{s b:Nat}{z:Value}(he:zfz P t=some (e,s,b,z))(hs:0<s)(hz1:∀u∈z.cells.toList,u.oneCell'=true){B:Nat}{w:World}{p q:Option Addr}{n c m d:Nat}{xs:List Value}{K:Value->World->Prop}
  (ho:Own B w e s p n c xs) (hm:n+m<=c) (hq:q=pCut p c n s)
  (hk:∀w',Own B w' e s p n c xs->zbN w w' p p->K (.tuple #[]) w'):Run P (.clear #[t] ty [.slice q m d]) w K:=by
 obtain⟨inf,g1,g2,g3,rfl,rfl,g6⟩:=zdE he
 have same:zbN w w p p:=⟨⟨rfl,rfl,rfl,Nat.le_refl _,fun _ _ _=>rfl⟩,.inl rfl⟩
 cases q with
 |none =>
  refine⟨_,w,?_,hk w ho same⟩
  show(Builtin.clear_ #[t] ty #[.slice none m d]).run P w=_
  simp[Builtin.clear_,run_underlying g1]
 |some a =>
  by_cases h0:m=0
  ·subst h0
   refine⟨_,w,?_,hk w ho same⟩
   show(Builtin.clear_ #[t] ty #[.slice (some a) 0 d]).run P w=_
   simp[Builtin.clear_,run_underlying g1]
  ·rcases ho.2 with⟨hv,hn⟩|⟨g,cap,cur,hv,hb,hg,hnc,hcm,hcs,ht⟩
   ·obtain⟨rfl,_,rfl⟩:p=none/\n=0/\c=0:=by simpa using hv
    omega
   obtain⟨rfl,_,rfl⟩:p=some ⟨g,0,none⟩/\n=n/\c=cap:=by simpa using hv
   have ha:a=⟨g,n*inf.size,none⟩:=by
    unfold pCut at hq
    rw[if_neg (by simp;omega)] at hq
    have:=Option.some.inj hq
    rw[this];show Addr.add _ _=_;rw[Addr.add_lit];simp
   subst ha
   have hzl:(Builtin.zeroCells z.cells m).toList.length=m*inf.size:=by rw[Array.length_toList,size_zeroCells,g6]
   have hfit:n*inf.size+m*inf.size<=cur.size:=by rw[hcs,<-Nat.add_mul];exact Nat.mul_le_mul_right _ hm
   have hst:=run_storeCells_at P g (n*inf.size) e (Builtin.zeroCells z.cells m).toList 0 cur w hg (by rw[hzl];simpa using hfit) (by
    intro v hv
    simp only[Builtin.zeroCells] at hv
    have:v∈z.cells.toList:=by
     simp only[Array.toList_map,List.mem_map,Array.toList_range,List.mem_range] at hv
     obtain⟨i,_,rfl⟩:=hv
     have hlt:i%z.cells.size<z.cells.size:=Nat.mod_lt _ (by omega)
     rw[getElem!_pos z.cells _ hlt]
     exact Array.getElem_mem_toList hlt
    exact hz1 v this)
   have key:(Builtin.clear_ #[t] ty #[.slice (some ⟨g,n*inf.size,none⟩) m d]).run P w=.ok (.tuple #[]) (w.setRow g (cur.toList.take (n*inf.size)++(Builtin.zeroCells z.cells m).toList++cur.toList.drop (n*inf.size+m*inf.size)).toArray):=by
    cases m with
    |zero => exact absurd rfl h0
    |succ m =>
     simp only[Nat.add_zero,hzl] at hst
     simp[Builtin.clear_,run_underlying g1,zeroValue,typeInfo,g2,g3,hst]
   refine⟨_,_,key,hk _ ⟨ho.1,.inr ⟨g,c,_,rfl,hb,setRow_heap w g cur _ e _ hg,hnc,hcm,?_,?_⟩⟩ ⟨⟨rfl,rfl,rfl,by simp,fun k _ hk=>setRow_other w g k _ (fun e=>hk (by simp[blk,e]))⟩,.inl rfl⟩⟩
   ·simp only[List.size_toArray,List.length_append,List.length_take,List.length_drop,hzl]
    simp only[Array.length_toList]
    rw[Nat.min_eq_left (by omega)]
    omega
   ·have hl2:(cur.toList.take (n*inf.size)).length=n*inf.size:=by rw[ht,ho.1]
    show List.take (n*inf.size) (cur.toList.take (n*inf.size)++(Builtin.zeroCells z.cells m).toList++cur.toList.drop (n*inf.size+m*inf.size))=xs
    rw[List.append_assoc,List.take_append_of_le_length (by rw[hl2];exact Nat.le_refl _),List.take_take,Nat.min_self,ht]
end Go.Sx
namespace Go.Sx
open Go.RowKit
variable {P:Program}
section flat
variable {α:Type} {enc:α->List Value} {s:Nat}
theorem zeV(hs:∀x,(enc x).length=s)(L:List α):(L.flatMap enc).length=L.length*s:=by
 induction L with
 |nil => simp
 |cons a r ih => rw[List.flatMap_cons,List.length_append,ih,hs,List.length_cons,Nat.add_mul];omega
theorem recs_take(hs:∀x,(enc x).length=s)(L:List α)(m:Nat):(L.flatMap enc).take (m*s)=(L.take m).flatMap enc:=by
 induction L generalizing m with
 |nil => simp
 |cons a r ih =>
  cases m with
  |zero => simp
  |succ m => rw[List.flatMap_cons,List.take_succ_cons,List.flatMap_cons,<-ih m,show(m+1)*s=(enc a).length+m*s by rw[hs,Nat.add_mul];omega,List.take_length_add_append]
theorem zCV(hs:∀x,(enc x).length=s)(L:List α)(m:Nat):(L.flatMap enc).drop (m*s)=(L.drop m).flatMap enc:=by
 induction L generalizing m with
 |nil => simp
 |cons a r ih =>
  cases m with
  |zero => simp
  |succ m => rw[List.flatMap_cons,List.drop_succ_cons,<-ih m,show(m+1)*s=(enc a).length+m*s by rw[hs,Nat.add_mul];omega,List.drop_length_add_append]
theorem zmr(hs:∀x,(enc x).length=s){w:World}{p:Option Addr}{L:List α}(h:zgr s enc w p L):zat w p (L.flatMap enc):=by
 have key:∀(L:List α)(off:Nat),(∀(i:Nat)(x:α),L[i]?=some x->∀(j:Nat)(u:Value),(enc x)[j]?=some u->cell w p ((off+i)*s+j)=some u)->∀(k:Nat)(v:Value),(L.flatMap enc)[k]?=some v->cell w p (off*s+k)=some v:=by
  intro L
  induction L with
  |nil => intro off _ k v hv;simp at hv
  |cons a r ih =>
   intro off hc k v hv
   rw[List.flatMap_cons] at hv
   by_cases hk:k<s
   ·rw[List.getElem?_append_left (by rw[hs];exact hk)] at hv
    exact hc 0 a rfl k v hv
   ·rw[List.getElem?_append_right (by rw[hs];omega),hs] at hv
    have:=ih (off+1) (fun i x hx j u hu=>by
     have:=hc (i+1) x (by simpa using hx) j u hu
     rwa [show off+1+i=off+(i+1) by omega]) (k-s) v hv
    rwa [show(off+1)*s+(k-s)=off*s+k by rw[Nat.add_mul];omega] at this
 intro k v hv
 have:=key L 0 (fun i x hx j u hu=>by rw[Nat.zero_add];exact h i x hx j u hu) k v hv
 simpa using this
theorem zyG(h1:∀x,∀u∈enc x,u.oneCell'=true)(L:List α):∀u∈L.flatMap enc,u.oneCell'=true:=fun u hu=>by
 obtain⟨x,_,hx⟩:=List.mem_flatMap.1 hu
 exact h1 x u hx
end flat
theorem zkC{t ty e:TypeId}{s b:Nat}{z:Value}(he:zfz P t=some (e,s,b,z))(hs:0<s){w:World}{q:Option Addr}{n c:Nat}{xs:List Value}{Q:Value->World->Prop}
  (hx:zat w q xs) (hl:xs.length=n*s) (h1:∀u∈xs,u.oneCell'=true) (hb:n*b<=140737488355328) (hn:n<=9223372036854775807) (hq:q≠none)
  (hk:∀p' c' w',Ext w w'->Own w.heap.size w' e s p' n c' xs->Q (.slice p' n c') w') :
  ∀w0,Ext w w0->Run P (.buildSlice t 0 []) w0 fun v1 w1=>Ext w0 w1/\∃t2:Option Addr,∃tl3:Nat,∃tc4:Nat,v1=(.slice t2 tl3 tc4) /\
   ∀w5,Ext w1 w5->Run P (.append #[t,t] ty [(.slice t2 tl3 tc4),(.slice q n c)]) w5 fun v6 w6=>∃t7:Option Addr,∃tl8:Nat,∃tc9:Nat,v6=(.slice t7 tl8 tc9)/\∀w10,Ext w6 w10->Q (.slice t7 tl8 tc9) w10:=by
 intro w0 h0
 refine zyO he fun w1 o1 e1=>⟨e1,_,_,_,rfl,fun w5 h5=>?_⟩
 have o5:=(o1 w.heap.size h0.size).ext h5
 have hx5:=(h0.trans e1).trans h5
 refine zms he hs o5 hx5.size hq (news:=xs) hl (hx.ext hx5) h1 (by rw[Nat.zero_add];exact hb) (by omega) fun p' c' w6 o6 g6 _=>⟨_,_,_,rfl,fun w10 h10=>?_⟩
 simp only[Nat.zero_add,List.nil_append] at o6 ⊢
 exact hk _ _ _ ((g6.ext hx5 o5).trans h10) (o6.ext h10)
theorem zbN.then_{w w' w'':World}{p:Option Addr}(h:zbN w w' p p)(hg:zbN w' w'' p p):zbN w w'' p p :=
 ⟨⟨hg.by_.os.trans h.by_.os,hg.by_.tape.trans h.by_.tape,hg.by_.output.trans h.by_.output,Nat.le_trans h.size hg.size,fun k hk hb=>(hg.by_.block k (Nat.lt_of_lt_of_le hk h.size) hb).trans (h.by_.block k hk hb)⟩,.inl rfl⟩
theorem zhc{w w':World}{p:Option Addr}(h:Ext w w'):zbN w w' p p :=
 ⟨⟨h.os,h.tape,h.output,h.size,fun k hk _=>h.block k hk⟩,.inl rfl⟩
theorem zzu{t ty ty' e:TypeId}{s b:Nat}{z:Value}(he:zfz P t=some (e,s,b,z))(hs:0<s)(hz1:∀u∈z.cells.toList,u.oneCell'=true){B:Nat}{w:World}{q:Option Addr}{n c:Nat}{i j:Int}{xs:List Value}{Q:Value->World->Prop}
  (ho:Own B w e s q n c xs) (h1:∀u∈xs,u.oneCell'=true) (hi0:0<=i) (hij:i<j) (hj:j<=n)
  (hk:∀w',zbN w w' q q->Own B w' e s q (i.toNat+(n-j.toNat)) c (xs.take (i.toNat*s)++xs.drop (j.toNat*s))->Q (.slice q (i.toNat+(n-j.toNat)) c) w') :
  (0:Int)<=0/\(0:Int)<=i/\(i:Int)<=(c:Int)/\(0:Int)<=j/\(j:Int)<=(n:Int)/\((n:Int):Int)<=(c:Int) /\
   ∀w0,Ext w w0->Run P (.append #[t,t] ty [(.slice (pCut q c 0 s) (i-0).toNat (c-(0:Int).toNat)),(.slice (pCut q c j s) ((n:Int)-j).toNat (c-j.toNat))]) w0 fun v1 w1 =>
    ∃t2:Option Addr,∃tl3:Nat,∃tc4:Nat,v1=(.slice t2 tl3 tc4)/\(0:Int)<=(tl3:Int)/\((tl3:Int):Int)<=(n:Int)/\((n:Int):Int)<=(tc4:Int) /\
    ∀w5,Ext w1 w5->Run P (.clear #[t] ty' [(.slice (pCut t2 tc4 (tl3:Int) s) ((n:Int)-(tl3:Int)).toNat (tc4-(tl3:Int).toNat))]) w5 fun v6 w6=>v6=(.tuple #[])/\∀w7,Ext w6 w7->Q (.slice t2 tl3 tc4) w7:=by
 have hle:=ho.le
 obtain⟨i,rfl⟩:∃k:Nat,i=k:=⟨i.toNat,by omega⟩
 obtain⟨j,rfl⟩:∃k:Nat,j=k:=⟨j.toNat,by omega⟩
 simp only[Int.toNat_natCast] at hk
 refine⟨by omega,by omega,by omega,by omega,by omega,by omega,fun w0 h0=>?_⟩
 have o0:=ho.ext h0
 simp only[zfj,Int.sub_zero,Int.toNat_natCast,Int.toNat_zero,Nat.sub_zero]
 rw[show((n:Int)-(j:Int)).toNat=n-j by omega]
 refine zJw he hs (n:=n) o0 (by omega) (by omega) rfl rfl h1 fun w1 o1 g1=>⟨_,_,_,rfl,by omega,by omega,by omega,fun w5 h5=>?_⟩
 have o5:=o1.ext h5
 refine zC2 he hs hz1 o5 (by omega) (by simp) fun w6 o6 g6=>⟨rfl,fun w7 h7=>hk w7 ?_ (o6.ext h7)⟩
 exact zbN.then_ (zhc h0) (zbN.then_ g1 (zbN.then_ (zhc h5) (zbN.then_ g6 (zhc h7))))
end Go.Sx
namespace Go.Sx
theorem Own.st{B:Nat}{w w':World}{e:TypeId}{s:Nat}{p q q':Option Addr}{n c:Nat}{xs:List Value}(h:Own B w e s p n c xs)(ha:zbo p q)(hg:zbN w w' q q'):Own B w' e s p n c xs:=h.grew (B':=0) ha hg
end Go.Sx
namespace Go.Sx
open Go.RowKit
variable {P:Program}
theorem zel{w:World}:∀{l:List (String×DataW Unit)} {ps:List MemPlace},DataW.LaidVars P w l ps->∀x∈l,
  ∃g t cs fuel p,P.globalNamed x.1=some g/\(P.globals[g]?).map (·.type)=some t/\w.var? P x.1=some cs/\DataW.trod (fun _=>()) P w 0 (fun _=>true) false fuel t cs.toList=some (x.2,p)
 |[],ps,_,x,hx => by cases hx
 |(n,d)::r,ps,h,x,hx => by
  obtain⟨g,t,cs,fuel,p,q,h1,h2,h3,h4,h5,_⟩:=h
  rcases List.mem_cons.1 hx with rfl|hx
  ·exact⟨g,t,cs,fuel,p,h1,h2,h3,h4⟩
  ·exact zel h5 x hx
end Go.Sx
namespace Go.Sx
open Go.RowKit
variable {P:Program}
theorem zuH{t:TypeId}{k:IntKind}(h:P.underlying t=some (.int k)){xs:Array Value}{off:Nat}{v:Value}(hx:xs[off]?=some v)(w:World):(part t xs off).run P w=.ok v w:=by
 simp[part,isAgg,run_underlying h,hx]
end Go.Sx
namespace Go.Sx
open Go.RowKit
variable {P:Program}
theorem zkF{k:IntKind}(xs ys:List Int)(w:World)(he:xs.length=ys.length):∀(fs:List Field)(off:Nat),off+fs.length=xs.length ->
  fs.map (fun f => (f.name != "_", P.underlying f.type, f.offset)) = (List.range' off fs.length).map (fun i => (true, some (.int k), i)) ->
  (Op.eqFields 9999 (xs.map (Value.int k)).toArray (ys.map (Value.int k)).toArray fs).run P w=.ok (decide (xs.drop off=ys.drop off)) w
 |[],off,hl,_ => by
  simp only[List.length_nil,Nat.add_zero] at hl
  rw[List.drop_of_length_le (by omega),List.drop_of_length_le (by omega)]
  simp[Op.eqFields]
 |f::fs,off,hl,hf => by
  rw[List.length_cons,List.range'_succ,List.map_cons,List.map_cons,List.cons.injEq,Prod.mk.injEq,Prod.mk.injEq] at hf
  obtain⟨⟨n1,u1,o1⟩,hr⟩:=hf
  have h1:off<xs.length:=by simp only[List.length_cons] at hl;omega
  have n1 : f.name ≠ "_" := by simpa using n1
  have p1:∀zs:List Int,(h:off<zs.length)->(part f.type (zs.map (Value.int k)).toArray f.offset).run P w=.ok (.int k zs[off]) w:=fun zs h=>zuH u1 (by rw[o1];simp[h]) w
  have q1:(Op.equalIn 9999 f.type (.int k xs[off]) (.int k (ys[off]'(he▸h1)))).run P w=.ok (xs[off]==ys[off]'(he▸h1)) w:=run_equalIn_int w 9998 _ _ _ _ _ u1
  have ih:=zkF xs ys w he fs (off+1) (by simp only[List.length_cons] at hl;omega) hr
  have d1:xs.drop off=xs[off]::xs.drop (off+1):=List.drop_eq_getElem_cons h1
  have d2:ys.drop off=ys[off]'(he▸h1)::ys.drop (off+1):=List.drop_eq_getElem_cons (he▸h1)
  simp only[Op.eqFields,n1,ne_eq,not_false_eq_true,if_true,Sem.run_bind,p1 xs h1,p1 ys (he▸h1),q1,Result.andThen_ok,Sem.run_ite,Sem.run_pure]
  have hd:decide (xs.drop off=ys.drop off)=decide (xs[off]=ys[off]'(he▸h1)/\xs.drop (off+1)=ys.drop (off+1)):=by
   rw[decide_eq_decide,d1,d2,List.cons.injEq]
  rw[hd]
  clear d1 d2 hd
  by_cases e1:xs[off]=ys[off]'(he▸h1)
  ·simp[e1,ih]
  ·simp[e1]
theorem zmZ{t:TypeId}{k:IntKind}{n:Nat}(ht:P.underlying t=some (.struct (P.fieldsOf t)))(hp:P.stoodInHeld t=false)
  (hf : (P.fieldsOf t).toList.map (fun f => (f.name != "_", P.underlying f.type, f.offset)) = (List.range' 0 n).map (fun i => (true, some (.int k), i))) (xs ys : List Int) (hx : xs.length = n) (hy : ys.length = n) (w : World) :
  (Op.equalIn 10000 t (.agg (xs.map (Value.int k)).toArray) (.agg (ys.map (Value.int k)).toArray)).run P w=.ok (decide (xs=ys)) w:=by
 have hn:(P.fieldsOf t).toList.length=n:=by simpa using congrArg List.length hf
 rw[run_equalIn_struct w 9999 t _ _ ht hp,zkF xs ys w (by omega) _ 0 (by omega) (by rw[hn];exact hf)]
 simp
theorem zJB{t:TypeId}{k:IntKind}{n:Nat}(ht:P.underlying t=some (.struct (P.fieldsOf t)))(hp:P.stoodInHeld t=false)(hm:P.eqGuardType P.depth t=false)
  (hf : (P.fieldsOf t).toList.map (fun f => (f.name != "_", P.underlying f.type, f.offset)) = (List.range' 0 n).map (fun i => (true, some (.int k), i))) (xs ys : List Int) (hx : xs.length = n) (hy : ys.length = n)
  {cx cy:Bool} {w:World} {K:Value->World->Prop} (hk:K (.bool (!decide (xs=ys))) w):Run P (.eq .neq t cx cy (.agg (xs.map (Value.int k)).toArray) (.agg (ys.map (Value.int k)).toArray)) w K:=by
 refine⟨_,w,?_,hk⟩
 show(do eqGuard .neq t _ _ (.agg (xs.map (Value.int k)).toArray) (.agg (ys.map (Value.int k)).toArray);binOp .neq t (.agg (xs.map (Value.int k)).toArray) (.agg (ys.map (Value.int k)).toArray):Sem Value).run P w=_
 rw[Sem.run_bind,run_eqGuard_agg w _ _ _ _ _ _ hm,Result.andThen_ok,run_neq_struct,zmZ ht hp hf xs ys hx hy]
 rfl
end Go.Sx
namespace Go.Sx
end Go.Sx
namespace Go.Sx
end Go.Sx
namespace Go.Sx
theorem zaq{α:Type}(l:List α)(d:α){i:Nat}(h:i<l.length):l.getD i d∈l:=by
 rw[List.getD_eq_getElem?_getD];simp[h]
end Go.Sx
namespace Go.Sx
end Go.Sx
namespace Go.Sx
abbrev U(x:Int):Prop:=InR .u64 x
theorem zf1{x:Int}:U x↔0<=x/\x<18446744073709551616:=by
 unfold U InR;simp[IntKind.min,IntKind.max,IntKind.signed,IntKind.bits];omega
def bv(x:Int):BitVec 64:=BitVec.ofInt 64 x
def tb(x:Int)(i:Nat):Bool:=(bv x).getLsbD i
theorem zJT{n:Nat}(h:n<18446744073709551616):IntKind.wrap .u64 (n:Int)=n:=by
 simp[IntKind.wrap,IntKind.signed,IntKind.bits];omega
theorem zvS(v:BitVec 64):bv (IntKind.wrap .u64 (v.toNat:Int))=v:=by
 have hlt:=v.isLt
 rw[zJT (by omega)]
 unfold bv
 apply BitVec.eq_of_toNat_eq
 rw[BitVec.toNat_ofInt]
 have:((v.toNat:Int)%(2^64:Nat)).toNat=v.toNat:=by
  rw[Int.emod_eq_of_lt (by omega) (by omega)];simp
 exact this
theorem zA0(v:BitVec 64):U (IntKind.wrap .u64 (v.toNat:Int)):=by
 have hlt:=v.isLt
 rw[zJT (by omega),zf1];omega
theorem zBh{x:Int}(h:U x):(bv x).toNat=x.toNat:=by
 rw[zf1] at h
 unfold bv
 rw[BitVec.toNat_ofInt,Int.emod_eq_of_lt (by omega) (by omega)]
theorem zfo{x:Int}(h:U x)(i:Nat):tb x i=x.toNat.testBit i:=by
 unfold tb;rw[<-BitVec.testBit_toNat,zBh h]
theorem zGm{x:Int}{i:Nat}(h:tb x i=true):i<64:=by
 unfold tb at h
 exact BitVec.lt_of_getLsbD h
theorem zAZ{x y:Int}(hx:U x)(hy:U y)(h:∀i,i<64->tb x i=tb y i):x=y:=by
 have:bv x=bv y:=BitVec.eq_of_getLsbD_eq fun i hi=>h i hi
 have h2:=congrArg BitVec.toNat this
 rw[zBh hx,zBh hy] at h2
 rw[zf1] at hx hy
 omega
theorem zfp(i:Nat):tb 0 i=false:=by
 rw[zfo (by rw[zf1];omega)];simp
theorem zrI{x:Int}(hx:U x):x=0↔∀i,i<64->tb x i=false:=by
 constructor
 ·rintro rfl i _;exact zfp i
 ·intro h;exact zAZ hx (by rw[zf1];omega) fun i hi=>by rw[h i hi,zfp]
theorem zHl(x y:Int)(i:Nat):tb (zav .and .u64 x y) i=(tb x i&&tb y i):=by
 unfold tb zav
 have:=zvS (bv x &&& bv y)
 unfold bv at this ⊢
 rw[show IntKind.bits .u64=64 from rfl,this];simp
theorem zu1(x y:Int)(i:Nat):tb (zav .andNot .u64 x y) i=(tb x i&&!tb y i):=by
 unfold tb zav
 have:=zvS (bv x &&& ~~~ bv y)
 unfold bv at this ⊢
 rw[show IntKind.bits .u64=64 from rfl,this]
 by_cases h:i<64
 ·simp[h]
 ·have h1:(BitVec.ofInt 64 x).getLsbD i=false:=BitVec.getLsbD_of_ge _ _ (by omega)
  simp[h1]
theorem U_or(x y:Int):U (zav .or .u64 x y):=zA0 (bv x ||| bv y)
theorem zHS(x y:Int):U (zav .and .u64 x y):=zA0 (bv x &&& bv y)
theorem zxF(x y:Int):U (zav .andNot .u64 x y):=zA0 (bv x &&& ~~~ bv y)
theorem zsE{i:Int}(h0:0<=i)(h1:i<64):zav .shl .u64 1 i=((2^i.toNat:Nat):Int):=by
 have hm:min i.toNat (IntKind.bits .u64)=i.toNat:=by rw[show IntKind.bits .u64=64 from rfl];omega
 simp only[zav,hm]
 have hp:2^i.toNat<18446744073709551616:=by
  have:2^i.toNat<2^64:=Nat.pow_lt_pow_right (by omega) (by omega)
  simpa using this
 rw[show(1:Int)*2^i.toNat=((2^i.toNat:Nat):Int) by simp]
 exact zJT hp
theorem zJG{x i:Int}(hx:U x)(h0:0<=i)(h1:i<64):zav .and .u64 (zav .shr .u64 x i) 1=if tb x i.toNat then 1 else 0:=by
 have hm:min i.toNat (IntKind.bits .u64)=i.toNat:=by rw[show IntKind.bits .u64=64 from rfl];omega
 have hx':=zf1.1 hx
 have hs:zav .shr .u64 x i=((x.toNat >>> i.toNat:Nat):Int):=by
  simp only[zav,hm]
  rw[Int.fdiv_eq_ediv_of_nonneg _ (by exact_mod_cast Nat.zero_le (2^i.toNat)),Nat.shiftRight_eq_div_pow]
  rw[Int.natCast_ediv,Int.toNat_of_nonneg hx'.1]
  simp
 have hlt:x.toNat >>> i.toNat<18446744073709551616:=by
  rw[Nat.shiftRight_eq_div_pow]
  exact Nat.lt_of_le_of_lt (Nat.div_le_self _ _) (by omega)
 have hUs:U (zav .shr .u64 x i):=by
  rw[hs,zf1]
  generalize x.toNat >>> i.toNat=p at hlt ⊢
  omega
 have h1U:U 1:=by rw[zf1];omega
 have hone:∀j,tb 1 j=decide (j=0):=by
  intro j
  rw[zfo h1U,show(1:Int).toNat=2^0 from rfl,Nat.testBit_two_pow]
  by_cases h:0=j
  ·subst h;simp
  ·simp[h,Ne.symm h]
 have hbit:∀j,tb (zav .and .u64 (zav .shr .u64 x i) 1) j=(decide (j=0)&&tb x i.toNat):=by
  intro j
  rw[zHl,hone,zfo hUs,hs,Int.toNat_natCast,Nat.testBit_shiftRight,zfo hx]
  by_cases h:j=0
  ·subst h;simp
  ·simp[h]
 split
 ·rename_i hb
  refine zAZ (zHS _ _) h1U fun j _=>?_
  rw[hbit,hb,hone];simp
 ·rename_i hb
  refine zAZ (zHS _ _) (by rw[zf1];omega) fun j _=>?_
  rw[hbit,zfp]
  simp[hb]
end Go.Sx
namespace Go.Sx
end Go.Sx
namespace Go.Proofs.YtcceeahmcecbnaaGreatDoor
open Go.Sx Go.RowKit
abbrev zc9:FuncId:=66
abbrev zbs:FuncId:=90
abbrev zbc:FuncId:=92
abbrev zbH:FuncId:=94
abbrev zba:FuncId:=109
abbrev zdU:FuncId:=128
abbrev zdr:FuncId:=149
abbrev zei:FuncId:=158
abbrev zgY:FuncId:=171
abbrev za7:FuncId:=173
abbrev ze5:FuncId:=176
abbrev zdV:FuncId:=228
abbrev zg3:TypeId:=3
abbrev zte:TypeId:=4
abbrev zaN:TypeId:=5
abbrev zai:TypeId:=9
abbrev zvL:TypeId:=22
abbrev zhO:TypeId:=44
abbrev zcq:TypeId:=45
abbrev zdL:TypeId:=47
abbrev zzg:TypeId:=57
abbrev zjO:TypeId:=60
abbrev zAM:TypeId:=68
abbrev ze8:TypeId:=76
abbrev zEl:TypeId:=102
abbrev zlK:TypeId:=113
abbrev zzd:TypeId:=119
abbrev zdb:TypeId:=128
abbrev zGA:TypeId:=145
abbrev zAR:TypeId:=153
abbrev zvF:TypeId:=192
abbrev zdY:TypeId:=199
abbrev zf0:TypeId:=211
abbrev zdZ:TypeId:=213
abbrev zkx:TypeId:=215
abbrev za4:TypeId:=218
abbrev zak:TypeId:=220
abbrev zbV:TypeId:=222
abbrev ztd:TypeId:=348
abbrev zxy:TypeId:=372
theorem zaZ:zfz Tryz.prog 22=some (9,1,16,(.string (⟨#[]⟩:ByteArray))):=by kernel_rfl
theorem zfK:zfz Tryz.prog 34=some (76,8,88,(.agg #[(.string (⟨#[]⟩:ByteArray)),(.slice none 0 0),(.int .i64 0),(.int .i64 0),(.int .i64 0),(.int .i64 0),(.int .i64 0),(.int .i64 0)])):=by kernel_rfl
theorem zfc:zfz Tryz.prog 45=some (47,5,72,(.agg #[(.int .i64 0),(.string (⟨#[]⟩:ByteArray)),(.string (⟨#[]⟩:ByteArray)),(.int .i64 0),(.slice none 0 0)])):=by kernel_rfl
theorem zfd:zfz Tryz.prog 48=some (3,1,8,(.int .i64 0)):=by kernel_rfl
theorem zrF:zfz Tryz.prog 54=some (68,2,16,(.agg #[(.int .i64 0),(.int .i64 0)])):=by kernel_rfl
theorem zkD:zfz Tryz.prog 74=some (113,2,32,(.agg #[(.string (⟨#[]⟩:ByteArray)),(.string (⟨#[]⟩:ByteArray))])):=by kernel_rfl
theorem zrD:zfz Tryz.prog 119=some (24,1,8,(.int .i64 0)):=by kernel_rfl
theorem ztv:zfz Tryz.prog 153=some (44,3,24,(.agg #[(.int .i64 0),(.int .i64 0),(.int .i64 0)])):=by kernel_rfl
theorem zha:zfz Tryz.prog 212=some (218,1,8,(.pointer none)):=by kernel_rfl
theorem zlV:zfz Tryz.prog 271=some (275,2,24,(.agg #[(.string (⟨#[]⟩:ByteArray)),(.pointer none)])):=by kernel_rfl
theorem zfL:zfz Tryz.prog 387=some (392,3,24,(.agg #[(.pointer none),(.int .i64 0),(.int .i64 0)])):=by kernel_rfl
def zsZ(a:Option Addr)(i:World)(j:Value->World->Prop):Prop:=
 a≠none/\a≠none/\a≠none/\a≠none/\a≠none/\a≠none/\∀b,Ext i b->Run Tryz.prog (.buildSlice 271 3 [(0,(.agg #[(.string (⟨#[99,112,117]⟩:ByteArray)),(.pointer (pAdd a 0))])),(1,(.agg #[(.string (⟨#[109,101,109]⟩:ByteArray)),(.pointer (pAdd a 1))])),(2,(.agg #[(.string (⟨#[103,112,117]⟩:ByteArray)),(.pointer (pAdd a 2))]))]) b fun h g=>Ext b g/\∃c d e,h=(.slice c d e)/\∀f,Ext g f->j (.slice c d e) f
theorem zso(a:Option Addr)(b:World)(c:Value->World->Prop)(h:zsZ a b c):FnP Tryz.prog zei #[(.pointer a)] b c:=
 zab (Eq.mp (by kernel_rfl:_=Runs Tryz.prog c ({N:=16}:Cfg) Tryz.f158 (Tryz.f158.body.getD .skip) [.sc (.ptr a)] b) h) Tryz.func158 (by kernel_rfl) (fun a w=>Tryz.call158 a w) (by kernel_rfl) (by kernel_rfl) rfl rfl
def zsY(w x y:Int)(z:World)(j:Value->World->Prop):Prop:=
 ∀k,Ext z k->New k 44 [(.int .i64 w),(.int .i64 x),(.int .i64 y)] fun t u=>∀g,Ext u g->FnP Tryz.prog zei #[(.pointer t)] g fun v o=>Ext g o/\∃c e q,v=(.slice c e q)/\∃(i:Int->World->Prop) (p:Int->World->Nat),i 0 o/\∀(a:Int)(b:World),i a b->(((a<(e:Int))->c≠none/\(0:Int)<=a/\(a:Int)<(e:Int)/\(pIdx c a 2)≠none/\∃r,cell b (pIdx c a 2) 0=some (.string r)/\∃d,cell b (pIdx c a 2) 1=some (.pointer d)/\∀s:Nat,b.heap.size<=s->d≠none/\∃f,cell b d 0=some (.int .i64 f)/\((0<=f)->d≠none)/\((f<0)->∀l,Ext b l->j (.int .i64 4) l)/\((0<=f)->∃h,cell b d 0=some (.int .i64 h)/\((1099511627776<h)->∀m,Ext b m->j (.int .i64 4) m)/\((h<=1099511627776)->InR .i64 (a+1)/\(i (a+1) b/\p (a+1) b<p a b)))))/\(((e:Int)<=a)->∀n,Ext b n->j (.int .i64 0) n)
theorem zsn(a b c:Int)(d:World)(e:Value->World->Prop)(h:zsY a b c d e):FnP Tryz.prog zba #[(.agg #[(.int .i64 a),(.int .i64 b),(.int .i64 c)])] d e:=
 zab (Eq.mp (by kernel_rfl:_=Runs Tryz.prog e ({N:=24,pub:=[1]}:Cfg) Tryz.f109 (Tryz.f109.body.getD .skip) [.agg [.int .i64 a,.int .i64 b,.int .i64 c]] d) h) Tryz.func109 (by kernel_rfl) (fun a w=>Tryz.call109 a w) (by kernel_rfl) (by kernel_rfl) rfl rfl
def zvl(g h i:Int)(b:World)(j:Value->World->Prop):Prop:=
 ∀k:Nat,b.heap.size<=k->∀d,Ext b d->FnP Tryz.prog zba #[(.agg #[(.int .i64 g),(.int .i64 h),(.int .i64 i)])] d fun l m=>Ext d m/\∃c,l=(.int .i64 c)/\((c≠0)->∀a,Ext b a->j (.tuple #[(.string (⟨#[]⟩:ByteArray)),(.int .i64 c)]) a)/\((c=0)->∀a,Ext b a->FnP Tryz.prog zdV #[(.agg #[(.int .i64 g),(.int .i64 h),(.int .i64 i)])] a fun n o=>Ext a o/\∃e,n=(.string e)/\∀f,Ext b f->j (.tuple #[(.string e),(.int .i64 0)]) f)
theorem zuw(a b c:Int)(d:World)(e:Value->World->Prop)(h:zvl a b c d e):FnP Tryz.prog zgY #[(.agg #[(.int .i64 a),(.int .i64 b),(.int .i64 c)])] d e:=
 zab (Eq.mp (by kernel_rfl:_=Runs Tryz.prog e ({N:=12}:Cfg) Tryz.f171 (Tryz.f171.body.getD .skip) [.agg [.int .i64 a,.int .i64 b,.int .i64 c]] d) h) Tryz.func171 (by kernel_rfl) (fun a w=>Tryz.call171 a w) (by kernel_rfl) (by kernel_rfl) rfl rfl
def zvn(S T U:Int)(V:World)(G:Value->World->Prop):Prop:=
 ∀x,Ext V x->New x 44 [(.int .i64 S),(.int .i64 T),(.int .i64 U)] fun I J=>∀n,Ext J n->FnP Tryz.prog zei #[(.pointer I)] n fun K E=>Ext n E/\∃g i H,K=(.slice g i H)/\∃(l:Option Addr->Nat->Nat->Int->World->Prop) (m:Option Addr->Nat->Nat->Int->World->Nat),l none 0 0 0 E/\∀(c:Option Addr)(d:Nat)(e:Nat)(a:Int)(b:World),l c d e a b->(((a<(i:Int))->g≠none/\(0:Int)<=a/\(a:Int)<(i:Int)/\(pIdx g a 2)≠none/\∃j,cell b (pIdx g a 2) 0=some (.string j)/\∃h,cell b (pIdx g a 2) 1=some (.pointer h)/\∀k:Nat,b.heap.size<=k->h≠none/\∃o,cell b h 0=some (.int .i64 o)/\(((o≠0)->zc6 j (⟨#[61]⟩:ByteArray)/\h≠none/\∃y,cell b h 0=some (.int .i64 y)/\∀p,Ext b p->FnP Tryz.prog zbs #[(.int .i64 y),(.int .i64 10)] p fun L M=>Ext p M/\∃q,L=(.string q)/\zc6 (j++(⟨#[61]⟩:ByteArray)) q/\∀r,zag [] [k] b r->Run Tryz.prog (.buildSlice 22 1 [(0,(.string ((j++(⟨#[61]⟩:ByteArray))++q)))]) r fun N F=>Ext r F/\∃z A B,N=(.slice z A B)/\∀s,zag [] [k] F s->Run Tryz.prog (.append #[22,22] 22 [(.slice c d e),(.slice z A B)]) s fun O w=>zcm [k] s w/\∃t u v,O=(.slice t u v)/\InR .i64 (a+1)/\(l t u v (a+1) w/\m t u v (a+1) w<m c d e a b)))/\((o=0)->InR .i64 (a+1)/\(l c d e (a+1) b/\m c d e (a+1) b<m c d e a b))))/\(((i:Int)<=a)->((c=none)->∀f,Ext b f->G (.string (⟨#[45]⟩:ByteArray)) f)/\((c≠none)->∀f,Ext b f->FnP Tryz.prog za7 #[(.slice c d e),(.string (⟨#[44]⟩:ByteArray))] f fun P R=>Ext f R/\∃C,P=(.string C)/\∀D,Ext b D->G (.string C) D))
theorem zuy(a b c:Int)(d:World)(e:Value->World->Prop)(h:zvn a b c d e):FnP Tryz.prog zdV #[(.agg #[(.int .i64 a),(.int .i64 b),(.int .i64 c)])] d e:=
 zab (Eq.mp (by kernel_rfl:_=Runs Tryz.prog e ({N:=34,pub:=[1]}:Cfg) Tryz.f228 (Tryz.f228.body.getD .skip) [.agg [.int .i64 a,.int .i64 b,.int .i64 c]] d) h) Tryz.func228 (by kernel_rfl) (fun a w=>Tryz.call228 a w) (by kernel_rfl) (by kernel_rfl) rfl rfl
def zvk(n:ByteArray)(ah:World)(o:Value->World->Prop):Prop:=
 ∀e:Nat,ah.heap.size<=e->∀N,zag [] [e] ah N->New N 44 [(.int .i64 0),(.int .i64 0),(.int .i64 0)] fun a d=>(((n≠(⟨#[45]⟩:ByteArray))->∀D,zag [] [e] d D->FnP Tryz.prog zbc #[(.string n),(.string (⟨#[44]⟩:ByteArray))] D fun ak ad=>Ext D ad/\∃p x ai,ak=(.slice p x ai)/\∃(M:Int->World->Prop) (ag:Int->World->Nat),M 0 ad/\∀(g:Int)(b:World),M g b->(((g<(x:Int))->p≠none/\(0:Int)<=g/\(g:Int)<(x:Int)/\∃h,cell b (pIdx p g 1) 0=some (.string h)/\∀k,Ext b k->FnP Tryz.prog zdr #[(.string h),(.string (⟨#[61]⟩:ByteArray))] k fun K L=>Ext k L/\∃i t j,K=(.tuple #[(.string i),(.string t),(.bool j)])/\∀q,zag [] [e] b q->FnP Tryz.prog zbH #[(.string t),(.int .i64 10),(.int .i64 64)] q fun al m=>Ext q m/\∃l O,al=(.tuple #[(.int .i64 l),O])/\∀u,Ext m u->Run Tryz.prog (.eq .neq 175 false true O .nilIface) u fun am an=>Ext u an/\∃r,am=(.bool r)/\(((r=true)\/(l<=0))->∀s,zag [e] [] m s->o (.tuple #[(.agg #[(.int .i64 0),(.int .i64 0),(.int .i64 0)]),(.int .i64 3)]) s)/\(((r=false)/\(0<l))->∀s,zag [] [e] m s->FnP Tryz.prog zei #[(.pointer a)] s fun ao ae=>Ext s ae/\∃v y aj,ao=(.slice v y aj)/\∃(B:Int->World->Prop) (C:Int->World->Nat),B 0 ae/\∀(c:Int)(f:World),B c f->(((c<(y:Int))->v≠none/\(0:Int)<=c/\(c:Int)<(y:Int)/\(pIdx v c 2)≠none/\∃E,cell f (pIdx v c 2) 0=some (.string E)/\∃F,cell f (pIdx v c 2) 1=some (.pointer F)/\∀P:Nat,f.heap.size<=P->(((E=i)->F≠none/\zan f F [(.int .i64 l)] [e,P] fun af=>InR .i64 (c+1)/\(B (c+1) af/\C (c+1) af<C c f)))/\((E≠i)->InR .i64 (c+1)/\(B (c+1) f/\C (c+1) f<C c f))))/\(((y:Int)<=c)->InR .i64 (g+1)/\(M (g+1) f/\ag (g+1) f<ag g b)))))/\(((x:Int)<=g)->a≠none/\∃h,cell b a 0=some (.int .i64 h)/\∃R,cell b a 1=some (.int .i64 R)/\∃S,cell b a 2=some (.int .i64 S)/\∀G,Ext b G->FnP Tryz.prog zdV #[(.agg #[(.int .i64 h),(.int .i64 R),(.int .i64 S)])] G fun ap A=>Ext G A/\∃j,ap=(.string j)/\((j≠n)->∀q,zag [e] [] b q->o (.tuple #[(.agg #[(.int .i64 0),(.int .i64 0),(.int .i64 0)]),(.int .i64 3)]) q)/\((j=n)->a≠none/\∃w,cell b a 0=some (.int .i64 w)/\∃T,cell b a 1=some (.int .i64 T)/\∃l,cell b a 2=some (.int .i64 l)/\∀H,Ext b H->FnP Tryz.prog zba #[(.agg #[(.int .i64 w),(.int .i64 T),(.int .i64 l)])] H fun aq u=>Ext H u/\∃z,aq=(.int .i64 z)/\((z≠0)->∀U,zag [e] [] b U->o (.tuple #[(.agg #[(.int .i64 0),(.int .i64 0),(.int .i64 0)]),(.int .i64 z)]) U)/\((z=0)->a≠none/\∃r,cell b a 0=some (.int .i64 r)/\∃V,cell b a 1=some (.int .i64 V)/\∃W,cell b a 2=some (.int .i64 W)/\∀X,zag [e] [] b X->o (.tuple #[(.agg #[(.int .i64 r),(.int .i64 V),(.int .i64 W)]),(.int .i64 0)]) X)))))/\((n=(⟨#[45]⟩:ByteArray))->a≠none/\∃Y,cell d a 0=some (.int .i64 Y)/\∃Z,cell d a 1=some (.int .i64 Z)/\∃p,cell d a 2=some (.int .i64 p)/\∀I,Ext d I->FnP Tryz.prog zdV #[(.agg #[(.int .i64 Y),(.int .i64 Z),(.int .i64 p)])] I fun ar au=>Ext I au/\∃J,ar=(.string J)/\((J≠n)->∀aa,zag [e] [] d aa->o (.tuple #[(.agg #[(.int .i64 0),(.int .i64 0),(.int .i64 0)]),(.int .i64 3)]) aa)/\((J=n)->a≠none/\∃ab,cell d a 0=some (.int .i64 ab)/\∃ac,cell d a 1=some (.int .i64 ac)/\∃h,cell d a 2=some (.int .i64 h)/\∀k,Ext d k->FnP Tryz.prog zba #[(.agg #[(.int .i64 ab),(.int .i64 ac),(.int .i64 h)])] k fun K L=>Ext k L/\∃i,K=(.int .i64 i)/\((i≠0)->∀A,zag [e] [] d A->o (.tuple #[(.agg #[(.int .i64 0),(.int .i64 0),(.int .i64 0)]),(.int .i64 i)]) A)/\((i=0)->a≠none/\∃t,cell d a 0=some (.int .i64 t)/\∃j,cell d a 1=some (.int .i64 j)/\∃w,cell d a 2=some (.int .i64 w)/\∀m,zag [e] [] d m->o (.tuple #[(.agg #[(.int .i64 t),(.int .i64 j),(.int .i64 w)]),(.int .i64 0)]) m)))
theorem zm7(a:ByteArray)(b:World)(c:Value->World->Prop)(h:zvk a b c):FnP Tryz.prog ze5 #[(.string a)] b c:=
 zab (Eq.mp (by kernel_rfl:_=Runs Tryz.prog c ({N:=70,pub:=[4]}:Cfg) Tryz.f176 (Tryz.f176.body.getD .skip) [.sc (.str a)] b) h) Tryz.func176 (by kernel_rfl) (fun a w=>Tryz.call176 a w) (by kernel_rfl) (by kernel_rfl) rfl rfl
abbrev zbh:FuncId:=96
abbrev zdS:FuncId:=113
abbrev zgP:FuncId:=159
abbrev zgO:FuncId:=160
abbrev ziU:FuncId:=172
abbrev zlE:FuncId:=226
abbrev zdg:FuncId:=229
abbrev zae:FuncId:=258
abbrev zbp:FuncId:=259
abbrev zfE:FuncId:=275
def zu6(a:ByteArray)(n:World)(i:Value->World->Prop):Prop:=
 ((((a≠(⟨#[]⟩:ByteArray))/\((a.size:Int)<=20))->(0:Int)<=0))/\((((a≠(⟨#[]⟩:ByteArray))/\((a.size:Int)<=20))->(0:Int)<(a.size:Int)))/\(((((a≠(⟨#[]⟩:ByteArray))/\((a.size:Int)<=20))/\(97<=(sAt a 0)))->(0:Int)<=0))/\(((((a≠(⟨#[]⟩:ByteArray))/\((a.size:Int)<=20))/\(97<=(sAt a 0)))->(0:Int)<(a.size:Int)))/\(((((a=(⟨#[]⟩:ByteArray))\/(20<(a.size:Int)))\/((sAt a 0)<97))\/(122<(sAt a 0)))->∀e,Ext n e->i (.bool false) e)/\(((((a≠(⟨#[]⟩:ByteArray))/\((a.size:Int)<=20))/\(97<=(sAt a 0)))/\((sAt a 0)<=122))->∀e,Ext n e->Run Tryz.prog (.convert 9 93 (.string a)) e fun p l=>Ext e l/\∃g f o,p=(.slice g f o)/\∃(h:Int->World->Prop) (m:Int->World->Nat),h 0 l/\∀(c:Int)(d:World),h c d->(((c<(f:Int))->g≠none/\(0:Int)<=c/\(c:Int)<(f:Int)/\∃b,cell d (pIdx g c 1) 0=some (.int .u8 b)/\((((((b<97)\/(122<b))/\((b<48)\/(57<b)))/\(b≠45))->∀j,Ext d j->i (.bool false) j))/\(((((97<=b)/\(b<=122))\/((48<=b)/\(b<=57)))\/(b=45))->InR .i64 (c+1)/\(h (c+1) d/\m (c+1) d<m c d))))/\(((f:Int)<=c)->∀k,Ext d k->i (.bool true) k))
theorem zuj(a:ByteArray)(b:World)(c:Value->World->Prop)(h:zu6 a b c):FnP Tryz.prog zbh #[(.string a)] b c:=
 zab (Eq.mp (by kernel_rfl:_=Runs Tryz.prog c ({N:=48}:Cfg) Tryz.f96 (Tryz.f96.body.getD .skip) [.sc (.str a)] b) h) Tryz.func96 (by kernel_rfl) (fun a w=>Tryz.call96 a w) (by kernel_rfl) (by kernel_rfl) rfl rfl
def zu8(x:Int)(y z:ByteArray)(A:Int)(c:Option Addr)(h B:Nat)(r:World)(w:Value->World->Prop):Prop:=
 ∀s:Nat,r.heap.size<=s->∃(g:Int->Int->World->Prop) (q:Int->Int->World->Nat),g 1 0 r/\∀(d:Int)(a:Int)(b:World),g d a b->(((a<(h:Int))->c≠none/\(0:Int)<=a/\(a:Int)<(h:Int)/\(pIdx c a 5)≠none/\∃i,cell b (pIdx c a 5) 0=some (.int .i64 i)/\∃j,cell b (pIdx c a 5) 1=some (.string j)/\∃k,cell b (pIdx c a 5) 2=some (.string k)/\∃l,cell b (pIdx c a 5) 3=some (.int .i64 l)/\∃m n o,cell b (pIdx c a 5) 4=some (.slice m n o)/\∀t:Nat,b.heap.size<=t->∀e,Ext b e->FnP Tryz.prog zgP #[(.agg #[(.int .i64 i),(.string j),(.string k),(.int .i64 l),(.slice m n o)])] e fun u v=>Ext e v/\∃f,u=(.int .i64 f)/\InR .i64 (a+1)/\(g (IntKind.wrap .i64 (d+f)) (a+1) b/\q (IntKind.wrap .i64 (d+f)) (a+1) b<q d a b)))/\(((h:Int)<=a)->∀p,Ext b p->w (.int .i64 d) p)
theorem zul(a:Int)(b c:ByteArray)(d:Int)(e:Option Addr)(f g:Nat)(i:World)(j:Value->World->Prop)(h:zu8 a b c d e f g i j):FnP Tryz.prog zgP #[(.agg #[(.int .i64 a),(.string b),(.string c),(.int .i64 d),(.slice e f g)])] i j:=
 zab (Eq.mp (by kernel_rfl:_=Runs Tryz.prog j ({N:=19,wrap:=[16]}:Cfg) Tryz.f159 (Tryz.f159.body.getD .skip) [.agg [.int .i64 a,.str b,.str c,.int .i64 d,.slc e f g]] i) h) Tryz.func159 (by kernel_rfl) (fun a w=>Tryz.call159 a w) (by kernel_rfl) (by kernel_rfl) rfl rfl
def zu4(g:Int)(h i:ByteArray)(j:Int)(k:Option Addr)(l m:Nat)(b:World)(n:Value->World->Prop):Prop:=
 ∀o:Nat,b.heap.size<=o->∀c,Ext b c->FnP Tryz.prog zgP #[(.agg #[(.int .i64 g),(.string h),(.string i),(.int .i64 j),(.slice k l m)])] c fun p q=>Ext c q/\∃d,p=(.int .i64 d)/\((60<d)->∀a,Ext b a->n (.int .i64 2) a)/\((d<=60)->∀a,Ext b a->FnP Tryz.prog zgO #[(.agg #[(.int .i64 g),(.string h),(.string i),(.int .i64 j),(.slice k l m)])] a fun r s=>Ext a s/\∃e,r=(.int .i64 e)/\∀f,Ext b f->n (.int .i64 e) f)
theorem zuh(a:Int)(b c:ByteArray)(d:Int)(e:Option Addr)(f g:Nat)(i:World)(j:Value->World->Prop)(h:zu4 a b c d e f g i j):FnP Tryz.prog zdS #[(.agg #[(.int .i64 a),(.string b),(.string c),(.int .i64 d),(.slice e f g)])] i j:=
 zab (Eq.mp (by kernel_rfl:_=Runs Tryz.prog j ({N:=8}:Cfg) Tryz.f113 (Tryz.f113.body.getD .skip) [.agg [.int .i64 a,.str b,.str c,.int .i64 d,.slc e f g]] i) h) Tryz.func113 (by kernel_rfl) (fun a w=>Tryz.call113 a w) (by kernel_rfl) (by kernel_rfl) rfl rfl
def zxd(a:ByteArray)(c:World)(d:Value->World->Prop):Prop:=
 ∀b,Ext c b->d (.bool (((decide (a=(⟨#[99,112,117]⟩:ByteArray)))||(decide (a=(⟨#[109,101,109]⟩:ByteArray))))||(decide (a=(⟨#[103,112,117]⟩:ByteArray))))) b
theorem zwD(a:ByteArray)(b:World)(c:Value->World->Prop)(h:zxd a b c):FnP Tryz.prog zlE #[(.string a)] b c:=
 zab (Eq.mp (by kernel_rfl:_=Runs Tryz.prog c ({N:=13}:Cfg) Tryz.f226 (Tryz.f226.body.getD .skip) [.sc (.str a)] b) h) Tryz.func226 (by kernel_rfl) (fun a w=>Tryz.call226 a w) (by kernel_rfl) (by kernel_rfl) rfl rfl
def zu7(d:Int)(v p:ByteArray)(a:Int)(o:Option Addr)(w U:Nat)(m:World)(f:Value->World->Prop):Prop:=
 ∀N:Nat,m.heap.size<=N->(((d<1)\/(6<d))->∀D,Ext m D->f (.int .i64 1) D)/\(((1<=d)/\(d<=6))->∃(n:Int->Bool->World->Prop),((((d=5)->(((d=5)->InR .i64 (0+1)/\InR .i64 ((0+1)+1)/\n ((0+1)+1) false m))/\((d≠5)->(((d=4)->InR .i64 (0+1)/\n (0+1) false m))/\((d≠4)->n 0 true m))))/\((d≠5)->(((d=6)->InR .i64 (0+1)/\InR .i64 ((0+1)+1)/\n ((0+1)+1) false m))/\((d≠6)->(((d=4)->InR .i64 (0+1)/\n (0+1) false m))/\((d≠4)->n 0 true m))))/\∀(A:Int)(B:Bool)(c:World),n A B c->(((((((w:Int)≠A)\/((B=false)/\(v≠(⟨#[]⟩:ByteArray))))\/((d≠2)/\(p≠(⟨#[]⟩:ByteArray))))\/((d≠3)/\(a≠0)))->∀E,Ext c E->f (.int .i64 1) E))/\((((((w:Int)=A)/\((B=true)\/(v=(⟨#[]⟩:ByteArray))))/\((d=2)\/(p=(⟨#[]⟩:ByteArray))))/\((d=3)\/(a=0)))->∃(l:World->Prop),((((d=3)->∀j,Ext c j->FnP Tryz.prog zlE #[(.string v)] j fun r s=>Ext j s/\∃h,r=(.bool h)/\(((h=false)->((h=false)->∀b,Ext c b->f (.int .i64 3) b)/\((h=true)->(((a<0)\/(1099511627776<a))->∀b,Ext c b->f (.int .i64 4) b)/\(((0<=a)/\(a<=1099511627776))->l  c))))/\((h=true)->((((d=1)\/(d=2))->∀b,Ext c b->FnP Tryz.prog zbh #[(.string v)] b fun t u=>Ext b u/\∃g,t=(.bool g)/\(((g=false)->((g=false)->∀e,Ext c e->f (.int .i64 3) e)/\((g=true)->(((a<0)\/(1099511627776<a))->∀e,Ext c e->f (.int .i64 4) e)/\(((0<=a)/\(a<=1099511627776))->l  c))))/\((g=true)->(((d=2)->∀e,Ext c e->FnP Tryz.prog zbh #[(.string p)] e fun P R=>Ext e R/\∃y,P=(.bool y)/\((y=false)->∀q,Ext c q->f (.int .i64 3) q)/\((y=true)->(((a<0)\/(1099511627776<a))->∀q,Ext c q->f (.int .i64 4) q)/\(((0<=a)/\(a<=1099511627776))->l  c))))/\((d≠2)->(((a<0)\/(1099511627776<a))->∀e,Ext c e->f (.int .i64 4) e)/\(((0<=a)/\(a<=1099511627776))->l  c)))))/\(((d≠1)/\(d≠2))->(((d=2)->∀b,Ext c b->FnP Tryz.prog zbh #[(.string p)] b fun t u=>Ext b u/\∃g,t=(.bool g)/\((g=false)->∀e,Ext c e->f (.int .i64 3) e)/\((g=true)->(((a<0)\/(1099511627776<a))->∀e,Ext c e->f (.int .i64 4) e)/\(((0<=a)/\(a<=1099511627776))->l  c))))/\((d≠2)->(((a<0)\/(1099511627776<a))->∀b,Ext c b->f (.int .i64 4) b)/\(((0<=a)/\(a<=1099511627776))->l  c))))))/\((d≠3)->((((d=1)\/(d=2))->∀j,Ext c j->FnP Tryz.prog zbh #[(.string v)] j fun r s=>Ext j s/\∃h,r=(.bool h)/\(((h=false)->((h=false)->∀b,Ext c b->f (.int .i64 3) b)/\((h=true)->(((a<0)\/(1099511627776<a))->∀b,Ext c b->f (.int .i64 4) b)/\(((0<=a)/\(a<=1099511627776))->l  c))))/\((h=true)->(((d=2)->∀b,Ext c b->FnP Tryz.prog zbh #[(.string p)] b fun t u=>Ext b u/\∃g,t=(.bool g)/\((g=false)->∀e,Ext c e->f (.int .i64 3) e)/\((g=true)->(((a<0)\/(1099511627776<a))->∀e,Ext c e->f (.int .i64 4) e)/\(((0<=a)/\(a<=1099511627776))->l  c))))/\((d≠2)->(((a<0)\/(1099511627776<a))->∀b,Ext c b->f (.int .i64 4) b)/\(((0<=a)/\(a<=1099511627776))->l  c)))))/\(((d≠1)/\(d≠2))->(((d=2)->∀j,Ext c j->FnP Tryz.prog zbh #[(.string p)] j fun r s=>Ext j s/\∃h,r=(.bool h)/\((h=false)->∀b,Ext c b->f (.int .i64 3) b)/\((h=true)->(((a<0)\/(1099511627776<a))->∀b,Ext c b->f (.int .i64 4) b)/\(((0<=a)/\(a<=1099511627776))->l  c))))/\((d≠2)->(((a<0)\/(1099511627776<a))->∀j,Ext c j->f (.int .i64 4) j)/\(((0<=a)/\(a<=1099511627776))->l  c)))))/\∀  (w6:World),l  w6->∃(C:Int->World->Prop) (M:Int->World->Nat),C 0 w6/\∀(i:Int)(k:World),C i k->(((i<(w:Int))->o≠none/\(0:Int)<=i/\(i:Int)<(w:Int)/\(pIdx o i 5)≠none/\∃F,cell k (pIdx o i 5) 0=some (.int .i64 F)/\∃G,cell k (pIdx o i 5) 1=some (.string G)/\∃g,cell k (pIdx o i 5) 2=some (.string g)/\∃H,cell k (pIdx o i 5) 3=some (.int .i64 H)/\∃I J K,cell k (pIdx o i 5) 4=some (.slice I J K)/\∀O:Nat,k.heap.size<=O->∀z,Ext k z->FnP Tryz.prog zgO #[(.agg #[(.int .i64 F),(.string G),(.string g),(.int .i64 H),(.slice I J K)])] z fun S T=>Ext z T/\∃x,S=(.int .i64 x)/\((x≠0)->∀L,Ext k L->f (.int .i64 x) L)/\((x=0)->InR .i64 (i+1)/\(C (i+1) k/\M (i+1) k<M i k))))/\(((w:Int)<=i)->∀b,Ext k b->f (.int .i64 0) b)))
theorem zuk(a:Int)(b c:ByteArray)(d:Int)(e:Option Addr)(f g:Nat)(i:World)(j:Value->World->Prop)(h:zu7 a b c d e f g i j):FnP Tryz.prog zgO #[(.agg #[(.int .i64 a),(.string b),(.string c),(.int .i64 d),(.slice e f g)])] i j:=
 zab (Eq.mp (by kernel_rfl:_=Runs Tryz.prog j ({N:=115,joins:=[(0,[3,4]),(4,[])]}:Cfg) Tryz.f160 (Tryz.f160.body.getD .skip) [.agg [.int .i64 a,.str b,.str c,.int .i64 d,.slc e f g]] i) h) Tryz.func160 (by kernel_rfl) (fun a w=>Tryz.call160 a w) (by kernel_rfl) (by kernel_rfl) rfl rfl
def zxc(e:Int)(o H:ByteArray)(N:Int)(b:Option Addr)(z O:Nat)(a:World)(r:Value->World->Prop):Prop:=
 ∀I:Nat,a.heap.size<=I->(((e=1)->zc6 (⟨#[63]⟩:ByteArray) o/\∀f,Ext a f->r (.string ((⟨#[63]⟩:ByteArray)++o)) f))/\((e≠1)->(((e=2)->zc6 o (⟨#[61]⟩:ByteArray)/\zc6 (o++(⟨#[61]⟩:ByteArray)) H/\∀f,Ext a f->r (.string ((o++(⟨#[61]⟩:ByteArray))++H)) f))/\((e≠2)->(((e=3)->zc6 o (⟨#[62,61]⟩:ByteArray)/\∀f,Ext a f->FnP Tryz.prog zbs #[(.int .i64 N),(.int .i64 10)] f fun J K=>Ext f K/\∃d,J=(.string d)/\zc6 (o++(⟨#[62,61]⟩:ByteArray)) d/\∀F,Ext a F->r (.string ((o++(⟨#[62,61]⟩:ByteArray))++d)) F))/\((e≠3)->(((e=4)->b≠none/\(0:Int)<=0/\(0:Int)<(z:Int)/\(pIdx b 0 5)≠none/\∃i,cell a (pIdx b 0 5) 0=some (.int .i64 i)/\∃j,cell a (pIdx b 0 5) 1=some (.string j)/\∃d,cell a (pIdx b 0 5) 2=some (.string d)/\∃k,cell a (pIdx b 0 5) 3=some (.int .i64 k)/\∃l m n,cell a (pIdx b 0 5) 4=some (.slice l m n)/\∀A,Ext a A->FnP Tryz.prog zdg #[(.agg #[(.int .i64 i),(.string j),(.string d),(.int .i64 k),(.slice l m n)])] A fun L M=>Ext A M/\∃g,L=(.string g)/\zc6 (⟨#[33]⟩:ByteArray) g/\∀G,Ext a G->r (.string ((⟨#[33]⟩:ByteArray)++g)) G))/\((e≠4)->(((e=5)->b≠none/\(0:Int)<=0/\(0:Int)<(z:Int)/\(pIdx b 0 5)≠none/\∃i,cell a (pIdx b 0 5) 0=some (.int .i64 i)/\∃j,cell a (pIdx b 0 5) 1=some (.string j)/\∃d,cell a (pIdx b 0 5) 2=some (.string d)/\∃k,cell a (pIdx b 0 5) 3=some (.int .i64 k)/\∃l m n,cell a (pIdx b 0 5) 4=some (.slice l m n)/\b≠none/\(0:Int)<=1/\(1:Int)<(z:Int)/\(pIdx b 1 5)≠none/\∃s,cell a (pIdx b 1 5) 0=some (.int .i64 s)/\∃t,cell a (pIdx b 1 5) 1=some (.string t)/\∃g,cell a (pIdx b 1 5) 2=some (.string g)/\∃u,cell a (pIdx b 1 5) 3=some (.int .i64 u)/\∃v w x,cell a (pIdx b 1 5) 4=some (.slice v w x)/\∀p,Ext a p->FnP Tryz.prog zdg #[(.agg #[(.int .i64 i),(.string j),(.string d),(.int .i64 k),(.slice l m n)])] p fun B C=>Ext p C/\∃c,B=(.string c)/\zc6 (⟨#[40]⟩:ByteArray) c/\zc6 ((⟨#[40]⟩:ByteArray)++c) (⟨#[38]⟩:ByteArray)/\∀q,Ext a q->FnP Tryz.prog zdg #[(.agg #[(.int .i64 s),(.string t),(.string g),(.int .i64 u),(.slice v w x)])] q fun D E=>Ext q E/\∃h,D=(.string h)/\zc6 (((⟨#[40]⟩:ByteArray)++c)++(⟨#[38]⟩:ByteArray)) h/\zc6 ((((⟨#[40]⟩:ByteArray)++c)++(⟨#[38]⟩:ByteArray))++h) (⟨#[41]⟩:ByteArray)/\∀y,Ext a y->r (.string (((((⟨#[40]⟩:ByteArray)++c)++(⟨#[38]⟩:ByteArray))++h)++(⟨#[41]⟩:ByteArray))) y))/\((e≠5)->b≠none/\(0:Int)<=0/\(0:Int)<(z:Int)/\(pIdx b 0 5)≠none/\∃i,cell a (pIdx b 0 5) 0=some (.int .i64 i)/\∃j,cell a (pIdx b 0 5) 1=some (.string j)/\∃d,cell a (pIdx b 0 5) 2=some (.string d)/\∃k,cell a (pIdx b 0 5) 3=some (.int .i64 k)/\∃l m n,cell a (pIdx b 0 5) 4=some (.slice l m n)/\b≠none/\(0:Int)<=1/\(1:Int)<(z:Int)/\(pIdx b 1 5)≠none/\∃s,cell a (pIdx b 1 5) 0=some (.int .i64 s)/\∃t,cell a (pIdx b 1 5) 1=some (.string t)/\∃g,cell a (pIdx b 1 5) 2=some (.string g)/\∃u,cell a (pIdx b 1 5) 3=some (.int .i64 u)/\∃v w x,cell a (pIdx b 1 5) 4=some (.slice v w x)/\∀p,Ext a p->FnP Tryz.prog zdg #[(.agg #[(.int .i64 i),(.string j),(.string d),(.int .i64 k),(.slice l m n)])] p fun B C=>Ext p C/\∃c,B=(.string c)/\zc6 (⟨#[40]⟩:ByteArray) c/\zc6 ((⟨#[40]⟩:ByteArray)++c) (⟨#[124]⟩:ByteArray)/\∀q,Ext a q->FnP Tryz.prog zdg #[(.agg #[(.int .i64 s),(.string t),(.string g),(.int .i64 u),(.slice v w x)])] q fun D E=>Ext q E/\∃h,D=(.string h)/\zc6 (((⟨#[40]⟩:ByteArray)++c)++(⟨#[124]⟩:ByteArray)) h/\zc6 ((((⟨#[40]⟩:ByteArray)++c)++(⟨#[124]⟩:ByteArray))++h) (⟨#[41]⟩:ByteArray)/\∀y,Ext a y->r (.string (((((⟨#[40]⟩:ByteArray)++c)++(⟨#[124]⟩:ByteArray))++h)++(⟨#[41]⟩:ByteArray))) y)))))
theorem zwC(a:Int)(b c:ByteArray)(d:Int)(e:Option Addr)(f g:Nat)(i:World)(j:Value->World->Prop)(h:zxc a b c d e f g i j):FnP Tryz.prog zdg #[(.agg #[(.int .i64 a),(.string b),(.string c),(.int .i64 d),(.slice e f g)])] i j:=
 zab (Eq.mp (by kernel_rfl:_=Runs Tryz.prog j ({N:=65}:Cfg) Tryz.f229 (Tryz.f229.body.getD .skip) [.agg [.int .i64 a,.str b,.str c,.int .i64 d,.slc e f g]] i) h) Tryz.func229 (by kernel_rfl) (fun a w=>Tryz.call229 a w) (by kernel_rfl) (by kernel_rfl) rfl rfl
def zxb(g:Int)(h i:ByteArray)(j:Int)(k:Option Addr)(l m:Nat)(b:World)(n:Value->World->Prop):Prop:=
 ∀o:Nat,b.heap.size<=o->∀d,Ext b d->FnP Tryz.prog zdS #[(.agg #[(.int .i64 g),(.string h),(.string i),(.int .i64 j),(.slice k l m)])] d fun p q=>Ext d q/\∃c,p=(.int .i64 c)/\((c≠0)->∀a,Ext b a->n (.tuple #[(.string (⟨#[]⟩:ByteArray)),(.int .i64 c)]) a)/\((c=0)->∀a,Ext b a->FnP Tryz.prog zdg #[(.agg #[(.int .i64 g),(.string h),(.string i),(.int .i64 j),(.slice k l m)])] a fun r s=>Ext a s/\∃e,r=(.string e)/\∀f,Ext b f->n (.tuple #[(.string e),(.int .i64 0)]) f)
theorem zwB(a:Int)(b c:ByteArray)(d:Int)(e:Option Addr)(f g:Nat)(i:World)(j:Value->World->Prop)(h:zxb a b c d e f g i j):FnP Tryz.prog ziU #[(.agg #[(.int .i64 a),(.string b),(.string c),(.int .i64 d),(.slice e f g)])] i j:=
 zab (Eq.mp (by kernel_rfl:_=Runs Tryz.prog j ({N:=12}:Cfg) Tryz.f172 (Tryz.f172.body.getD .skip) [.agg [.int .i64 a,.str b,.str c,.int .i64 d,.slc e f g]] i) h) Tryz.func172 (by kernel_rfl) (fun a w=>Tryz.call172 a w) (by kernel_rfl) (by kernel_rfl) rfl rfl
def zlo(a:Option Addr)(j:Int)(c:World)(f:Value->World->Prop):Prop:=
 a≠none/\a≠none/\∃d,cell c (pAdd a 0) 0=some (.string d)/\((d≠(⟨#[]⟩:ByteArray))->a≠none)/\((d≠(⟨#[]⟩:ByteArray))->a≠none)/\((d=(⟨#[]⟩:ByteArray))->∀g,Ext c g->f (.bool false) g)/\((d≠(⟨#[]⟩:ByteArray))->∃e,cell c (pAdd a 0) 0=some (.string e)/\(0:Int)<=0/\(0:Int)<(e.size:Int)/\(((sAt e 0)≠j)->∀h,Ext c h->f (.bool false) h)/\(((sAt e 0)=j)->a≠none/\a≠none/\∃b,cell c (pAdd a 0) 0=some (.string b)/\(0:Int)<=1/\(1:Int)<=(b.size:Int)/\((b.size:Int):Int)<=(b.size:Int)/\a≠none/\a≠none/\zan c (pAdd a 0) [(.string (b.extract (1:Int).toNat (b.size:Int).toNat))] [] fun k=>∀i,Ext k i->f (.bool true) i))
theorem zfP(a:Option Addr)(b:Int)(c:World)(d:Value->World->Prop)(h:zlo a b c d):FnP Tryz.prog zae #[(.pointer a),(.int .u8 b)] c d:=
 zab (Eq.mp (by kernel_rfl:_=Runs Tryz.prog d ({N:=27}:Cfg) Tryz.f258 (Tryz.f258.body.getD .skip) [.sc (.ptr a),.sc (.int .u8 b)] c) h) Tryz.func258 (by kernel_rfl) (fun a w=>Tryz.call258 a w) (by kernel_rfl) (by kernel_rfl) rfl rfl
def zlp(a:Option Addr)(e:World)(k:Value->World->Prop):Prop:=
 a≠none/\a≠none/\∃i,cell e (pAdd a 0) 0=some (.string i)/\∀h,Ext e h->FnP Tryz.prog zfE #[(.string i),(.string (⟨#[63,61,62,33,40,41,38,124]⟩:ByteArray))] h fun l m=>Ext h m/\∃d,l=(.int .i64 d)/\(((d<0)->a≠none/\a≠none/\∃b,cell e (pAdd a 0) 0=some (.string b)/\a≠none/\a≠none/\∃c,cell e (pAdd a 0) 0=some (.string c)/\(0:Int)<=0/\(0:Int)<=(b.size:Int)/\((b.size:Int):Int)<=(c.size:Int)/\a≠none/\a≠none/\∃f,cell e (pAdd a 0) 0=some (.string f)/\(0:Int)<=(b.size:Int)/\((b.size:Int):Int)<=(f.size:Int)/\((f.size:Int):Int)<=(f.size:Int)/\a≠none/\a≠none/\zan e (pAdd a 0) [(.string (f.extract (b.size:Int).toNat (f.size:Int).toNat))] [] fun g=>∀j,Ext g j->k (.string (c.extract (0:Int).toNat (b.size:Int).toNat)) j))/\((0<=d)->a≠none/\a≠none/\∃b,cell e (pAdd a 0) 0=some (.string b)/\(0:Int)<=0/\(0:Int)<=d/\(d:Int)<=(b.size:Int)/\a≠none/\a≠none/\∃c,cell e (pAdd a 0) 0=some (.string c)/\(0:Int)<=d/\(d:Int)<=(c.size:Int)/\((c.size:Int):Int)<=(c.size:Int)/\a≠none/\a≠none/\zan e (pAdd a 0) [(.string (c.extract d.toNat (c.size:Int).toNat))] [] fun n=>∀g,Ext n g->k (.string (b.extract (0:Int).toNat d.toNat)) g)
theorem zk3(a:Option Addr)(b:World)(c:Value->World->Prop)(h:zlp a b c):FnP Tryz.prog zbp #[(.pointer a)] b c:=
 zab (Eq.mp (by kernel_rfl:_=Runs Tryz.prog c ({N:=33}:Cfg) Tryz.f259 (Tryz.f259.body.getD .skip) [.sc (.ptr a)] b) h) Tryz.func259 (by kernel_rfl) (fun a w=>Tryz.call259 a w) (by kernel_rfl) (by kernel_rfl) rfl rfl
abbrev ziT:FuncId:=177
abbrev za3:FuncId:=231
abbrev zev:FuncId:=260
def zmE(b:Option Addr)(u:World)(h:Value->World->Prop):Prop:=
 ∀a:Nat,u.heap.size<=a->b≠none/\b≠none/\∃w,cell u (pAdd b 1) 0=some (.int .i64 w)/\((w=0)->∀R,Ext u R->h (.tuple #[(.agg #[(.int .i64 0),(.string (⟨#[]⟩:ByteArray)),(.string (⟨#[]⟩:ByteArray)),(.int .i64 0),(.slice none 0 0)]),(.bool false)]) R)/\((w≠0)->b≠none/\b≠none/\∃x,cell u (pAdd b 1) 0=some (.int .i64 x)/\InR .i64 (x-1)/\b≠none/\b≠none/\zan u (pAdd b 1) [(.int .i64 (x-1))] [a] fun ax=>∀y,zag [] [a] ax y->FnP Tryz.prog zae #[(.pointer b),(.int .u8 63)] y fun ay G=>zcm [a] y G/\∃z,ay=(.bool z)/\(((z=true)->∀i,zag [] [a] G i->FnP Tryz.prog zbp #[(.pointer b)] i fun H q=>zcm [a] i q/\∃o,H=(.string o)/\∀d,zag [a] [] q d->h (.tuple #[(.agg #[(.int .i64 1),(.string o),(.string (⟨#[]⟩:ByteArray)),(.int .i64 0),(.slice none 0 0)]),(.bool true)]) d))/\((z=false)->∀i,zag [] [a] G i->FnP Tryz.prog zae #[(.pointer b),(.int .u8 33)] i fun H q=>zcm [a] i q/\∃o,H=(.bool o)/\(((o=true)->∀d,zag [] [a] q d->FnP Tryz.prog za3 #[(.pointer b)] d fun I m=>zcm [a] d m/\∃S T U V W X Y Z,I=(.tuple #[(.agg #[(.int .i64 S),(.string T),(.string U),(.int .i64 V),(.slice W X Y)]),(.bool Z)])/\∀aa:Nat,m.heap.size<=aa->∀A,zag [] [a,aa] m A->Run Tryz.prog (.buildSlice 45 1 [(0,(.agg #[(.int .i64 S),(.string T),(.string U),(.int .i64 V),(.slice W X Y)]))]) A fun az c=>Ext A c/\∃ab ac ad,az=(.slice ab ac ad)/\∀f,zag [a] [] c f->h (.tuple #[(.agg #[(.int .i64 4),(.string (⟨#[]⟩:ByteArray)),(.string (⟨#[]⟩:ByteArray)),(.int .i64 0),(.slice ab ac ad)]),(.bool Z)]) f))/\((o=false)->∀d,zag [] [a] q d->FnP Tryz.prog zae #[(.pointer b),(.int .u8 40)] d fun I m=>zcm [a] d m/\∃B,I=(.bool B)/\(((B=true)->∀j,zag [] [a] m j->FnP Tryz.prog zev #[(.pointer b)] j fun J t=>zcm [a] j t/\∃ae af ag ah ai aj ak al,J=(.tuple #[(.agg #[(.int .i64 ae),(.string af),(.string ag),(.int .i64 ah),(.slice ai aj ak)]),(.bool al)])/\∀g,zag [a] [] t g->h (.tuple #[(.agg #[(.int .i64 ae),(.string af),(.string ag),(.int .i64 ah),(.slice ai aj ak)]),(.bool al)]) g))/\((B=false)->∀j,zag [] [a] m j->FnP Tryz.prog zbp #[(.pointer b)] j fun J t=>zcm [a] j t/\∃v,J=(.string v)/\∀C,zag [] [a] t C->FnP Tryz.prog zae #[(.pointer b),(.int .u8 62)] C fun aA K=>zcm [a] C K/\∃D,aA=(.bool D)/\(((D=true)->∀k,zag [] [a] K k->FnP Tryz.prog zae #[(.pointer b),(.int .u8 61)] k fun L n=>zcm [a] k n/\∃l,L=(.bool l)/\((l=false)->∀c,zag [a] [] n c->h (.tuple #[(.agg #[(.int .i64 0),(.string (⟨#[]⟩:ByteArray)),(.string (⟨#[]⟩:ByteArray)),(.int .i64 0),(.slice none 0 0)]),(.bool false)]) c)/\((l=true)->∀c,zag [] [a] n c->FnP Tryz.prog zbp #[(.pointer b)] c fun M g=>zcm [a] c g/\∃r,M=(.string r)/\∀p,zag [] [a] g p->FnP Tryz.prog zbH #[(.string r),(.int .i64 10),(.int .i64 64)] p fun aB f=>Ext p f/\∃E F,aB=(.tuple #[(.int .i64 E),F])/\∃(P:Bool->Int->ByteArray->ByteArray->Int->Option Addr->Nat->Nat->World->Prop),((∀e,Ext f e->Run Tryz.prog (.eq .eql 175 false true F .nilIface) e fun N O=>Ext e O/\∃s,N=(.bool s)/\P s 3 v (⟨#[]⟩:ByteArray) E none 0 0 f)/\∀e,zag [a] [] f e->Run Tryz.prog (.eq .eql 175 false true F .nilIface) e fun N O=>Ext e O/\∃s,N=(.bool s)/\P s 3 v (⟨#[]⟩:ByteArray) E none 0 0 f)/\∀(am:Bool)(an:Int)(ao:ByteArray)(ap:ByteArray)(aq:Int)(ar:Option Addr)(au:Nat)(av:Nat)(aw:World),P am an ao ap aq ar au av aw->∀e,zag [a] [] aw e->h (.tuple #[(.agg #[(.int .i64 an),(.string ao),(.string ap),(.int .i64 aq),(.slice ar au av)]),(.bool am)]) e)))/\((D=false)->∀k,zag [] [a] K k->FnP Tryz.prog zae #[(.pointer b),(.int .u8 61)] k fun L n=>zcm [a] k n/\∃l,L=(.bool l)/\((l=false)->∀c,zag [a] [] n c->h (.tuple #[(.agg #[(.int .i64 0),(.string (⟨#[]⟩:ByteArray)),(.string (⟨#[]⟩:ByteArray)),(.int .i64 0),(.slice none 0 0)]),(.bool false)]) c)/\((l=true)->∀c,zag [] [a] n c->FnP Tryz.prog zbp #[(.pointer b)] c fun M g=>zcm [a] c g/\∃r,M=(.string r)/\∀p,zag [a] [] g p->h (.tuple #[(.agg #[(.int .i64 2),(.string v),(.string r),(.int .i64 0),(.slice none 0 0)]),(.bool true)]) p))))))
theorem zgC(a:Option Addr)(b:World)(c:Value->World->Prop)(h:zmE a b c):FnP Tryz.prog za3 #[(.pointer a)] b c:=
 zab (Eq.mp (by kernel_rfl:_=Runs Tryz.prog c ({N:=74,muts:=[258,259,231,260]}:Cfg) Tryz.f231 (Tryz.f231.body.getD .skip) [.sc (.ptr a)] b) h) Tryz.func231 (by kernel_rfl) (fun a w=>Tryz.call231 a w) (by kernel_rfl) (by kernel_rfl) rfl rfl
def zmF(y:Option Addr)(aJ:World)(ak:Value->World->Prop):Prop:=
 ∀b:Nat,aJ.heap.size<=b->∀al,zag [] [b] aJ al->FnP Tryz.prog za3 #[(.pointer y)] al fun aK aj=>zcm [b] al aj/\∃n o p q r s t am,aK=(.tuple #[(.agg #[(.int .i64 n),(.string o),(.string p),(.int .i64 q),(.slice r s t)]),(.bool am)])/\∀c:Nat,aj.heap.size<=c->((am=false)->∀ac,zag [b] [] aj ac->ak (.tuple #[(.agg #[(.int .i64 0),(.string (⟨#[]⟩:ByteArray)),(.string (⟨#[]⟩:ByteArray)),(.int .i64 0),(.slice none 0 0)]),(.bool false)]) ac)/\((am=true)->∀ac,zag [] [b,c] aj ac->FnP Tryz.prog zae #[(.pointer y),(.int .u8 124)] ac fun aL ap=>zcm [b,c] ac ap/\∃an,aL=(.bool an)/\(((an=true)->∀Z,zag [] [b,c] ap Z->FnP Tryz.prog za3 #[(.pointer y)] Z fun aq z=>zcm [b,c] Z z/\∃J K L M N O P A,aq=(.tuple #[(.agg #[(.int .i64 J),(.string K),(.string L),(.int .i64 M),(.slice N O P)]),(.bool A)])/\∀l:Nat,z.heap.size<=l->∃(C:Bool->Int->ByteArray->ByteArray->Int->Option Addr->Nat->Nat->World->Prop),((((∀f,zag [] [b,c,l] z f->Run Tryz.prog (.buildSlice 45 2 [(0,(.agg #[(.int .i64 n),(.string o),(.string p),(.int .i64 q),(.slice r s t)])),(1,(.agg #[(.int .i64 J),(.string K),(.string L),(.int .i64 M),(.slice N O P)]))]) f fun v j=>Ext f j/\∃g w x,v=(.slice g w x)/\(((A=true)->∀aa,zag [] [b,c,l] j aa->FnP Tryz.prog zae #[(.pointer y),(.int .u8 41)] aa fun ar u=>zcm [b,c,l] aa u/\∃ae,ar=(.bool ae)/\C ae 6 (⟨#[]⟩:ByteArray) (⟨#[]⟩:ByteArray) 0 g w x u))/\((A=false)->C false 6 (⟨#[]⟩:ByteArray) (⟨#[]⟩:ByteArray) 0 g w x j))/\(((A=true)->∀f,zag [] [b,c,l] z f->FnP Tryz.prog zae #[(.pointer y),(.int .u8 41)] f fun v j=>zcm [b,c,l] f j/\∃g,v=(.bool g)/\∀a,zag [] [b,c,l] j a->Run Tryz.prog (.buildSlice 45 2 [(0,(.agg #[(.int .i64 n),(.string o),(.string p),(.int .i64 q),(.slice r s t)])),(1,(.agg #[(.int .i64 J),(.string K),(.string L),(.int .i64 M),(.slice N O P)]))]) a fun k e=>Ext a e/\∃d h i,k=(.slice d h i)/\C g 6 (⟨#[]⟩:ByteArray) (⟨#[]⟩:ByteArray) 0 d h i e))/\((A=false)->∀f,zag [] [b,c,l] z f->Run Tryz.prog (.buildSlice 45 2 [(0,(.agg #[(.int .i64 n),(.string o),(.string p),(.int .i64 q),(.slice r s t)])),(1,(.agg #[(.int .i64 J),(.string K),(.string L),(.int .i64 M),(.slice N O P)]))]) f fun v j=>Ext f j/\∃g w x,v=(.slice g w x)/\C false 6 (⟨#[]⟩:ByteArray) (⟨#[]⟩:ByteArray) 0 g w x j))/\(((A=true)->∀f,zag [] [b,c,l] z f->FnP Tryz.prog zae #[(.pointer y),(.int .u8 41)] f fun v j=>zcm [b,c,l] f j/\∃g,v=(.bool g)/\∀a,zag [] [b,c,l] j a->Run Tryz.prog (.buildSlice 45 2 [(0,(.agg #[(.int .i64 n),(.string o),(.string p),(.int .i64 q),(.slice r s t)])),(1,(.agg #[(.int .i64 J),(.string K),(.string L),(.int .i64 M),(.slice N O P)]))]) a fun k e=>Ext a e/\∃d h i,k=(.slice d h i)/\C g 6 (⟨#[]⟩:ByteArray) (⟨#[]⟩:ByteArray) 0 d h i e))/\((A=false)->∀f,zag [] [b,c,l] z f->Run Tryz.prog (.buildSlice 45 2 [(0,(.agg #[(.int .i64 n),(.string o),(.string p),(.int .i64 q),(.slice r s t)])),(1,(.agg #[(.int .i64 J),(.string K),(.string L),(.int .i64 M),(.slice N O P)]))]) f fun v j=>Ext f j/\∃g w x,v=(.slice g w x)/\C false 6 (⟨#[]⟩:ByteArray) (⟨#[]⟩:ByteArray) 0 g w x j))/\(((∀f,zag [] [b,c,l] z f->Run Tryz.prog (.buildSlice 45 2 [(0,(.agg #[(.int .i64 n),(.string o),(.string p),(.int .i64 q),(.slice r s t)])),(1,(.agg #[(.int .i64 J),(.string K),(.string L),(.int .i64 M),(.slice N O P)]))]) f fun v j=>Ext f j/\∃g w x,v=(.slice g w x)/\(((A=true)->∀aa,zag [] [b,c,l] j aa->FnP Tryz.prog zae #[(.pointer y),(.int .u8 41)] aa fun ar u=>zcm [b,c,l] aa u/\∃ae,ar=(.bool ae)/\C ae 6 (⟨#[]⟩:ByteArray) (⟨#[]⟩:ByteArray) 0 g w x u))/\((A=false)->C false 6 (⟨#[]⟩:ByteArray) (⟨#[]⟩:ByteArray) 0 g w x j))/\(((A=true)->∀f,zag [] [b,c,l] z f->FnP Tryz.prog zae #[(.pointer y),(.int .u8 41)] f fun v j=>zcm [b,c,l] f j/\∃g,v=(.bool g)/\∀a,zag [] [b,c,l] j a->Run Tryz.prog (.buildSlice 45 2 [(0,(.agg #[(.int .i64 n),(.string o),(.string p),(.int .i64 q),(.slice r s t)])),(1,(.agg #[(.int .i64 J),(.string K),(.string L),(.int .i64 M),(.slice N O P)]))]) a fun k e=>Ext a e/\∃d h i,k=(.slice d h i)/\C g 6 (⟨#[]⟩:ByteArray) (⟨#[]⟩:ByteArray) 0 d h i e))/\((A=false)->∀f,zag [] [b,c,l] z f->Run Tryz.prog (.buildSlice 45 2 [(0,(.agg #[(.int .i64 n),(.string o),(.string p),(.int .i64 q),(.slice r s t)])),(1,(.agg #[(.int .i64 J),(.string K),(.string L),(.int .i64 M),(.slice N O P)]))]) f fun v j=>Ext f j/\∃g w x,v=(.slice g w x)/\C false 6 (⟨#[]⟩:ByteArray) (⟨#[]⟩:ByteArray) 0 g w x j))/\(((A=true)->∀f,zag [] [b,c,l] z f->FnP Tryz.prog zae #[(.pointer y),(.int .u8 41)] f fun v j=>zcm [b,c,l] f j/\∃g,v=(.bool g)/\∀a,zag [] [b,c,l] j a->Run Tryz.prog (.buildSlice 45 2 [(0,(.agg #[(.int .i64 n),(.string o),(.string p),(.int .i64 q),(.slice r s t)])),(1,(.agg #[(.int .i64 J),(.string K),(.string L),(.int .i64 M),(.slice N O P)]))]) a fun k e=>Ext a e/\∃d h i,k=(.slice d h i)/\C g 6 (⟨#[]⟩:ByteArray) (⟨#[]⟩:ByteArray) 0 d h i e))/\((A=false)->∀f,zag [] [b,c,l] z f->Run Tryz.prog (.buildSlice 45 2 [(0,(.agg #[(.int .i64 n),(.string o),(.string p),(.int .i64 q),(.slice r s t)])),(1,(.agg #[(.int .i64 J),(.string K),(.string L),(.int .i64 M),(.slice N O P)]))]) f fun v j=>Ext f j/\∃g w x,v=(.slice g w x)/\C false 6 (⟨#[]⟩:ByteArray) (⟨#[]⟩:ByteArray) 0 g w x j))/\(((A=true)->∀f,zag [] [b,c,l] z f->FnP Tryz.prog zae #[(.pointer y),(.int .u8 41)] f fun v j=>zcm [b,c,l] f j/\∃g,v=(.bool g)/\∀a,zag [] [b,c,l] j a->Run Tryz.prog (.buildSlice 45 2 [(0,(.agg #[(.int .i64 n),(.string o),(.string p),(.int .i64 q),(.slice r s t)])),(1,(.agg #[(.int .i64 J),(.string K),(.string L),(.int .i64 M),(.slice N O P)]))]) a fun k e=>Ext a e/\∃d h i,k=(.slice d h i)/\C g 6 (⟨#[]⟩:ByteArray) (⟨#[]⟩:ByteArray) 0 d h i e))/\((A=false)->∀f,zag [] [b,c,l] z f->Run Tryz.prog (.buildSlice 45 2 [(0,(.agg #[(.int .i64 n),(.string o),(.string p),(.int .i64 q),(.slice r s t)])),(1,(.agg #[(.int .i64 J),(.string K),(.string L),(.int .i64 M),(.slice N O P)]))]) f fun v j=>Ext f j/\∃g w x,v=(.slice g w x)/\C false 6 (⟨#[]⟩:ByteArray) (⟨#[]⟩:ByteArray) 0 g w x j))/\∀(av:Bool)(aw:Int)(ax:ByteArray)(ay:ByteArray)(ah:Int)(ai:Option Addr)(az:Nat)(aA:Nat)(aB:World),C av aw ax ay ah ai az aA aB->∀f,zag [b] [] aB f->ak (.tuple #[(.agg #[(.int .i64 aw),(.string ax),(.string ay),(.int .i64 ah),(.slice ai az aA)]),(.bool av)]) f))/\((an=false)->∀Z,zag [] [b,c] ap Z->FnP Tryz.prog zae #[(.pointer y),(.int .u8 38)] Z fun aq z=>zcm [b,c] Z z/\∃ao,aq=(.bool ao)/\((ao=false)->∀ad,zag [b] [] z ad->ak (.tuple #[(.agg #[(.int .i64 0),(.string (⟨#[]⟩:ByteArray)),(.string (⟨#[]⟩:ByteArray)),(.int .i64 0),(.slice none 0 0)]),(.bool false)]) ad)/\((ao=true)->∀ad,zag [] [b,c] z ad->FnP Tryz.prog za3 #[(.pointer y)] ad fun aM H=>zcm [b,c] ad H/\∃R S T U V W X B,aM=(.tuple #[(.agg #[(.int .i64 R),(.string S),(.string T),(.int .i64 U),(.slice V W X)]),(.bool B)])/\∀m:Nat,H.heap.size<=m->∃(D:Bool->Int->ByteArray->ByteArray->Int->Option Addr->Nat->Nat->World->Prop),((((∀a,zag [] [b,c,m] H a->Run Tryz.prog (.buildSlice 45 2 [(0,(.agg #[(.int .i64 n),(.string o),(.string p),(.int .i64 q),(.slice r s t)])),(1,(.agg #[(.int .i64 R),(.string S),(.string T),(.int .i64 U),(.slice V W X)]))]) a fun k e=>Ext a e/\∃d h i,k=(.slice d h i)/\(((B=true)->∀ab,zag [] [b,c,m] e ab->FnP Tryz.prog zae #[(.pointer y),(.int .u8 41)] ab fun au ag=>zcm [b,c,m] ab ag/\∃af,au=(.bool af)/\D af 5 (⟨#[]⟩:ByteArray) (⟨#[]⟩:ByteArray) 0 d h i ag))/\((B=false)->D false 5 (⟨#[]⟩:ByteArray) (⟨#[]⟩:ByteArray) 0 d h i e))/\(((B=true)->∀a,zag [] [b,c,m] H a->FnP Tryz.prog zae #[(.pointer y),(.int .u8 41)] a fun k e=>zcm [b,c,m] a e/\∃d,k=(.bool d)/\∀u,zag [] [b,c,m] e u->Run Tryz.prog (.buildSlice 45 2 [(0,(.agg #[(.int .i64 n),(.string o),(.string p),(.int .i64 q),(.slice r s t)])),(1,(.agg #[(.int .i64 R),(.string S),(.string T),(.int .i64 U),(.slice V W X)]))]) u fun Y I=>Ext u I/\∃E F G,Y=(.slice E F G)/\D d 5 (⟨#[]⟩:ByteArray) (⟨#[]⟩:ByteArray) 0 E F G I))/\((B=false)->∀a,zag [] [b,c,m] H a->Run Tryz.prog (.buildSlice 45 2 [(0,(.agg #[(.int .i64 n),(.string o),(.string p),(.int .i64 q),(.slice r s t)])),(1,(.agg #[(.int .i64 R),(.string S),(.string T),(.int .i64 U),(.slice V W X)]))]) a fun k e=>Ext a e/\∃d h i,k=(.slice d h i)/\D false 5 (⟨#[]⟩:ByteArray) (⟨#[]⟩:ByteArray) 0 d h i e))/\(((B=true)->∀a,zag [] [b,c,m] H a->FnP Tryz.prog zae #[(.pointer y),(.int .u8 41)] a fun k e=>zcm [b,c,m] a e/\∃d,k=(.bool d)/\∀u,zag [] [b,c,m] e u->Run Tryz.prog (.buildSlice 45 2 [(0,(.agg #[(.int .i64 n),(.string o),(.string p),(.int .i64 q),(.slice r s t)])),(1,(.agg #[(.int .i64 R),(.string S),(.string T),(.int .i64 U),(.slice V W X)]))]) u fun Y I=>Ext u I/\∃E F G,Y=(.slice E F G)/\D d 5 (⟨#[]⟩:ByteArray) (⟨#[]⟩:ByteArray) 0 E F G I))/\((B=false)->∀a,zag [] [b,c,m] H a->Run Tryz.prog (.buildSlice 45 2 [(0,(.agg #[(.int .i64 n),(.string o),(.string p),(.int .i64 q),(.slice r s t)])),(1,(.agg #[(.int .i64 R),(.string S),(.string T),(.int .i64 U),(.slice V W X)]))]) a fun k e=>Ext a e/\∃d h i,k=(.slice d h i)/\D false 5 (⟨#[]⟩:ByteArray) (⟨#[]⟩:ByteArray) 0 d h i e))/\(((∀a,zag [] [b,c,m] H a->Run Tryz.prog (.buildSlice 45 2 [(0,(.agg #[(.int .i64 n),(.string o),(.string p),(.int .i64 q),(.slice r s t)])),(1,(.agg #[(.int .i64 R),(.string S),(.string T),(.int .i64 U),(.slice V W X)]))]) a fun k e=>Ext a e/\∃d h i,k=(.slice d h i)/\(((B=true)->∀ab,zag [] [b,c,m] e ab->FnP Tryz.prog zae #[(.pointer y),(.int .u8 41)] ab fun au ag=>zcm [b,c,m] ab ag/\∃af,au=(.bool af)/\D af 5 (⟨#[]⟩:ByteArray) (⟨#[]⟩:ByteArray) 0 d h i ag))/\((B=false)->D false 5 (⟨#[]⟩:ByteArray) (⟨#[]⟩:ByteArray) 0 d h i e))/\(((B=true)->∀a,zag [] [b,c,m] H a->FnP Tryz.prog zae #[(.pointer y),(.int .u8 41)] a fun k e=>zcm [b,c,m] a e/\∃d,k=(.bool d)/\∀u,zag [] [b,c,m] e u->Run Tryz.prog (.buildSlice 45 2 [(0,(.agg #[(.int .i64 n),(.string o),(.string p),(.int .i64 q),(.slice r s t)])),(1,(.agg #[(.int .i64 R),(.string S),(.string T),(.int .i64 U),(.slice V W X)]))]) u fun Y I=>Ext u I/\∃E F G,Y=(.slice E F G)/\D d 5 (⟨#[]⟩:ByteArray) (⟨#[]⟩:ByteArray) 0 E F G I))/\((B=false)->∀a,zag [] [b,c,m] H a->Run Tryz.prog (.buildSlice 45 2 [(0,(.agg #[(.int .i64 n),(.string o),(.string p),(.int .i64 q),(.slice r s t)])),(1,(.agg #[(.int .i64 R),(.string S),(.string T),(.int .i64 U),(.slice V W X)]))]) a fun k e=>Ext a e/\∃d h i,k=(.slice d h i)/\D false 5 (⟨#[]⟩:ByteArray) (⟨#[]⟩:ByteArray) 0 d h i e))/\(((B=true)->∀a,zag [] [b,c,m] H a->FnP Tryz.prog zae #[(.pointer y),(.int .u8 41)] a fun k e=>zcm [b,c,m] a e/\∃d,k=(.bool d)/\∀u,zag [] [b,c,m] e u->Run Tryz.prog (.buildSlice 45 2 [(0,(.agg #[(.int .i64 n),(.string o),(.string p),(.int .i64 q),(.slice r s t)])),(1,(.agg #[(.int .i64 R),(.string S),(.string T),(.int .i64 U),(.slice V W X)]))]) u fun Y I=>Ext u I/\∃E F G,Y=(.slice E F G)/\D d 5 (⟨#[]⟩:ByteArray) (⟨#[]⟩:ByteArray) 0 E F G I))/\((B=false)->∀a,zag [] [b,c,m] H a->Run Tryz.prog (.buildSlice 45 2 [(0,(.agg #[(.int .i64 n),(.string o),(.string p),(.int .i64 q),(.slice r s t)])),(1,(.agg #[(.int .i64 R),(.string S),(.string T),(.int .i64 U),(.slice V W X)]))]) a fun k e=>Ext a e/\∃d h i,k=(.slice d h i)/\D false 5 (⟨#[]⟩:ByteArray) (⟨#[]⟩:ByteArray) 0 d h i e))/\(((B=true)->∀a,zag [] [b,c,m] H a->FnP Tryz.prog zae #[(.pointer y),(.int .u8 41)] a fun k e=>zcm [b,c,m] a e/\∃d,k=(.bool d)/\∀u,zag [] [b,c,m] e u->Run Tryz.prog (.buildSlice 45 2 [(0,(.agg #[(.int .i64 n),(.string o),(.string p),(.int .i64 q),(.slice r s t)])),(1,(.agg #[(.int .i64 R),(.string S),(.string T),(.int .i64 U),(.slice V W X)]))]) u fun Y I=>Ext u I/\∃E F G,Y=(.slice E F G)/\D d 5 (⟨#[]⟩:ByteArray) (⟨#[]⟩:ByteArray) 0 E F G I))/\((B=false)->∀a,zag [] [b,c,m] H a->Run Tryz.prog (.buildSlice 45 2 [(0,(.agg #[(.int .i64 n),(.string o),(.string p),(.int .i64 q),(.slice r s t)])),(1,(.agg #[(.int .i64 R),(.string S),(.string T),(.int .i64 U),(.slice V W X)]))]) a fun k e=>Ext a e/\∃d h i,k=(.slice d h i)/\D false 5 (⟨#[]⟩:ByteArray) (⟨#[]⟩:ByteArray) 0 d h i e))/\∀(aC:Bool)(ah:Int)(ai:ByteArray)(aD:ByteArray)(aE:Int)(aF:Option Addr)(aG:Nat)(aH:Nat)(aI:World),D aC ah ai aD aE aF aG aH aI->∀a,zag [b] [] aI a->ak (.tuple #[(.agg #[(.int .i64 ah),(.string ai),(.string aD),(.int .i64 aE),(.slice aF aG aH)]),(.bool aC)]) a)))
theorem zl9(a:Option Addr)(b:World)(c:Value->World->Prop)(h:zmF a b c):FnP Tryz.prog zev #[(.pointer a)] b c:=
 zab (Eq.mp (by kernel_rfl:_=Runs Tryz.prog c ({N:=36,muts:=[258,259,231,260]}:Cfg) Tryz.f260 (Tryz.f260.body.getD .skip) [.sc (.ptr a)] b) h) Tryz.func260 (by kernel_rfl) (fun a w=>Tryz.call260 a w) (by kernel_rfl) (by kernel_rfl) rfl rfl
def zxa(f:ByteArray)(s:World)(g:Value->World->Prop):Prop:=
 ∀a:Nat,s.heap.size<=a->((2000<(f.size:Int))->∀d,Ext s d->g (.tuple #[(.agg #[(.int .i64 0),(.string (⟨#[]⟩:ByteArray)),(.string (⟨#[]⟩:ByteArray)),(.int .i64 0),(.slice none 0 0)]),(.int .i64 2)]) d)/\(((f.size:Int)<=2000)->∀d,zag [] [a] s d->New d 348 [(.string f),(.int .i64 60)] fun u v=>∀h,zag [] [a] v h->FnP Tryz.prog za3 #[(.pointer u)] h fun w c=>zcm [a] h c/\∃i j k l m n o p,w=(.tuple #[(.agg #[(.int .i64 i),(.string j),(.string k),(.int .i64 l),(.slice m n o)]),(.bool p)])/\∀t:Nat,c.heap.size<=t->((p=false)->∀b,zag [a] [] c b->g (.tuple #[(.agg #[(.int .i64 0),(.string (⟨#[]⟩:ByteArray)),(.string (⟨#[]⟩:ByteArray)),(.int .i64 0),(.slice none 0 0)]),(.int .i64 3)]) b)/\((p=true)->∀b,Ext c b->FnP Tryz.prog ziU #[(.agg #[(.int .i64 i),(.string j),(.string k),(.int .i64 l),(.slice m n o)])] b fun x y=>Ext b y/\∃q r,x=(.tuple #[(.string q),(.int .i64 r)])/\(((r≠0)\/(q≠f))->∀e,zag [a] [] c e->g (.tuple #[(.agg #[(.int .i64 0),(.string (⟨#[]⟩:ByteArray)),(.string (⟨#[]⟩:ByteArray)),(.int .i64 0),(.slice none 0 0)]),(.int .i64 3)]) e)/\(((r=0)/\(q=f))->∀e,zag [a] [] c e->g (.tuple #[(.agg #[(.int .i64 i),(.string j),(.string k),(.int .i64 l),(.slice m n o)]),(.int .i64 0)]) e)))
theorem zwA(a:ByteArray)(b:World)(c:Value->World->Prop)(h:zxa a b c):FnP Tryz.prog ziT #[(.string a)] b c:=
 zab (Eq.mp (by kernel_rfl:_=Runs Tryz.prog c ({N:=38,pub:=[15],muts:=[231]}:Cfg) Tryz.f177 (Tryz.f177.body.getD .skip) [.sc (.str a)] b) h) Tryz.func177 (by kernel_rfl) (fun a w=>Tryz.call177 a w) (by kernel_rfl) (by kernel_rfl) rfl rfl
abbrev zbn:FuncId:=105
abbrev zgo:FuncId:=130
abbrev zjM:FuncId:=174
abbrev zcZ:FuncId:=175
def zvh(B:ByteArray)(n C D E F:Int)(G H:ByteArray)(I:Int)(J:Option Addr)(K L:Nat)(t:Option Addr)(j M:Nat)(b:World)(f:Value->World->Prop):Prop:=
 ∀u:Nat,b.heap.size<=u->∀o,Ext b o->FnP Tryz.prog zbh #[(.string B)] o fun v w=>Ext o w/\∃p,v=(.bool p)/\((p=false)->∀c,Ext b c->f (.int .i64 3) c)/\((p=true)->(((n<(-1000))\/(1000<n))->∀c,Ext b c->f (.int .i64 4) c)/\((((-1000)<=n)/\(n<=1000))->∀c,Ext b c->FnP Tryz.prog zba #[(.agg #[(.int .i64 C),(.int .i64 D),(.int .i64 E)])] c fun x y=>Ext c y/\∃k,x=(.int .i64 k)/\((k≠0)->∀g,Ext b g->f (.int .i64 k) g)/\((k=0)->∀g,Ext b g->FnP Tryz.prog zdS #[(.agg #[(.int .i64 F),(.string G),(.string H),(.int .i64 I),(.slice J K L)])] g fun z A=>Ext g A/\∃l,z=(.int .i64 l)/\((l≠0)->∀h,Ext b h->f (.int .i64 l) h)/\((l=0)->((8<(j:Int))->∀h,Ext b h->f (.int .i64 2) h)/\(((j:Int)<=8)->∃(q:Int->Int->World->Prop) (s:Int->Int->World->Nat),q 0 0 b/\∀(m:Int)(a:Int)(e:World),q m a e->(((a<(j:Int))->t≠none/\(0:Int)<=a/\(a:Int)<(j:Int)/\∃d,cell e (pIdx t a 1) 0=some (.int .i64 d)/\(((d<1)\/(60<d))->∀i,Ext e i->f (.int .i64 4) i)/\(((1<=d)/\(d<=60))->((d<=m)->∀i,Ext e i->f (.int .i64 6) i)/\((m<d)->InR .i64 (a+1)/\(q d (a+1) e/\s d (a+1) e<s m a e)))))/\(((j:Int)<=a)->∀r,Ext e r->f (.int .i64 0) r))))))
theorem zm6(a:ByteArray)(b c d e f:Int)(g i:ByteArray)(j:Int)(k:Option Addr)(l m:Nat)(n:Option Addr)(o p:Nat)(q:World)(r:Value->World->Prop)(h:zvh a b c d e f g i j k l m n o p q r):FnP Tryz.prog zc9 #[(.agg #[(.string a),(.int .i64 b),(.int .i64 c),(.int .i64 d),(.int .i64 e),(.int .i64 f),(.string g),(.string i),(.int .i64 j),(.slice k l m),(.slice n o p)])] q r:=
 zab (Eq.mp (by kernel_rfl:_=Runs Tryz.prog r ({N:=58}:Cfg) Tryz.f66 (Tryz.f66.body.getD .skip) [.agg [.str a,.int .i64 b,.int .i64 c,.int .i64 d,.int .i64 e,.int .i64 f,.str g,.str i,.int .i64 j,.slc k l m,.slc n o p]] q) h) Tryz.func66 (by kernel_rfl) (fun a w=>Tryz.call66 a w) (by kernel_rfl) (by kernel_rfl) rfl rfl
def zvi(z:Option Addr)(d H:Nat)(A:World)(B:Value->World->Prop):Prop:=
 (((d:Int)=0)->∀n,Ext A n->B (.string (⟨#[45]⟩:ByteArray)) n)/\(((d:Int)≠0)->∃(m:Option Addr->Nat->Nat->Int->World->Prop) (y:Option Addr->Nat->Nat->Int->World->Nat),m none 0 0 0 A/\∀(e:Option Addr)(f:Nat)(g:Nat)(a:Int)(b:World),m e f g a b->(((a<(d:Int))->z≠none/\(0:Int)<=a/\(a:Int)<(d:Int)/\∃o,cell b (pIdx z a 1) 0=some (.int .i64 o)/\∀c,Ext b c->FnP Tryz.prog zbn #[(.int .i64 o)] c fun C D=>Ext c D/\∃p,C=(.string p)/\∀h,Ext b h->Run Tryz.prog (.buildSlice 22 1 [(0,(.string p))]) h fun E w=>Ext h w/\∃q r s,E=(.slice q r s)/\∀t,Ext w t->Run Tryz.prog (.append #[22,22] 22 [(.slice e f g),(.slice q r s)]) t fun F x=>∃i j k,F=(.slice i j k)/\InR .i64 (a+1)/\(m i j k (a+1) x/\y i j k (a+1) x<y e f g a b)))/\(((d:Int)<=a)->∀l,Ext b l->FnP Tryz.prog za7 #[(.slice e f g),(.string (⟨#[44]⟩:ByteArray))] l fun G c=>Ext l c/\∃u,G=(.string u)/\∀v,Ext b v->B (.string u) v))
theorem zuu(a:Option Addr)(b c:Nat)(d:World)(e:Value->World->Prop)(h:zvi a b c d e):FnP Tryz.prog zjM #[(.slice a b c)] d e:=
 zab (Eq.mp (by kernel_rfl:_=Runs Tryz.prog e ({N:=23}:Cfg) Tryz.f174 (Tryz.f174.body.getD .skip) [.sc (.slc a b c)] d) h) Tryz.func174 (by kernel_rfl) (fun a w=>Tryz.call174 a w) (by kernel_rfl) (by kernel_rfl) rfl rfl
def zxl(u:ByteArray)(v w x y z:Int)(A B:ByteArray)(C:Int)(D:Option Addr)(E F:Nat)(G:Option Addr)(H I:Nat)(a:World)(J:Value->World->Prop):Prop:=
 ∀k:Nat,a.heap.size<=k->∀d,Ext a d->FnP Tryz.prog zc9 #[(.agg #[(.string u),(.int .i64 v),(.int .i64 w),(.int .i64 x),(.int .i64 y),(.int .i64 z),(.string A),(.string B),(.int .i64 C),(.slice D E F),(.slice G H I)])] d fun M N=>Ext d N/\∃c,M=(.int .i64 c)/\((c≠0)->∀b,Ext a b->J (.tuple #[(.string (⟨#[]⟩:ByteArray)),(.int .i64 c)]) b)/\((c=0)->∀b,Ext a b->FnP Tryz.prog zgY #[(.agg #[(.int .i64 w),(.int .i64 x),(.int .i64 y)])] b fun O P=>Ext b P/\∃l K,O=(.tuple #[(.string l),(.int .i64 K)])/\∀e,Ext a e->FnP Tryz.prog ziU #[(.agg #[(.int .i64 z),(.string A),(.string B),(.int .i64 C),(.slice D E F)])] e fun R S=>Ext e S/\∃m L,R=(.tuple #[(.string m),(.int .i64 L)])/\∀f,Ext a f->FnP Tryz.prog zbn #[(.int .i64 v)] f fun T U=>Ext f U/\∃n,T=(.string n)/\∀g,Ext a g->FnP Tryz.prog zjM #[(.slice G H I)] g fun V W=>Ext g W/\∃o,V=(.string o)/\∀h,zag [] [k] a h->Run Tryz.prog (.buildSlice 22 5 [(0,(.string u)),(1,(.string n)),(2,(.string l)),(3,(.string o)),(4,(.string m))]) h fun X j=>Ext h j/\∃p q r,X=(.slice p q r)/\∀i,Ext j i->FnP Tryz.prog za7 #[(.slice p q r),(.string (⟨#[32]⟩:ByteArray))] i fun Y Z=>Ext i Z/\∃s,Y=(.string s)/\∀t,Ext j t->J (.tuple #[(.string s),(.int .i64 0)]) t)
theorem zwM(a:ByteArray)(b c d e f:Int)(g i:ByteArray)(j:Int)(k:Option Addr)(l m:Nat)(n:Option Addr)(o p:Nat)(q:World)(r:Value->World->Prop)(h:zxl a b c d e f g i j k l m n o p q r):FnP Tryz.prog zdU #[(.agg #[(.string a),(.int .i64 b),(.int .i64 c),(.int .i64 d),(.int .i64 e),(.int .i64 f),(.string g),(.string i),(.int .i64 j),(.slice k l m),(.slice n o p)])] q r:=
 zab (Eq.mp (by kernel_rfl:_=Runs Tryz.prog r ({N:=38}:Cfg) Tryz.f128 (Tryz.f128.body.getD .skip) [.agg [.str a,.int .i64 b,.int .i64 c,.int .i64 d,.int .i64 e,.int .i64 f,.str g,.str i,.int .i64 j,.slc k l m,.slc n o p]] q) h) Tryz.func128 (by kernel_rfl) (fun a w=>Tryz.call128 a w) (by kernel_rfl) (by kernel_rfl) rfl rfl
def zxk(j:ByteArray)(ar:World)(h:Value->World->Prop):Prop:=
 ∀c:Nat,ar.heap.size<=c->((3000<(j.size:Int))->∀k,Ext ar k->h (.tuple #[(.agg #[(.string (⟨#[]⟩:ByteArray)),(.int .i64 0),(.int .i64 0),(.int .i64 0),(.int .i64 0),(.int .i64 0),(.string (⟨#[]⟩:ByteArray)),(.string (⟨#[]⟩:ByteArray)),(.int .i64 0),(.slice none 0 0),(.slice none 0 0)]),(.int .i64 2)]) k)/\(((j.size:Int)<=3000)->∀k,zag [] [c] ar k->FnP Tryz.prog zbc #[(.string j),(.string (⟨#[32]⟩:ByteArray))] k fun aL n=>Ext k n/\∃b e aJ,aL=(.slice b e aJ)/\(((e:Int)≠5)->∀au,zag [c] [] n au->h (.tuple #[(.agg #[(.string (⟨#[]⟩:ByteArray)),(.int .i64 0),(.int .i64 0),(.int .i64 0),(.int .i64 0),(.int .i64 0),(.string (⟨#[]⟩:ByteArray)),(.string (⟨#[]⟩:ByteArray)),(.int .i64 0),(.slice none 0 0),(.slice none 0 0)]),(.int .i64 3)]) au)/\(((e:Int)=5)->b≠none/\(0:Int)<=0/\(0:Int)<(e:Int)/\∃I,cell n (pIdx b 0 1) 0=some (.string I)/\∀a:Nat,n.heap.size<=a->b≠none/\(0:Int)<=1/\(1:Int)<(e:Int)/\∃av,cell n (pIdx b 1 1) 0=some (.string av)/\∀X,zag [] [c,a] n X->FnP Tryz.prog zcZ #[(.string av)] X fun aM E=>Ext X E/\∃J aw,aM=(.tuple #[(.int .i64 J),aw])/\b≠none/\(0:Int)<=2/\(2:Int)<(e:Int)/\∃ax,((cell E (pIdx b 2 1) 0=some (.string ax)/\zvp [a] (pIdx b 2 1)))/\∀Y,zag [a] [] E Y->FnP Tryz.prog ze5 #[(.string ax)] Y fun aN aO=>Ext Y aO/\∃K L M Z,aN=(.tuple #[(.agg #[(.int .i64 K),(.int .i64 L),(.int .i64 M)]),(.int .i64 Z)])/\b≠none/\(0:Int)<=4/\(4:Int)<(e:Int)/\∃ay,((cell E (pIdx b 4 1) 0=some (.string ay)/\zvp [a] (pIdx b 4 1)))/\∀aa,zag [a] [c,a] E aa->FnP Tryz.prog ziT #[(.string ay)] aa fun aP f=>Ext aa f/\∃N O P R S T U ab,aP=(.tuple #[(.agg #[(.int .i64 N),(.string O),(.string P),(.int .i64 R),(.slice S T U)]),(.int .i64 ab)])/\∀ac,zag [a] [] f ac->Run Tryz.prog (.eq .neq 175 false true aw .nilIface) ac fun aQ aR=>Ext ac aR/\∃ad,aQ=(.bool ad)/\((((ad=true)\/(Z≠0))\/(ab≠0))->∀az,zag [c,a] [] f az->h (.tuple #[(.agg #[(.string (⟨#[]⟩:ByteArray)),(.int .i64 0),(.int .i64 0),(.int .i64 0),(.int .i64 0),(.int .i64 0),(.string (⟨#[]⟩:ByteArray)),(.string (⟨#[]⟩:ByteArray)),(.int .i64 0),(.slice none 0 0),(.slice none 0 0)]),(.int .i64 3)]) az)/\((((ad=false)/\(Z=0))/\(ab=0))->b≠none/\(0:Int)<=3/\(3:Int)<(e:Int)/\∃ae,((cell f (pIdx b 3 1) 0=some (.string ae)/\zvp [a] (pIdx b 3 1)))/\(((ae≠(⟨#[45]⟩:ByteArray))->b≠none/\(0:Int)<=3/\(3:Int)<(e:Int)/\∃aA,((cell f (pIdx b 3 1) 0=some (.string aA)/\zvp [a] (pIdx b 3 1)))/\∀A,zag [a] [c,a] f A->FnP Tryz.prog zbc #[(.string aA),(.string (⟨#[44]⟩:ByteArray))] A fun aS aG=>Ext A aG/\∃g V aK,aS=(.slice g V aK)/\∃(aq:Int->ByteArray->Int->Int->Int->Int->Int->ByteArray->ByteArray->Int->Option Addr->Nat->Nat->Option Addr->Nat->Nat->World->Prop) (aI:Int->ByteArray->Int->Int->Int->Int->Int->ByteArray->ByteArray->Int->Option Addr->Nat->Nat->Option Addr->Nat->Nat->World->Nat),aq 0 I J K L M N O P R S T U none 0 0 aG/\∀(d:Int)(o:ByteArray)(p:Int)(q:Int)(r:Int)(s:Int)(t:Int)(u:ByteArray)(v:ByteArray)(w:Int)(x:Option Addr)(y:Nat)(z:Nat)(F:Option Addr)(G:Nat)(H:Nat)(i:World),aq d o p q r s t u v w x y z F G H i->(((d<(V:Int))->g≠none/\(0:Int)<=d/\(d:Int)<(V:Int)/\∃aB,((cell i (pIdx g d 1) 0=some (.string aB)/\zvp [a] (pIdx g d 1)))/\∀B,zag [a] [c,a] i B->FnP Tryz.prog zcZ #[(.string aB)] B fun aT W=>Ext B W/\∃l aC,aT=(.tuple #[(.int .i64 l),aC])/\∀af,Ext W af->Run Tryz.prog (.eq .neq 175 false true aC .nilIface) af fun aU aV=>Ext af aV/\∃ag,aU=(.bool ag)/\((ag=true)->∀m,zag [c] [] W m->h (.tuple #[(.agg #[(.string (⟨#[]⟩:ByteArray)),(.int .i64 0),(.int .i64 0),(.int .i64 0),(.int .i64 0),(.int .i64 0),(.string (⟨#[]⟩:ByteArray)),(.string (⟨#[]⟩:ByteArray)),(.int .i64 0),(.slice none 0 0),(.slice none 0 0)]),(.int .i64 3)]) m)/\((ag=false)->∀m,zag [] [c,a] W m->Run Tryz.prog (.buildSlice 48 1 [(0,(.int .i64 l))]) m fun aW aH=>Ext m aH/\∃aD aE aF,aW=(.slice aD aE aF)/\∀ah,zag [] [c,a] aH ah->Run Tryz.prog (.append #[48,48] 48 [(.slice F G H),(.slice aD aE aF)]) ah fun aX ap=>zcm [c,a] ah ap/\∃ai aj ak,aX=(.slice ai aj ak)/\InR .i64 (d+1)/\(aq (d+1) o p q r s t u v w x y z ai aj ak ap/\aI (d+1) o p q r s t u v w x y z ai aj ak ap<aI d o p q r s t u v w x y z F G H i))))/\(((V:Int)<=d)->∀al,zag [a] [] i al->FnP Tryz.prog zdU #[(.agg #[(.string o),(.int .i64 p),(.int .i64 q),(.int .i64 r),(.int .i64 s),(.int .i64 t),(.string u),(.string v),(.int .i64 w),(.slice x y z),(.slice F G H)])] al fun aY B=>Ext al B/\∃am l,aY=(.tuple #[(.string am),(.int .i64 l)])/\(((l≠0)\/(am≠j))->∀C,zag [c,a] [] i C->h (.tuple #[(.agg #[(.string (⟨#[]⟩:ByteArray)),(.int .i64 0),(.int .i64 0),(.int .i64 0),(.int .i64 0),(.int .i64 0),(.string (⟨#[]⟩:ByteArray)),(.string (⟨#[]⟩:ByteArray)),(.int .i64 0),(.slice none 0 0),(.slice none 0 0)]),(.int .i64 3)]) C)/\(((l=0)/\(am=j))->∀C,zag [c,a] [] i C->h (.tuple #[(.agg #[(.string o),(.int .i64 p),(.int .i64 q),(.int .i64 r),(.int .i64 s),(.int .i64 t),(.string u),(.string v),(.int .i64 w),(.slice x y z),(.slice F G H)]),(.int .i64 0)]) C))))/\((ae=(⟨#[45]⟩:ByteArray))->∀an,zag [a] [] f an->FnP Tryz.prog zdU #[(.agg #[(.string I),(.int .i64 J),(.int .i64 K),(.int .i64 L),(.int .i64 M),(.int .i64 N),(.string O),(.string P),(.int .i64 R),(.slice S T U),(.slice none 0 0)])] an fun aZ A=>Ext an A/\∃ao g,aZ=(.tuple #[(.string ao),(.int .i64 g)])/\(((g≠0)\/(ao≠j))->∀D,zag [c,a] [] f D->h (.tuple #[(.agg #[(.string (⟨#[]⟩:ByteArray)),(.int .i64 0),(.int .i64 0),(.int .i64 0),(.int .i64 0),(.int .i64 0),(.string (⟨#[]⟩:ByteArray)),(.string (⟨#[]⟩:ByteArray)),(.int .i64 0),(.slice none 0 0),(.slice none 0 0)]),(.int .i64 3)]) D)/\(((g=0)/\(ao=j))->∀D,zag [c,a] [] f D->h (.tuple #[(.agg #[(.string I),(.int .i64 J),(.int .i64 K),(.int .i64 L),(.int .i64 M),(.int .i64 N),(.string O),(.string P),(.int .i64 R),(.slice S T U),(.slice none 0 0)]),(.int .i64 0)]) D)))))
theorem zo9(a:ByteArray)(b:World)(c:Value->World->Prop)(h:zxk a b c):FnP Tryz.prog zgo #[(.string a)] b c:=
 zab (Eq.mp (by kernel_rfl:_=Runs Tryz.prog c ({N:=106}:Cfg) Tryz.f130 (Tryz.f130.body.getD .skip) [.sc (.str a)] b) h) Tryz.func130 (by kernel_rfl) (fun a w=>Tryz.call130 a w) (by kernel_rfl) (by kernel_rfl) rfl rfl
abbrev zbP:FuncId:=17
abbrev zaD:FuncId:=52
abbrev zck:FuncId:=53
abbrev zcg:FuncId:=61
abbrev zb5:FuncId:=78
abbrev ziX:FuncId:=79
abbrev zaL:FuncId:=107
abbrev zgX:FuncId:=108
abbrev zgZ:FuncId:=115
def ziR(g:Option Addr)(h i:Nat)(d:World)(j:Value->World->Prop):Prop:=
 ∀a,Ext d a->FnP Tryz.prog zaD #[(.slice g h i),(.func (.func 53) #[] #[])] a fun e f=>Ext a f/\∃b,e=(.bool b)/\∀c,Ext d c->j (.bool (!b)) c
theorem ziE(a:Option Addr)(b c:Nat)(d:World)(e:Value->World->Prop)(h:ziR a b c d e):FnP Tryz.prog zbP #[(.slice a b c)] d e:=
 zab (Eq.mp (by kernel_rfl:_=Runs Tryz.prog e ({N:=6}:Cfg) Tryz.f17 (Tryz.f17.body.getD .skip) [.sc (.slc a b c)] d) h) Tryz.func17 (by kernel_rfl) (fun a w=>Tryz.call17 a w) (by kernel_rfl) (by kernel_rfl) rfl rfl
def zhG(b:Int)(c:World)(d:Value->World->Prop):Prop:=
 ∀a,Ext c a->d (.bool (decide (b≠0))) a
theorem zhn(a:Int)(b:World)(c:Value->World->Prop)(h:zhG a b c):FnP Tryz.prog zck #[(.int .i64 a)] b c:=
 zab (Eq.mp (by kernel_rfl:_=Runs Tryz.prog c ({N:=5}:Cfg) Tryz.f53 (Tryz.f53.body.getD .skip) [.sc (.int .i64 a)] b) h) Tryz.func53 (by kernel_rfl) (fun a w=>Tryz.call53 a w) (by kernel_rfl) (by kernel_rfl) rfl rfl
def zce(g:Option Addr)(h i:Nat)(j:Value)(d:World)(k:Value->World->Prop):Prop:=
 ∀a,Ext d a->FnP Tryz.prog zaL #[(.slice g h i),j] a fun e f=>Ext a f/\∃b,e=(.int .i64 b)/\∀c,Ext d c->k (.bool (decide (0<=b))) c
theorem zcb(a:Option Addr)(b c:Nat)(d:Value)(e:World)(f:Value->World->Prop)(h:zce a b c d e f):FnP Tryz.prog zaD #[(.slice a b c),d] e f:=
 zab (Eq.mp (by kernel_rfl:_=Runs Tryz.prog f ({N:=9}:Cfg) Tryz.f52 (Tryz.f52.body.getD .skip) [.sc (.slc a b c),.sc (.val d)] e) h) Tryz.func52 (by kernel_rfl) (fun a w=>Tryz.call52 a w) (by kernel_rfl) (by kernel_rfl) rfl rfl
def zcE(k:Option Addr)(f q:Nat)(o:Value)(p:World)(l:Value->World->Prop):Prop:=
 ∃(e:Int->World->Prop) (j:Int->World->Nat),e 0 p/\∀(a:Int)(b:World),e a b->(((a<(f:Int))->k≠none/\(0:Int)<=a/\(a:Int)<(f:Int)/\∃g,cell b (pIdx k a 1) 0=some (.int .i64 g)/\∀c,Ext b c->zhV Tryz.prog o [(.int .i64 g)] c fun m n=>Ext c n/\∃d,m=(.bool d)/\((d=true)->∀h,Ext b h->l (.int .i64 a) h)/\((d=false)->InR .i64 (a+1)/\(e (a+1) b/\j (a+1) b<j a b))))/\(((f:Int)<=a)->∀i,Ext b i->l (.int .i64 (-1)) i)
theorem zcA(a:Option Addr)(b c:Nat)(d:Value)(e:World)(f:Value->World->Prop)(h:zcE a b c d e f):FnP Tryz.prog zaL #[(.slice a b c),d] e f:=
 zab (Eq.mp (by kernel_rfl:_=Runs Tryz.prog f ({N:=19}:Cfg) Tryz.f107 (Tryz.f107.body.getD .skip) [.sc (.slc a b c),.sc (.val d)] e) h) Tryz.func107 (by kernel_rfl) (fun a w=>Tryz.call107 a w) (by kernel_rfl) (by kernel_rfl) rfl rfl
def zqC(c:Option Addr)(g s:Nat)(r:World)(n:Value->World->Prop):Prop:=
 ∃(f:Int->World->Prop) (m:Int->World->Nat),f 0 r/\∀(a:Int)(b:World),f a b->(((a<(g:Int))->c≠none/\(0:Int)<=a/\(a:Int)<(g:Int)/\(pIdx c a 3)≠none/\∃h,cell b (pIdx c a 3) 0=some (.int .i64 h)/\∃i,cell b (pIdx c a 3) 1=some (.int .i64 i)/\∃j,cell b (pIdx c a 3) 2=some (.int .i64 j)/\∀o:Nat,b.heap.size<=o->∀e,Ext b e->FnP Tryz.prog zba #[(.agg #[(.int .i64 h),(.int .i64 i),(.int .i64 j)])] e fun p q=>Ext e q/\∃d,p=(.int .i64 d)/\((d≠0)->∀k,Ext b k->n (.int .i64 d) k)/\((d=0)->InR .i64 (a+1)/\(f (a+1) b/\m (a+1) b<m a b))))/\(((g:Int)<=a)->∀l,Ext b l->n (.int .i64 0) l)
theorem zqe(a:Option Addr)(b c:Nat)(d:World)(e:Value->World->Prop)(h:zqC a b c d e):FnP Tryz.prog zb5 #[(.slice a b c)] d e:=
 zab (Eq.mp (by kernel_rfl:_=Runs Tryz.prog e ({N:=18}:Cfg) Tryz.f78 (Tryz.f78.body.getD .skip) [.sc (.slc a b c)] d) h) Tryz.func78 (by kernel_rfl) (fun a w=>Tryz.call78 a w) (by kernel_rfl) (by kernel_rfl) rfl rfl
def zvm(e f g h i j:Int)(a:World)(k:Value->World->Prop):Prop:=
 ∀c:Nat,a.heap.size<=c->∀d:Nat,a.heap.size<=d->∀b,Ext a b->k (.bool (((decide (e<=h))&&(decide (f<=i)))&&(decide (g<=j)))) b
theorem zux(a b c d e f:Int)(g:World)(i:Value->World->Prop)(h:zvm a b c d e f g i):FnP Tryz.prog zgZ #[(.agg #[(.int .i64 a),(.int .i64 b),(.int .i64 c)]),(.agg #[(.int .i64 d),(.int .i64 e),(.int .i64 f)])] g i:=
 zab (Eq.mp (by kernel_rfl:_=Runs Tryz.prog i ({N:=24}:Cfg) Tryz.f115 (Tryz.f115.body.getD .skip) [.agg [.int .i64 a,.int .i64 b,.int .i64 c],.agg [.int .i64 d,.int .i64 e,.int .i64 f]] g) h) Tryz.func115 (by kernel_rfl) (fun a w=>Tryz.call115 a w) (by kernel_rfl) (by kernel_rfl) rfl rfl
def zvj(n o p q r s:Int)(f:World)(t:Value->World->Prop):Prop:=
 ∀g:Nat,f.heap.size<=g->∀h:Nat,f.heap.size<=h->∀d,zag [] [g,h] f d->Run Tryz.prog (.buildSlice 153 2 [(0,(.agg #[(.int .i64 n),(.int .i64 o),(.int .i64 p)])),(1,(.agg #[(.int .i64 q),(.int .i64 r),(.int .i64 s)]))]) d fun u b=>Ext d b/\∃i j k,u=(.slice i j k)/\∀e,Ext b e->FnP Tryz.prog zb5 #[(.slice i j k)] e fun v w=>Ext e w/\∃c,v=(.int .i64 c)/\((c≠0)->∀a,Ext b a->t (.tuple #[(.bool false),(.int .i64 c)]) a)/\((c=0)->∀a,Ext b a->FnP Tryz.prog zgZ #[(.agg #[(.int .i64 n),(.int .i64 o),(.int .i64 p)]),(.agg #[(.int .i64 q),(.int .i64 r),(.int .i64 s)])] a fun x y=>Ext a y/\∃l,x=(.bool l)/\∀m,Ext b m->t (.tuple #[(.bool l),(.int .i64 0)]) m)
theorem zuv(a b c d e f:Int)(g:World)(i:Value->World->Prop)(h:zvj a b c d e f g i):FnP Tryz.prog zgX #[(.agg #[(.int .i64 a),(.int .i64 b),(.int .i64 c)]),(.agg #[(.int .i64 d),(.int .i64 e),(.int .i64 f)])] g i:=
 zab (Eq.mp (by kernel_rfl:_=Runs Tryz.prog i ({N:=17}:Cfg) Tryz.f108 (Tryz.f108.body.getD .skip) [.agg [.int .i64 a,.int .i64 b,.int .i64 c],.agg [.int .i64 d,.int .i64 e,.int .i64 f]] g) h) Tryz.func108 (by kernel_rfl) (fun a w=>Tryz.call108 a w) (by kernel_rfl) (by kernel_rfl) rfl rfl
def zxm(e f g h i j:Int)(k:World)(p:Value->World->Prop):Prop:=
 ∀q:Nat,k.heap.size<=q->∀r:Nat,k.heap.size<=r->∀b:Nat,k.heap.size<=b->∀l,zag [] [q,r,b] k l->Run Tryz.prog (.buildSlice 153 2 [(0,(.agg #[(.int .i64 e),(.int .i64 f),(.int .i64 g)])),(1,(.agg #[(.int .i64 h),(.int .i64 i),(.int .i64 j)]))]) l fun x a=>Ext l a/\∃s t u,x=(.slice s t u)/\∀m,Ext a m->FnP Tryz.prog zb5 #[(.slice s t u)] m fun y z=>Ext m z/\∃d,y=(.int .i64 d)/\((d≠0)->∀v,zag [b] [] a v->p (.tuple #[(.agg #[(.int .i64 0),(.int .i64 0),(.int .i64 0)]),(.int .i64 d)]) v)/\((d=0)->InR .i64 (e+h)/\InR .i64 (f+i)/\InR .i64 (g+j)/\∀w:Nat,a.heap.size<=w->∀n,Ext a n->FnP Tryz.prog zba #[(.agg #[(.int .i64 (e+h)),(.int .i64 (f+i)),(.int .i64 (g+j))])] n fun A B=>Ext n B/\∃o,A=(.int .i64 o)/\((o≠0)->∀c,zag [b] [] a c->p (.tuple #[(.agg #[(.int .i64 0),(.int .i64 0),(.int .i64 0)]),(.int .i64 2)]) c)/\((o=0)->∀c,zag [b] [] a c->p (.tuple #[(.agg #[(.int .i64 (e+h)),(.int .i64 (f+i)),(.int .i64 (g+j))]),(.int .i64 0)]) c))
theorem zwN(a b c d e f:Int)(g:World)(i:Value->World->Prop)(h:zxm a b c d e f g i):FnP Tryz.prog ziX #[(.agg #[(.int .i64 a),(.int .i64 b),(.int .i64 c)]),(.agg #[(.int .i64 d),(.int .i64 e),(.int .i64 f)])] g i:=
 zab (Eq.mp (by kernel_rfl:_=Runs Tryz.prog i ({N:=37}:Cfg) Tryz.f79 (Tryz.f79.body.getD .skip) [.agg [.int .i64 a,.int .i64 b,.int .i64 c],.agg [.int .i64 d,.int .i64 e,.int .i64 f]] g) h) Tryz.func79 (by kernel_rfl) (fun a w=>Tryz.call79 a w) (by kernel_rfl) (by kernel_rfl) rfl rfl
def zxn(f g h i j k:Int)(l:World)(p:Value->World->Prop):Prop:=
 ∀q:Nat,l.heap.size<=q->∀r:Nat,l.heap.size<=r->∀c:Nat,l.heap.size<=c->∀m,zag [] [q,r,c] l m->Run Tryz.prog (.buildSlice 153 2 [(0,(.agg #[(.int .i64 f),(.int .i64 g),(.int .i64 h)])),(1,(.agg #[(.int .i64 i),(.int .i64 j),(.int .i64 k)]))]) m fun v b=>Ext m b/\∃s t u,v=(.slice s t u)/\∀n,Ext b n->FnP Tryz.prog zb5 #[(.slice s t u)] n fun w x=>Ext n x/\∃e,w=(.int .i64 e)/\((e≠0)->∀a,zag [c] [] b a->p (.tuple #[(.agg #[(.int .i64 0),(.int .i64 0),(.int .i64 0)]),(.int .i64 e)]) a)/\((e=0)->∀a,Ext b a->FnP Tryz.prog zgZ #[(.agg #[(.int .i64 i),(.int .i64 j),(.int .i64 k)]),(.agg #[(.int .i64 f),(.int .i64 g),(.int .i64 h)])] a fun y z=>Ext a z/\∃o,y=(.bool o)/\((o=false)->∀d,zag [c] [] b d->p (.tuple #[(.agg #[(.int .i64 0),(.int .i64 0),(.int .i64 0)]),(.int .i64 10)]) d)/\((o=true)->InR .i64 (f-i)/\InR .i64 (g-j)/\InR .i64 (h-k)/\∀d,zag [c] [] b d->p (.tuple #[(.agg #[(.int .i64 (f-i)),(.int .i64 (g-j)),(.int .i64 (h-k))]),(.int .i64 0)]) d))
theorem zwO(a b c d e f:Int)(g:World)(i:Value->World->Prop)(h:zxn a b c d e f g i):FnP Tryz.prog zcg #[(.agg #[(.int .i64 a),(.int .i64 b),(.int .i64 c)]),(.agg #[(.int .i64 d),(.int .i64 e),(.int .i64 f)])] g i:=
 zab (Eq.mp (by kernel_rfl:_=Runs Tryz.prog i ({N:=38}:Cfg) Tryz.f61 (Tryz.f61.body.getD .skip) [.agg [.int .i64 a,.int .i64 b,.int .i64 c],.agg [.int .i64 d,.int .i64 e,.int .i64 f]] g) h) Tryz.func61 (by kernel_rfl) (fun a w=>Tryz.call61 a w) (by kernel_rfl) (by kernel_rfl) rfl rfl
abbrev zjG:FuncId:=114
abbrev zb3:FuncId:=161
abbrev zgN:FuncId:=162
abbrev zh9:FuncId:=163
abbrev zaE:FuncId:=164
abbrev ze2:FuncId:=165
abbrev zbg:FuncId:=227
def zsO(f g h:Int)(b:ByteArray)(c:World)(d:Value->World->Prop):Prop:=
 ∀e:Nat,c.heap.size<=e->((b=(⟨#[99,112,117]⟩:ByteArray))->∀a,Ext c a->d (.int .i64 f) a)/\((b≠(⟨#[99,112,117]⟩:ByteArray))->((b=(⟨#[109,101,109]⟩:ByteArray))->∀a,Ext c a->d (.int .i64 g) a)/\((b≠(⟨#[109,101,109]⟩:ByteArray))->∀a,Ext c a->d (.int .i64 h) a))
theorem zsg(a b c:Int)(d:ByteArray)(e:World)(f:Value->World->Prop)(h:zsO a b c d e f):FnP Tryz.prog zh9 #[(.agg #[(.int .i64 a),(.int .i64 b),(.int .i64 c)]),(.string d)] e f:=
 zab (Eq.mp (by kernel_rfl:_=Runs Tryz.prog f ({N:=16}:Cfg) Tryz.f163 (Tryz.f163.body.getD .skip) [.agg [.int .i64 a,.int .i64 b,.int .i64 c],.sc (.str d)] e) h) Tryz.func163 (by kernel_rfl) (fun a w=>Tryz.call163 a w) (by kernel_rfl) (by kernel_rfl) rfl rfl
def zu9(n:Int)(J K:ByteArray)(L:Int)(b:Option Addr)(o M:Nat)(p:Value)(a:World)(q:Value->World->Prop):Prop:=
 ∀G:Nat,a.heap.size<=G->(((n=4)->b≠none/\(0:Int)<=0/\(0:Int)<(o:Int)/\(pIdx b 0 5)≠none/\∃f,cell a (pIdx b 0 5) 0=some (.int .i64 f)/\∃g,cell a (pIdx b 0 5) 1=some (.string g)/\∃d,cell a (pIdx b 0 5) 2=some (.string d)/\∃h,cell a (pIdx b 0 5) 3=some (.int .i64 h)/\∃i j k,cell a (pIdx b 0 5) 4=some (.slice i j k)/\∀e,Ext a e->FnP Tryz.prog zb3 #[(.agg #[(.int .i64 f),(.string g),(.string d),(.int .i64 h),(.slice i j k)]),p] e fun A B=>Ext e B/\∃c,A=(.bool c)/\∀l,Ext a l->q (.bool (!c)) l))/\((n≠4)->(((n=5)->b≠none/\(0:Int)<=0/\(0:Int)<(o:Int)/\(pIdx b 0 5)≠none/\∃f,cell a (pIdx b 0 5) 0=some (.int .i64 f)/\∃g,cell a (pIdx b 0 5) 1=some (.string g)/\∃d,cell a (pIdx b 0 5) 2=some (.string d)/\∃h,cell a (pIdx b 0 5) 3=some (.int .i64 h)/\∃i j k,cell a (pIdx b 0 5) 4=some (.slice i j k)/\∀e,Ext a e->FnP Tryz.prog zb3 #[(.agg #[(.int .i64 f),(.string g),(.string d),(.int .i64 h),(.slice i j k)]),p] e fun A B=>Ext e B/\∃c,A=(.bool c)/\((c=true)->b≠none)/\((c=true)->(0:Int)<=1)/\((c=true)->(1:Int)<(o:Int))/\(((c=true)->(pIdx b 1 5)≠none/\∃r,cell a (pIdx b 1 5) 0=some (.int .i64 r)/\∃s,cell a (pIdx b 1 5) 1=some (.string s)/\∃t,cell a (pIdx b 1 5) 2=some (.string t)/\∃u,cell a (pIdx b 1 5) 3=some (.int .i64 u)/\∃v w x,cell a (pIdx b 1 5) 4=some (.slice v w x)/\∀m,Ext a m->FnP Tryz.prog zb3 #[(.agg #[(.int .i64 r),(.string s),(.string t),(.int .i64 u),(.slice v w x)]),p] m fun D E=>Ext m E/\∃y,D=(.bool y)/\∀z,Ext a z->q (.bool y) z))/\((c=false)->∀l,Ext a l->q (.bool false) l)))/\((n≠5)->(((n=6)->b≠none/\(0:Int)<=0/\(0:Int)<(o:Int)/\(pIdx b 0 5)≠none/\∃f,cell a (pIdx b 0 5) 0=some (.int .i64 f)/\∃g,cell a (pIdx b 0 5) 1=some (.string g)/\∃d,cell a (pIdx b 0 5) 2=some (.string d)/\∃h,cell a (pIdx b 0 5) 3=some (.int .i64 h)/\∃i j k,cell a (pIdx b 0 5) 4=some (.slice i j k)/\∀e,Ext a e->FnP Tryz.prog zb3 #[(.agg #[(.int .i64 f),(.string g),(.string d),(.int .i64 h),(.slice i j k)]),p] e fun A B=>Ext e B/\∃c,A=(.bool c)/\((c=false)->b≠none)/\((c=false)->(0:Int)<=1)/\((c=false)->(1:Int)<(o:Int))/\((c=true)->∀l,Ext a l->q (.bool true) l)/\((c=false)->(pIdx b 1 5)≠none/\∃r,cell a (pIdx b 1 5) 0=some (.int .i64 r)/\∃s,cell a (pIdx b 1 5) 1=some (.string s)/\∃t,cell a (pIdx b 1 5) 2=some (.string t)/\∃u,cell a (pIdx b 1 5) 3=some (.int .i64 u)/\∃v w x,cell a (pIdx b 1 5) 4=some (.slice v w x)/\∀m,Ext a m->FnP Tryz.prog zb3 #[(.agg #[(.int .i64 r),(.string s),(.string t),(.int .i64 u),(.slice v w x)]),p] m fun D E=>Ext m E/\∃y,D=(.bool y)/\∀z,Ext a z->q (.bool y) z)))/\((n≠6)->∀C,Ext a C->zhV Tryz.prog p [(.agg #[(.int .i64 n),(.string J),(.string K),(.int .i64 L),(.slice b o M)])] C fun H I=>Ext C I/\∃d,H=(.bool d)/\∀F,Ext a F->q (.bool d) F)))
theorem zum(a:Int)(b c:ByteArray)(d:Int)(e:Option Addr)(f g:Nat)(i:Value)(j:World)(k:Value->World->Prop)(h:zu9 a b c d e f g i j k):FnP Tryz.prog zb3 #[(.agg #[(.int .i64 a),(.string b),(.string c),(.int .i64 d),(.slice e f g)]),i] j k:=
 zab (Eq.mp (by kernel_rfl:_=Runs Tryz.prog k ({N:=51}:Cfg) Tryz.f161 (Tryz.f161.body.getD .skip) [.agg [.int .i64 a,.str b,.str c,.int .i64 d,.slc e f g],.sc (.val i)] j) h) Tryz.func161 (by kernel_rfl) (fun a w=>Tryz.call161 a w) (by kernel_rfl) (by kernel_rfl) rfl rfl
def zu5(i:Int)(j k:ByteArray)(l:Int)(m:Option Addr)(n o:Nat)(w:ByteArray)(x:Option Addr)(y z:Nat)(A B C D E F:Int)(p:World)(q:Value->World->Prop):Prop:=
 ∀e:Nat,p.heap.size<=e->∀f,zag [] [e] p f->New f 76 [(.string w),(.slice x y z),(.int .i64 A),(.int .i64 B),(.int .i64 C),(.int .i64 D),(.int .i64 E),(.int .i64 F)] fun r c=>∀d,Ext c d->FnP Tryz.prog zdS #[(.agg #[(.int .i64 i),(.string j),(.string k),(.int .i64 l),(.slice m n o)])] d fun s t=>Ext d t/\∃b,s=(.int .i64 b)/\((b≠0)->∀a,Ext c a->q (.tuple #[(.bool false),(.int .i64 b)]) a)/\((b=0)->∀a,Ext c a->FnP Tryz.prog zb3 #[(.agg #[(.int .i64 i),(.string j),(.string k),(.int .i64 l),(.slice m n o)]),(.func (.func 162) #[] #[(.pointer r)])] a fun u v=>Ext a v/\∃g,u=(.bool g)/\∀h,Ext c h->q (.tuple #[(.bool g),(.int .i64 0)]) h)
theorem zui(a:Int)(b c:ByteArray)(d:Int)(e:Option Addr)(f g:Nat)(i:ByteArray)(j:Option Addr)(k l:Nat)(m n o p q r:Int)(s:World)(t:Value->World->Prop)(h:zu5 a b c d e f g i j k l m n o p q r s t):FnP Tryz.prog zjG #[(.agg #[(.int .i64 a),(.string b),(.string c),(.int .i64 d),(.slice e f g)]),(.agg #[(.string i),(.slice j k l),(.int .i64 m),(.int .i64 n),(.int .i64 o),(.int .i64 p),(.int .i64 q),(.int .i64 r)])] s t:=
 zab (Eq.mp (by kernel_rfl:_=Runs Tryz.prog t ({N:=15,pub:=[3]}:Cfg) Tryz.f114 (Tryz.f114.body.getD .skip) [.agg [.int .i64 a,.str b,.str c,.int .i64 d,.slc e f g],.agg [.str i,.slc j k l,.int .i64 m,.int .i64 n,.int .i64 o,.int .i64 p,.int .i64 q,.int .i64 r]] s) h) Tryz.func114 (by kernel_rfl) (fun a w=>Tryz.call114 a w) (by kernel_rfl) (by kernel_rfl) rfl rfl
def zql(w:Int)(x y:ByteArray)(z:Int)(A:Option Addr)(B C:Nat)(c:Option Addr)(D:World)(s:Value->World->Prop):Prop:=
 ∀i,Ext D i->New i 47 [(.int .i64 w),(.string x),(.string y),(.int .i64 z),(.slice A B C)] fun b a=>b≠none/\∃f,cell a (pAdd b 0) 0=some (.int .i64 f)/\(((f=3)->c≠none/\(pAdd c 2)≠none/\∃d,cell a (pAdd c 2) 0=some (.int .i64 d)/\∃j,cell a (pAdd c 2) 1=some (.int .i64 j)/\∃k,cell a (pAdd c 2) 2=some (.int .i64 k)/\b≠none/\∃l,cell a (pAdd b 1) 0=some (.string l)/\b≠none/\∃m,cell a (pAdd b 3) 0=some (.int .i64 m)/\∀g,Ext a g->FnP Tryz.prog zh9 #[(.agg #[(.int .i64 d),(.int .i64 j),(.int .i64 k)]),(.string l)] g fun t e=>Ext g e/\∃n,t=(.int .i64 n)/\∀o,Ext a o->s (.bool (decide (m<=n))) o))/\((f≠3)->c≠none/\∃d p q,cell a (pAdd c 1) 0=some (.slice d p q)/\∀h,Ext a h->FnP Tryz.prog zaE #[(.slice d p q),(.func (.func 165) #[] #[(.pointer b)])] h fun u v=>Ext h v/\∃r,u=(.bool r)/\∀e,Ext a e->s (.bool r) e)
theorem zp0(a:Int)(b c:ByteArray)(d:Int)(e:Option Addr)(f g:Nat)(i:Option Addr)(j:World)(k:Value->World->Prop)(h:zql a b c d e f g i j k):FnP Tryz.prog zgN #[(.agg #[(.int .i64 a),(.string b),(.string c),(.int .i64 d),(.slice e f g)]),(.pointer i)] j k:=
 zab (Eq.mp (by kernel_rfl:_=Runs Tryz.prog k ({N:=19,pub:=[2]}:Cfg) Tryz.f162 (Tryz.f162.body.getD .skip) [.agg [.int .i64 a,.str b,.str c,.int .i64 d,.slc e f g],.sc (.ptr i)] j) h) Tryz.func162 (by kernel_rfl) (fun a w=>Tryz.call162 a w) (by kernel_rfl) (by kernel_rfl) rfl rfl
def zns(e l:ByteArray)(b:Option Addr)(a:World)(f:Value->World->Prop):Prop:=
 ∀k:Nat,a.heap.size<=k->b≠none/\∃c,cell a (pAdd b 1) 0=some (.string c)/\((e=c)->b≠none)/\(((e=c)->∃d,cell a (pAdd b 0) 0=some (.int .i64 d)/\((d≠1)->b≠none)/\((d=1)->∀g,Ext a g->f (.bool true) g)/\((d≠1)->∃h,cell a (pAdd b 2) 0=some (.string h)/\∀i,Ext a i->f (.bool (decide (l=h))) i)))/\((e≠c)->∀j,Ext a j->f (.bool false) j)
theorem zni(a b:ByteArray)(c:Option Addr)(d:World)(e:Value->World->Prop)(h:zns a b c d e):FnP Tryz.prog ze2 #[(.agg #[(.string a),(.string b)]),(.pointer c)] d e:=
 zab (Eq.mp (by kernel_rfl:_=Runs Tryz.prog e ({N:=21}:Cfg) Tryz.f165 (Tryz.f165.body.getD .skip) [.agg [.str a,.str b],.sc (.ptr c)] d) h) Tryz.func165 (by kernel_rfl) (fun a w=>Tryz.call165 a w) (by kernel_rfl) (by kernel_rfl) rfl rfl
def zcf(g:Option Addr)(h i:Nat)(j:Value)(d:World)(k:Value->World->Prop):Prop:=
 ∀a,Ext d a->FnP Tryz.prog zbg #[(.slice g h i),j] a fun e f=>Ext a f/\∃b,e=(.int .i64 b)/\∀c,Ext d c->k (.bool (decide (0<=b))) c
theorem zcc(a:Option Addr)(b c:Nat)(d:Value)(e:World)(f:Value->World->Prop)(h:zcf a b c d e f):FnP Tryz.prog zaE #[(.slice a b c),d] e f:=
 zab (Eq.mp (by kernel_rfl:_=Runs Tryz.prog f ({N:=9}:Cfg) Tryz.f164 (Tryz.f164.body.getD .skip) [.sc (.slc a b c),.sc (.val d)] e) h) Tryz.func164 (by kernel_rfl) (fun a w=>Tryz.call164 a w) (by kernel_rfl) (by kernel_rfl) rfl rfl
def zcF(c:Option Addr)(g r:Nat)(p:Value)(q:World)(m:Value->World->Prop):Prop:=
 ∃(f:Int->World->Prop) (l:Int->World->Nat),f 0 q/\∀(a:Int)(b:World),f a b->(((a<(g:Int))->c≠none/\(0:Int)<=a/\(a:Int)<(g:Int)/\(pIdx c a 2)≠none/\∃h,cell b (pIdx c a 2) 0=some (.string h)/\∃i,cell b (pIdx c a 2) 1=some (.string i)/\∀d,Ext b d->zhV Tryz.prog p [(.agg #[(.string h),(.string i)])] d fun n o=>Ext d o/\∃e,n=(.bool e)/\((e=true)->∀j,Ext b j->m (.int .i64 a) j)/\((e=false)->InR .i64 (a+1)/\(f (a+1) b/\l (a+1) b<l a b))))/\(((g:Int)<=a)->∀k,Ext b k->m (.int .i64 (-1)) k)
theorem zcB(a:Option Addr)(b c:Nat)(d:Value)(e:World)(f:Value->World->Prop)(h:zcF a b c d e f):FnP Tryz.prog zbg #[(.slice a b c),d] e f:=
 zab (Eq.mp (by kernel_rfl:_=Runs Tryz.prog f ({N:=19}:Cfg) Tryz.f227 (Tryz.f227.body.getD .skip) [.sc (.slc a b c),.sc (.val d)] e) h) Tryz.func227 (by kernel_rfl) (fun a w=>Tryz.call227 a w) (by kernel_rfl) (by kernel_rfl) rfl rfl
abbrev zjI:FuncId:=20
abbrev zb1:FuncId:=54
abbrev zlH:FuncId:=59
abbrev zcJ:FuncId:=60
abbrev zbT:FuncId:=62
abbrev zgT:FuncId:=63
abbrev zic:FuncId:=64
abbrev zbr:FuncId:=65
abbrev zjL:FuncId:=73
abbrev zaj:FuncId:=111
abbrev zaB:FuncId:=112
abbrev zcG:FuncId:=116
abbrev zaP:FuncId:=119
abbrev zeN:FuncId:=123
abbrev zgV:FuncId:=124
abbrev zjK:FuncId:=125
abbrev zbC:FuncId:=166
abbrev zlI:FuncId:=169
abbrev zgU:FuncId:=170
def zsX(h:Option Addr)(t aq:Nat)(ae:World)(e:Value->World->Prop):Prop:=
 ((30<(t:Int))->∀l,Ext ae l->e (.int .i64 2) l)/\(((t:Int)<=30)->∀l,Ext ae l->Run Tryz.prog (.makeMap 199) l fun ag W=>Ext l W/\∃z,ag=z/\∃(N:Int->World->Prop) (Z:Int->World->Nat),N 0 W/\∀(a:Int)(b:World),N a b->(((a<(t:Int))->h≠none/\(0:Int)<=a/\(a:Int)<(t:Int)/\(pIdx h a 8)≠none/\∃u,cell b (pIdx h a 8) 0=some (.string u)/\∃q m af,cell b (pIdx h a 8) 1=some (.slice q m af)/\∃A,cell b (pIdx h a 8) 2=some (.int .i64 A)/\∃B,cell b (pIdx h a 8) 3=some (.int .i64 B)/\∃C,cell b (pIdx h a 8) 4=some (.int .i64 C)/\∃P,cell b (pIdx h a 8) 5=some (.int .i64 P)/\∃R,cell b (pIdx h a 8) 6=some (.int .i64 R)/\∃S,cell b (pIdx h a 8) 7=some (.int .i64 S)/\∀n:Nat,b.heap.size<=n->∃(aa:World->Prop),(∀k,Ext b k->FnP Tryz.prog zbh #[(.string u)] k fun X y=>Ext k y/\∃D,X=(.bool D)/\((D=false)->∀i,Ext b i->e (.int .i64 3) i)/\((D=true)->∀i,Ext b i->Run Tryz.prog (.lookup 199 z (.string u) false) i fun ah ai=>Ext i ai/\∃E,ah=(.bool E)/\((E=true)->∀r,Ext b r->e (.int .i64 6) r)/\((E=false)->((8<(m:Int))->∀r,Ext b r->e (.int .i64 2) r)/\(((m:Int)<=8)->aa  b))))/\∀  (w18:World),aa  w18->∀k,zag [] [n] w18 k->Run Tryz.prog (.mapUpdate 199 z (.string u) (.bool true)) k fun X y=>zcm [n] k y/\∀F,zag [] [n] y F->Run Tryz.prog (.makeMap 199) F fun aj i=>Ext F i/\∃G,aj=G/\∃(O:Int->World->Prop) (ab:Int->World->Nat),O 0 i/\∀(d:Int)(c:World),O d c->(((d<(m:Int))->q≠none/\(0:Int)<=d/\(d:Int)<(m:Int)/\(pIdx q d 2)≠none/\∃v,cell c (pIdx q d 2) 0=some (.string v)/\∃T,cell c (pIdx q d 2) 1=some (.string T)/\∀H:Nat,c.heap.size<=H->∃(ac:World->Prop),(∀j,Ext c j->FnP Tryz.prog zbh #[(.string v)] j fun Y s=>Ext j s/\∃I,Y=(.bool I)/\((I=false)->∀f,Ext c f->e (.int .i64 3) f)/\((I=true)->∀f,Ext c f->FnP Tryz.prog zbh #[(.string T)] f fun ak g=>Ext f g/\∃J,ak=(.bool J)/\((J=false)->∀o,Ext c o->e (.int .i64 3) o)/\((J=true)->∀o,Ext c o->Run Tryz.prog (.lookup 199 G (.string v) false) o fun al am=>Ext o am/\∃K,al=(.bool K)/\((K=true)->∀U,Ext c U->e (.int .i64 6) U)/\((K=false)->ac  c))))/\∀  (p:World),ac  p->∀j,zag [] [n,H] p j->Run Tryz.prog (.mapUpdate 199 G (.string v) (.bool true)) j fun Y s=>zcm [n,H] j s/\InR .i64 (d+1)/\(O (d+1) s/\ab (d+1) s<ab d c)))/\(((m:Int)<=d)->∀L,Ext c L->FnP Tryz.prog zgX #[(.agg #[(.int .i64 P),(.int .i64 R),(.int .i64 S)]),(.agg #[(.int .i64 A),(.int .i64 B),(.int .i64 C)])] L fun an ao=>Ext L ao/\∃M w,an=(.tuple #[(.bool M),(.int .i64 w)])/\∀p,Ext c p->FnP Tryz.prog zba #[(.agg #[(.int .i64 A),(.int .i64 B),(.int .i64 C)])] p fun ap j=>Ext p j/\∃x,ap=(.int .i64 x)/\∃(ad:World->Prop),(((x≠0)->∀g,Ext c g->e (.int .i64 x) g)/\((x=0)->((w≠0)->∀g,Ext c g->e (.int .i64 w) g)/\((w=0)->((M=false)->∀g,Ext c g->e (.int .i64 10) g)/\((M=true)->ad  c))))/\∀  (f:World),ad  f->InR .i64 (a+1)/\(N (a+1) f/\Z (a+1) f<Z a b))))/\(((t:Int)<=a)->∀V,Ext b V->e (.int .i64 0) V))
theorem zla(a:Option Addr)(b c:Nat)(d:World)(e:Value->World->Prop)(h:zsX a b c d e):FnP Tryz.prog zb1 #[(.slice a b c)] d e:=
 zab (Eq.mp (by kernel_rfl:_=Runs Tryz.prog e ({N:=91,joins:=[(2,[]),(5,[]),(6,[])]}:Cfg) Tryz.f54 (Tryz.f54.body.getD .skip) [.sc (.slc a b c)] d) h) Tryz.func54 (by kernel_rfl) (fun a w=>Tryz.call54 a w) (by kernel_rfl) (by kernel_rfl) rfl rfl
def zxj(v:Option Addr)(w x:Nat)(y:World)(z:Value->World->Prop):Prop:=
 ∀e,Ext y e->FnP Tryz.prog zaj #[(.slice v w x)] e fun t p=>Ext e p/\∃b c h,t=(.slice b c h)/\∃(g:Int->World->Prop) (s:Int->World->Nat),g 0 p/\∀(a:Int)(d:World),g a d->(((a<(c:Int))->b≠none/\(0:Int)<=a/\(a:Int)<(c:Int)/\(pIdx b a 8)≠none/\∃i j k,cell d (pAdd (pIdx b a 8) 1) 0=some (.slice i j k)/\∀f,Ext d f->FnP Tryz.prog zaB #[(.slice i j k)] f fun u q=>Ext f q/\∃l m n,u=(.slice l m n)/\b≠none/\(0:Int)<=a/\(a:Int)<(c:Int)/\(pIdx b a 8)≠none/\zan q (pAdd (pIdx b a 8) 1) [(.slice l m n)] [] fun r=>InR .i64 (a+1)/\(g (a+1) r/\s (a+1) r<s a d)))/\(((c:Int)<=a)->∀o,Ext d o->z (.slice b c h) o)
theorem zwL(a:Option Addr)(b c:Nat)(d:World)(e:Value->World->Prop)(h:zxj a b c d e):FnP Tryz.prog zlI #[(.slice a b c)] d e:=
 zab (Eq.mp (by kernel_rfl:_=Runs Tryz.prog e ({N:=23}:Cfg) Tryz.f169 (Tryz.f169.body.getD .skip) [.sc (.slc a b c)] d) h) Tryz.func169 (by kernel_rfl) (fun a w=>Tryz.call169 a w) (by kernel_rfl) (by kernel_rfl) rfl rfl
def zqA(c:Option Addr)(g E:Nat)(a:Int)(L:Value)(b:World)(j:Value->World->Prop):Prop:=
 ∀k,Ext b k->FnP Tryz.prog zb1 #[(.slice c g E)] k fun F G=>Ext k G/\∃h,F=(.int .i64 h)/\((h≠0)->∀e,Ext b e->j (.tuple #[(.slice none 0 0),(.int .i64 h)]) e)/\((h=0)->(((a<0)\/((g:Int)<=a))->∀e,Ext b e->j (.tuple #[(.slice none 0 0),(.int .i64 5)]) e)/\(((0<=a)/\(a<(g:Int)))->c≠none/\(0:Int)<=a/\(a:Int)<(g:Int)/\(pIdx c a 8)≠none/\∃o,cell b (pIdx c a 8) 0=some (.string o)/\∃p q r,cell b (pIdx c a 8) 1=some (.slice p q r)/\∃s,cell b (pIdx c a 8) 2=some (.int .i64 s)/\∃t,cell b (pIdx c a 8) 3=some (.int .i64 t)/\∃u,cell b (pIdx c a 8) 4=some (.int .i64 u)/\∃v,cell b (pIdx c a 8) 5=some (.int .i64 v)/\∃w,cell b (pIdx c a 8) 6=some (.int .i64 w)/\∃x,cell b (pIdx c a 8) 7=some (.int .i64 x)/\∀l,Ext b l->zhV Tryz.prog L [(.agg #[(.string o),(.slice p q r),(.int .i64 s),(.int .i64 t),(.int .i64 u),(.int .i64 v),(.int .i64 w),(.int .i64 x)])] l fun H I=>Ext l I/\∃y z A i,H=(.tuple #[(.agg #[(.int .i64 y),(.int .i64 z),(.int .i64 A)]),(.int .i64 i)])/\∀m:Nat,b.heap.size<=m->((i≠0)->∀d,Ext b d->j (.tuple #[(.slice none 0 0),(.int .i64 i)]) d)/\((i=0)->∀d,zag [] [m] b d->FnP Tryz.prog zlI #[(.slice c g E)] d fun J D=>Ext d D/\∃f n B,J=(.slice f n B)/\f≠none/\(0:Int)<=a/\(a:Int)<(n:Int)/\(pIdx f a 8)≠none/\zan D (pAdd (pIdx f a 8) 5) [(.int .i64 y),(.int .i64 z),(.int .i64 A)] [m] fun K=>∀C,Ext K C->j (.tuple #[(.slice f n B),(.int .i64 0)]) C)))
theorem zqb(a:Option Addr)(b c:Nat)(d:Int)(e:Value)(f:World)(g:Value->World->Prop)(h:zqA a b c d e f g):FnP Tryz.prog zeN #[(.slice a b c),(.int .i64 d),e] f g:=
 zab (Eq.mp (by kernel_rfl:_=Runs Tryz.prog g ({N:=44}:Cfg) Tryz.f123 (Tryz.f123.body.getD .skip) [.sc (.slc a b c),.sc (.int .i64 d),.sc (.val e)] f) h) Tryz.func123 (by kernel_rfl) (fun a w=>Tryz.call123 a w) (by kernel_rfl) (by kernel_rfl) rfl rfl
def zvg(l:Option Addr)(m n:Nat)(o p q r:Int)(s:World)(t:Value->World->Prop):Prop:=
 ∀b,Ext s b->New b 44 [(.int .i64 p),(.int .i64 q),(.int .i64 r)] fun i j=>∀a,Ext j a->FnP Tryz.prog zeN #[(.slice l m n),(.int .i64 o),(.func (.func 124) #[] #[(.pointer i)])] a fun k h=>Ext a h/\∃c d e f,k=(.tuple #[(.slice c d e),(.int .i64 f)])/\∀g,Ext h g->t (.tuple #[(.slice c d e),(.int .i64 f)]) g
theorem zut(a:Option Addr)(b c:Nat)(d e f g:Int)(i:World)(j:Value->World->Prop)(h:zvg a b c d e f g i j):FnP Tryz.prog zjL #[(.slice a b c),(.int .i64 d),(.agg #[(.int .i64 e),(.int .i64 f),(.int .i64 g)])] i j:=
 zab (Eq.mp (by kernel_rfl:_=Runs Tryz.prog j ({N:=14,pub:=[5]}:Cfg) Tryz.f73 (Tryz.f73.body.getD .skip) [.sc (.slc a b c),.sc (.int .i64 d),.agg [.int .i64 e,.int .i64 f,.int .i64 g]] i) h) Tryz.func73 (by kernel_rfl) (fun a w=>Tryz.call73 a w) (by kernel_rfl) (by kernel_rfl) rfl rfl
def zqz(R:ByteArray)(S:Option Addr)(T U:Nat)(N O P v w x:Int)(b:Option Addr)(a:World)(y:Value->World->Prop):Prop:=
 ∀z:Nat,a.heap.size<=z->∀A:Nat,a.heap.size<=A->∀d,Ext a d->FnP Tryz.prog zcg #[(.agg #[(.int .i64 N),(.int .i64 O),(.int .i64 P)]),(.agg #[(.int .i64 v),(.int .i64 w),(.int .i64 x)])] d fun H I=>Ext d I/\∃g h i B,H=(.tuple #[(.agg #[(.int .i64 g),(.int .i64 h),(.int .i64 i)]),(.int .i64 B)])/\∀C:Nat,a.heap.size<=C->b≠none/\∃j,cell a b 0=some (.int .i64 j)/\∃k,cell a b 1=some (.int .i64 k)/\∃l,cell a b 2=some (.int .i64 l)/\∀e,Ext a e->FnP Tryz.prog zcg #[(.agg #[(.int .i64 g),(.int .i64 h),(.int .i64 i)]),(.agg #[(.int .i64 j),(.int .i64 k),(.int .i64 l)])] e fun J K=>Ext e K/\∃D E F c,J=(.tuple #[(.agg #[(.int .i64 D),(.int .i64 E),(.int .i64 F)]),(.int .i64 c)])/\∀G:Nat,a.heap.size<=G->((c≠0)->∀m,Ext a m->y (.tuple #[(.agg #[(.int .i64 0),(.int .i64 0),(.int .i64 0)]),(.int .i64 c)]) m)/\((c=0)->b≠none/\∃n,cell a b 0=some (.int .i64 n)/\∃o,cell a b 1=some (.int .i64 o)/\∃p,cell a b 2=some (.int .i64 p)/\∀f,Ext a f->FnP Tryz.prog ziX #[(.agg #[(.int .i64 v),(.int .i64 w),(.int .i64 x)]),(.agg #[(.int .i64 n),(.int .i64 o),(.int .i64 p)])] f fun L M=>Ext f M/\∃q r s t,L=(.tuple #[(.agg #[(.int .i64 q),(.int .i64 r),(.int .i64 s)]),(.int .i64 t)])/\∀u,Ext a u->y (.tuple #[(.agg #[(.int .i64 q),(.int .i64 r),(.int .i64 s)]),(.int .i64 t)]) u)
theorem zqa(a:ByteArray)(b:Option Addr)(c d:Nat)(e f g i j k:Int)(l:Option Addr)(m:World)(n:Value->World->Prop)(h:zqz a b c d e f g i j k l m n):FnP Tryz.prog zgV #[(.agg #[(.string a),(.slice b c d),(.int .i64 e),(.int .i64 f),(.int .i64 g),(.int .i64 i),(.int .i64 j),(.int .i64 k)]),(.pointer l)] m n:=
 zab (Eq.mp (by kernel_rfl:_=Runs Tryz.prog n ({N:=33}:Cfg) Tryz.f124 (Tryz.f124.body.getD .skip) [.agg [.str a,.slc b c d,.int .i64 e,.int .i64 f,.int .i64 g,.int .i64 i,.int .i64 j,.int .i64 k],.sc (.ptr l)] m) h) Tryz.func124 (by kernel_rfl) (fun a w=>Tryz.call124 a w) (by kernel_rfl) (by kernel_rfl) rfl rfl
def zvf(l:Option Addr)(m n:Nat)(o p q r:Int)(s:World)(t:Value->World->Prop):Prop:=
 ∀b,Ext s b->New b 44 [(.int .i64 p),(.int .i64 q),(.int .i64 r)] fun i j=>∀a,Ext j a->FnP Tryz.prog zeN #[(.slice l m n),(.int .i64 o),(.func (.func 170) #[] #[(.pointer i)])] a fun k h=>Ext a h/\∃c d e f,k=(.tuple #[(.slice c d e),(.int .i64 f)])/\∀g,Ext h g->t (.tuple #[(.slice c d e),(.int .i64 f)]) g
theorem zus(a:Option Addr)(b c:Nat)(d e f g:Int)(i:World)(j:Value->World->Prop)(h:zvf a b c d e f g i j):FnP Tryz.prog zjK #[(.slice a b c),(.int .i64 d),(.agg #[(.int .i64 e),(.int .i64 f),(.int .i64 g)])] i j:=
 zab (Eq.mp (by kernel_rfl:_=Runs Tryz.prog j ({N:=14,pub:=[5]}:Cfg) Tryz.f125 (Tryz.f125.body.getD .skip) [.sc (.slc a b c),.sc (.int .i64 d),.agg [.int .i64 e,.int .i64 f,.int .i64 g]] i) h) Tryz.func125 (by kernel_rfl) (fun a w=>Tryz.call125 a w) (by kernel_rfl) (by kernel_rfl) rfl rfl
def zqy(t:ByteArray)(u:Option Addr)(v w:Nat)(x y z p q r:Int)(b:Option Addr)(a:World)(s:Value->World->Prop):Prop:=
 ∀l:Nat,a.heap.size<=l->∀m:Nat,a.heap.size<=m->b≠none/\∃d,cell a b 0=some (.int .i64 d)/\∃e,cell a b 1=some (.int .i64 e)/\∃f,cell a b 2=some (.int .i64 f)/\∀c,Ext a c->FnP Tryz.prog zcg #[(.agg #[(.int .i64 p),(.int .i64 q),(.int .i64 r)]),(.agg #[(.int .i64 d),(.int .i64 e),(.int .i64 f)])] c fun n o=>Ext c o/\∃g h i j,n=(.tuple #[(.agg #[(.int .i64 g),(.int .i64 h),(.int .i64 i)]),(.int .i64 j)])/\∀k,Ext a k->s (.tuple #[(.agg #[(.int .i64 g),(.int .i64 h),(.int .i64 i)]),(.int .i64 j)]) k
theorem zp9(a:ByteArray)(b:Option Addr)(c d:Nat)(e f g i j k:Int)(l:Option Addr)(m:World)(n:Value->World->Prop)(h:zqy a b c d e f g i j k l m n):FnP Tryz.prog zgU #[(.agg #[(.string a),(.slice b c d),(.int .i64 e),(.int .i64 f),(.int .i64 g),(.int .i64 i),(.int .i64 j),(.int .i64 k)]),(.pointer l)] m n:=
 zab (Eq.mp (by kernel_rfl:_=Runs Tryz.prog n ({N:=11}:Cfg) Tryz.f170 (Tryz.f170.body.getD .skip) [.agg [.str a,.slc b c d,.int .i64 e,.int .i64 f,.int .i64 g,.int .i64 i,.int .i64 j,.int .i64 k],.sc (.ptr l)] m) h) Tryz.func170 (by kernel_rfl) (fun a w=>Tryz.call170 a w) (by kernel_rfl) (by kernel_rfl) rfl rfl
def zxi(c:Option Addr)(s aD:Nat)(aa:Int)(ab ac:ByteArray)(ad:Int)(ae:Option Addr)(af ag:Nat)(ah ai aj:Int)(d:World)(t:Value->World->Prop):Prop:=
 ∀j:Nat,d.heap.size<=j->∀k:Nat,d.heap.size<=k->∀u,Ext d u->FnP Tryz.prog zb1 #[(.slice c s aD)] u fun an ao=>Ext u ao/\∃l,an=(.int .i64 l)/\((l≠0)->∀h,Ext d h->t (.tuple #[(.slice none 0 0),(.int .i64 l)]) h)/\((l=0)->∀h,Ext d h->FnP Tryz.prog zdS #[(.agg #[(.int .i64 aa),(.string ab),(.string ac),(.int .i64 ad),(.slice ae af ag)])] h fun ap aq=>Ext h aq/\∃m,ap=(.int .i64 m)/\((m≠0)->∀i,Ext d i->t (.tuple #[(.slice none 0 0),(.int .i64 m)]) i)/\((m=0)->∀i,Ext d i->FnP Tryz.prog zba #[(.agg #[(.int .i64 ah),(.int .i64 ai),(.int .i64 aj)])] i fun ar au=>Ext i au/\∃n,ar=(.int .i64 n)/\((n≠0)->∀M,Ext d M->t (.tuple #[(.slice none 0 0),(.int .i64 n)]) M)/\((n=0)->∃(q:Option Addr->Nat->Nat->Int->World->Prop) (r:Option Addr->Nat->Nat->Int->World->Nat),q none 0 0 0 d/\∀(e:Option Addr)(f:Nat)(g:Nat)(a:Int)(b:World),q e f g a b->(((a<(s:Int))->c≠none/\(0:Int)<=a/\(a:Int)<(s:Int)/\(pIdx c a 8)≠none/\∃N,cell b (pIdx c a 8) 0=some (.string N)/\∃O P R,cell b (pIdx c a 8) 1=some (.slice O P R)/\∃v,cell b (pIdx c a 8) 2=some (.int .i64 v)/\∃w,cell b (pIdx c a 8) 3=some (.int .i64 w)/\∃x,cell b (pIdx c a 8) 4=some (.int .i64 x)/\∃y,cell b (pIdx c a 8) 5=some (.int .i64 y)/\∃z,cell b (pIdx c a 8) 6=some (.int .i64 z)/\∃A,cell b (pIdx c a 8) 7=some (.int .i64 A)/\∀o:Nat,b.heap.size<=o->∀B,Ext b B->FnP Tryz.prog zcg #[(.agg #[(.int .i64 v),(.int .i64 w),(.int .i64 x)]),(.agg #[(.int .i64 y),(.int .i64 z),(.int .i64 A)])] B fun av aw=>Ext B aw/\∃S T U ak,av=(.tuple #[(.agg #[(.int .i64 S),(.int .i64 T),(.int .i64 U)]),(.int .i64 ak)])/\∀p:Nat,b.heap.size<=p->∀C,Ext b C->FnP Tryz.prog zjG #[(.agg #[(.int .i64 aa),(.string ab),(.string ac),(.int .i64 ad),(.slice ae af ag)]),(.agg #[(.string N),(.slice O P R),(.int .i64 v),(.int .i64 w),(.int .i64 x),(.int .i64 y),(.int .i64 z),(.int .i64 A)])] C fun ax ay=>Ext C ay/\∃D al,ax=(.tuple #[(.bool D),(.int .i64 al)])/\∀E,Ext b E->FnP Tryz.prog zgX #[(.agg #[(.int .i64 ah),(.int .i64 ai),(.int .i64 aj)]),(.agg #[(.int .i64 S),(.int .i64 T),(.int .i64 U)])] E fun az aA=>Ext E aA/\∃F am,az=(.tuple #[(.bool F),(.int .i64 am)])/\((((D=true)/\(F=true))->∀G,zag [] [j,k,o,p] b G->Run Tryz.prog (.buildSlice 48 1 [(0,(.int .i64 a))]) G fun aB Z=>Ext G Z/\∃V W X,aB=(.slice V W X)/\∀H,zag [] [j,k,o,p] Z H->Run Tryz.prog (.append #[48,48] 48 [(.slice e f g),(.slice V W X)]) H fun aC L=>zcm [j,k,o,p] H L/\∃I J K,aC=(.slice I J K)/\InR .i64 (a+1)/\(q I J K (a+1) L/\r I J K (a+1) L<r e f g a b)))/\(((D=false)\/(F=false))->InR .i64 (a+1)/\(q e f g (a+1) b/\r e f g (a+1) b<r e f g a b))))/\(((s:Int)<=a)->∀Y,Ext b Y->t (.tuple #[(.slice e f g),(.int .i64 0)]) Y))))
theorem zwK(a:Option Addr)(b c:Nat)(d:Int)(e f:ByteArray)(g:Int)(i:Option Addr)(j k:Nat)(l m n:Int)(o:World)(p:Value->World->Prop)(h:zxi a b c d e f g i j k l m n o p):FnP Tryz.prog zlH #[(.slice a b c),(.agg #[(.int .i64 d),(.string e),(.string f),(.int .i64 g),(.slice i j k)]),(.agg #[(.int .i64 l),(.int .i64 m),(.int .i64 n)])] o p:=
 zab (Eq.mp (by kernel_rfl:_=Runs Tryz.prog p ({N:=72}:Cfg) Tryz.f59 (Tryz.f59.body.getD .skip) [.sc (.slc a b c),.agg [.int .i64 d,.str e,.str f,.int .i64 g,.slc i j k],.agg [.int .i64 l,.int .i64 m,.int .i64 n]] o) h) Tryz.func59 (by kernel_rfl) (fun a w=>Tryz.call59 a w) (by kernel_rfl) (by kernel_rfl) rfl rfl
def zvd(z:Option Addr)(A B:Nat)(C:Int)(D E:ByteArray)(F:Int)(G:Option Addr)(H I:Nat)(J K L:Int)(M:World)(j:Value->World->Prop):Prop:=
 ∀k,Ext M k->New k 34 [(.slice z A B)] fun s f=>∀b:Nat,f.heap.size<=b->∀c:Nat,f.heap.size<=c->∃l m n,cell f s 0=some (.slice l m n)/\∀h,zag [] [b,c] f h->FnP Tryz.prog zlH #[(.slice l m n),(.agg #[(.int .i64 C),(.string D),(.string E),(.int .i64 F),(.slice G H I)]),(.agg #[(.int .i64 J),(.int .i64 K),(.int .i64 L)])] h fun v g=>Ext h g/\∃o d p e,v=(.tuple #[(.slice o d p),(.int .i64 e)])/\((e≠0)->∀a,Ext g a->j (.tuple #[(.int .i64 0),(.int .i64 e)]) a)/\((e=0)->(((d:Int)=0)->∀a,Ext g a->j (.tuple #[(.int .i64 0),(.int .i64 5)]) a)/\(((d:Int)≠0)->∀a,zag [] [b,c] g a->New a 131 [.nilFunc] fun t w=>zan w t [(.func (.func 60) #[] #[(.pointer s)])] [b,c] fun u=>∀i,Ext u i->FnP Tryz.prog zbT #[(.slice o d p),(.func (.func 63) #[] #[(.pointer t)])] i fun x y=>Ext i y/\∃q,x=(.int .i64 q)/\∀r,Ext u r->j (.tuple #[(.int .i64 q),(.int .i64 0)]) r))
theorem zuq(a:Option Addr)(b c:Nat)(d:Int)(e f:ByteArray)(g:Int)(i:Option Addr)(j k:Nat)(l m n:Int)(o:World)(p:Value->World->Prop)(h:zvd a b c d e f g i j k l m n o p):FnP Tryz.prog zjI #[(.slice a b c),(.agg #[(.int .i64 d),(.string e),(.string f),(.int .i64 g),(.slice i j k)]),(.agg #[(.int .i64 l),(.int .i64 m),(.int .i64 n)])] o p:=
 zab (Eq.mp (by kernel_rfl:_=Runs Tryz.prog p ({N:=30,pub:=[3,10]}:Cfg) Tryz.f20 (Tryz.f20.body.getD .skip) [.sc (.slc a b c),.agg [.int .i64 d,.str e,.str f,.int .i64 g,.slc i j k],.agg [.int .i64 l,.int .i64 m,.int .i64 n]] o) h) Tryz.func20 (by kernel_rfl) (fun a w=>Tryz.call20 a w) (by kernel_rfl) (by kernel_rfl) rfl rfl
def zqw(a:Int)(I:Option Addr)(b:World)(R:Value->World->Prop):Prop:=
 ∀e:Nat,b.heap.size<=e->∃(r:Option Addr->Int->World->Prop),(∃c s J,cell b I 0=some (.slice c s J)/\c≠none/\(0:Int)<=a/\(a:Int)<(s:Int)/\(pIdx c a 8)≠none/\(pAdd (pIdx c a 8) 2)≠none/\∃j,cell b (pAdd (pIdx c a 8) 2) 0=some (.int .i64 j)/\∃k,cell b (pAdd (pIdx c a 8) 2) 1=some (.int .i64 k)/\∃l,cell b (pAdd (pIdx c a 8) 2) 2=some (.int .i64 l)/\∃d t K,cell b I 0=some (.slice d t K)/\d≠none/\(0:Int)<=a/\(a:Int)<(t:Int)/\(pIdx d a 8)≠none/\(pAdd (pIdx d a 8) 5)≠none/\∃m,cell b (pAdd (pIdx d a 8) 5) 0=some (.int .i64 m)/\∃n,cell b (pAdd (pIdx d a 8) 5) 1=some (.int .i64 n)/\∃o,cell b (pAdd (pIdx d a 8) 5) 2=some (.int .i64 o)/\(∀f,Ext b f->FnP Tryz.prog zcg #[(.agg #[(.int .i64 j),(.int .i64 k),(.int .i64 l)]),(.agg #[(.int .i64 m),(.int .i64 n),(.int .i64 o)])] f fun L i=>Ext f i/\∃u v w x,L=(.tuple #[(.agg #[(.int .i64 u),(.int .i64 v),(.int .i64 w)]),(.int .i64 x)])/\∀y,zag [] [e] b y->New y 44 [(.int .i64 0),(.int .i64 0),(.int .i64 0)] fun G M=>zan M G [(.int .i64 u),(.int .i64 v),(.int .i64 w)] [e] fun q=>r G x q)/\∀f,zag [] [e] b f->New f 44 [(.int .i64 0),(.int .i64 0),(.int .i64 0)] fun H i=>∀p,Ext i p->FnP Tryz.prog zcg #[(.agg #[(.int .i64 j),(.int .i64 k),(.int .i64 l)]),(.agg #[(.int .i64 m),(.int .i64 n),(.int .i64 o)])] p fun N O=>Ext p O/\∃z A B C,N=(.tuple #[(.agg #[(.int .i64 z),(.int .i64 A),(.int .i64 B)]),(.int .i64 C)])/\zan i H [(.int .i64 z),(.int .i64 A),(.int .i64 B)] [e] fun q=>r H C q)/\∀(g:Option Addr)(P:Int)(h:World),r g P h->g≠none/\∃c,cell h g 0=some (.int .i64 c)/\∃D,cell h g 1=some (.int .i64 D)/\∃E,cell h g 2=some (.int .i64 E)/\∀F,zag [e] [] h F->R (.agg #[(.int .i64 c),(.int .i64 D),(.int .i64 E)]) F
theorem zp7(a:Int)(b:Option Addr)(c:World)(d:Value->World->Prop)(h:zqw a b c d):FnP Tryz.prog zcJ #[(.int .i64 a),(.pointer b)] c d:=
 zab (Eq.mp (by kernel_rfl:_=Runs Tryz.prog d ({N:=21,pub:=[4]}:Cfg) Tryz.f60 (Tryz.f60.body.getD .skip) [.sc (.int .i64 a),.sc (.ptr b)] c) h) Tryz.func60 (by kernel_rfl) (fun a w=>Tryz.call60 a w) (by kernel_rfl) (by kernel_rfl) rfl rfl
def zqx(X A:Int)(ap:Option Addr)(B:World)(ay:Value->World->Prop):Prop:=
 ∃(r:Option Addr->Option Addr->World->Prop),(∃C,cell B ap 0=some C/\∃l,cell B ap 0=some l/\(∀D,Ext B D->zhV Tryz.prog C [(.int .i64 X)] D fun aq p=>Ext D p/\∃H I J,aq=(.agg #[(.int .i64 H),(.int .i64 I),(.int .i64 J)])/\(∀m,Ext B m->zhV Tryz.prog l [(.int .i64 A)] m fun ar E=>Ext m E/\∃Y Z aa,ar=(.agg #[(.int .i64 Y),(.int .i64 Z),(.int .i64 aa)])/\(∀e,Ext B e->New e 44 [(.int .i64 0),(.int .i64 0),(.int .i64 0)] fun T U=>∀g,Ext U g->New g 44 [(.int .i64 0),(.int .i64 0),(.int .i64 0)] fun k n=>zan n T [(.int .i64 H),(.int .i64 I),(.int .i64 J)] [] fun b=>zan b k [(.int .i64 Y),(.int .i64 Z),(.int .i64 aa)] [] fun d=>r T k d)/\∀e,Ext B e->New e 44 [(.int .i64 0),(.int .i64 0),(.int .i64 0)] fun T U=>∀g,Ext U g->New g 44 [(.int .i64 0),(.int .i64 0),(.int .i64 0)] fun k n=>zan n k [(.int .i64 H),(.int .i64 I),(.int .i64 J)] [] fun b=>zan b T [(.int .i64 Y),(.int .i64 Z),(.int .i64 aa)] [] fun d=>r k T d)/\(∀m,Ext B m->New m 44 [(.int .i64 0),(.int .i64 0),(.int .i64 0)] fun F E=>(∀a,Ext E a->zhV Tryz.prog l [(.int .i64 A)] a fun G f=>Ext a f/\∃s t u,G=(.agg #[(.int .i64 s),(.int .i64 t),(.int .i64 u)])/\∀g,Ext E g->New g 44 [(.int .i64 0),(.int .i64 0),(.int .i64 0)] fun k n=>zan n F [(.int .i64 H),(.int .i64 I),(.int .i64 J)] [] fun b=>zan b k [(.int .i64 s),(.int .i64 t),(.int .i64 u)] [] fun d=>r F k d)/\∀a,Ext E a->New a 44 [(.int .i64 0),(.int .i64 0),(.int .i64 0)] fun w f=>∀c,Ext f c->zhV Tryz.prog l [(.int .i64 A)] c fun x e=>Ext c e/\∃h i j,x=(.agg #[(.int .i64 h),(.int .i64 i),(.int .i64 j)])/\zan f F [(.int .i64 H),(.int .i64 I),(.int .i64 J)] [] fun b=>zan b w [(.int .i64 h),(.int .i64 i),(.int .i64 j)] [] fun d=>r F w d)/\∀m,Ext B m->New m 44 [(.int .i64 0),(.int .i64 0),(.int .i64 0)] fun F E=>(∀a,Ext E a->zhV Tryz.prog l [(.int .i64 A)] a fun G f=>Ext a f/\∃s t u,G=(.agg #[(.int .i64 s),(.int .i64 t),(.int .i64 u)])/\∀g,Ext E g->New g 44 [(.int .i64 0),(.int .i64 0),(.int .i64 0)] fun k n=>zan n k [(.int .i64 H),(.int .i64 I),(.int .i64 J)] [] fun b=>zan b F [(.int .i64 s),(.int .i64 t),(.int .i64 u)] [] fun d=>r k F d)/\∀a,Ext E a->New a 44 [(.int .i64 0),(.int .i64 0),(.int .i64 0)] fun w f=>∀c,Ext f c->zhV Tryz.prog l [(.int .i64 A)] c fun x e=>Ext c e/\∃h i j,x=(.agg #[(.int .i64 h),(.int .i64 i),(.int .i64 j)])/\zan f w [(.int .i64 H),(.int .i64 I),(.int .i64 J)] [] fun b=>zan b F [(.int .i64 h),(.int .i64 i),(.int .i64 j)] [] fun d=>r w F d)/\(∀D,Ext B D->New D 44 [(.int .i64 0),(.int .i64 0),(.int .i64 0)] fun q p=>(∀o,Ext p o->zhV Tryz.prog C [(.int .i64 X)] o fun ac y=>Ext o y/\∃K L M,ac=(.agg #[(.int .i64 K),(.int .i64 L),(.int .i64 M)])/\(∀a,Ext p a->zhV Tryz.prog l [(.int .i64 A)] a fun G f=>Ext a f/\∃s t u,G=(.agg #[(.int .i64 s),(.int .i64 t),(.int .i64 u)])/\∀g,Ext p g->New g 44 [(.int .i64 0),(.int .i64 0),(.int .i64 0)] fun k n=>zan n q [(.int .i64 K),(.int .i64 L),(.int .i64 M)] [] fun b=>zan b k [(.int .i64 s),(.int .i64 t),(.int .i64 u)] [] fun d=>r q k d)/\∀a,Ext p a->New a 44 [(.int .i64 0),(.int .i64 0),(.int .i64 0)] fun w f=>∀c,Ext f c->zhV Tryz.prog l [(.int .i64 A)] c fun x e=>Ext c e/\∃h i j,x=(.agg #[(.int .i64 h),(.int .i64 i),(.int .i64 j)])/\zan f q [(.int .i64 K),(.int .i64 L),(.int .i64 M)] [] fun b=>zan b w [(.int .i64 h),(.int .i64 i),(.int .i64 j)] [] fun d=>r q w d)/\∀o,Ext p o->New o 44 [(.int .i64 0),(.int .i64 0),(.int .i64 0)] fun V y=>∀v,Ext y v->zhV Tryz.prog C [(.int .i64 X)] v fun W m=>Ext v m/\∃P R S,W=(.agg #[(.int .i64 P),(.int .i64 R),(.int .i64 S)])/\∀c,Ext y c->zhV Tryz.prog l [(.int .i64 A)] c fun x e=>Ext c e/\∃h i j,x=(.agg #[(.int .i64 h),(.int .i64 i),(.int .i64 j)])/\zan y q [(.int .i64 P),(.int .i64 R),(.int .i64 S)] [] fun b=>zan b V [(.int .i64 h),(.int .i64 i),(.int .i64 j)] [] fun d=>r q V d)/\∀D,Ext B D->New D 44 [(.int .i64 0),(.int .i64 0),(.int .i64 0)] fun q p=>(∀o,Ext p o->zhV Tryz.prog C [(.int .i64 X)] o fun ac y=>Ext o y/\∃K L M,ac=(.agg #[(.int .i64 K),(.int .i64 L),(.int .i64 M)])/\(∀a,Ext p a->zhV Tryz.prog l [(.int .i64 A)] a fun G f=>Ext a f/\∃s t u,G=(.agg #[(.int .i64 s),(.int .i64 t),(.int .i64 u)])/\∀g,Ext p g->New g 44 [(.int .i64 0),(.int .i64 0),(.int .i64 0)] fun k n=>zan n k [(.int .i64 K),(.int .i64 L),(.int .i64 M)] [] fun b=>zan b q [(.int .i64 s),(.int .i64 t),(.int .i64 u)] [] fun d=>r k q d)/\∀a,Ext p a->New a 44 [(.int .i64 0),(.int .i64 0),(.int .i64 0)] fun w f=>∀c,Ext f c->zhV Tryz.prog l [(.int .i64 A)] c fun x e=>Ext c e/\∃h i j,x=(.agg #[(.int .i64 h),(.int .i64 i),(.int .i64 j)])/\zan f w [(.int .i64 K),(.int .i64 L),(.int .i64 M)] [] fun b=>zan b q [(.int .i64 h),(.int .i64 i),(.int .i64 j)] [] fun d=>r w q d)/\∀o,Ext p o->New o 44 [(.int .i64 0),(.int .i64 0),(.int .i64 0)] fun V y=>∀v,Ext y v->zhV Tryz.prog C [(.int .i64 X)] v fun W m=>Ext v m/\∃P R S,W=(.agg #[(.int .i64 P),(.int .i64 R),(.int .i64 S)])/\∀c,Ext y c->zhV Tryz.prog l [(.int .i64 A)] c fun x e=>Ext c e/\∃h i j,x=(.agg #[(.int .i64 h),(.int .i64 i),(.int .i64 j)])/\zan y V [(.int .i64 P),(.int .i64 R),(.int .i64 S)] [] fun b=>zan b q [(.int .i64 h),(.int .i64 i),(.int .i64 j)] [] fun d=>r V q d)/\∀(N:Option Addr)(O:Option Addr)(z:World),r N O z->N≠none/\∃C,cell z (pAdd N 0) 0=some (.int .i64 C)/\O≠none/\∃l,cell z (pAdd O 0) 0=some (.int .i64 l)/\N≠none/\∃ad,cell z (pAdd N 1) 0=some (.int .i64 ad)/\O≠none/\∃ae,cell z (pAdd O 1) 0=some (.int .i64 ae)/\N≠none/\∃af,cell z (pAdd N 2) 0=some (.int .i64 af)/\O≠none/\∃ag,cell z (pAdd O 2) 0=some (.int .i64 ag)/\∀v,Ext z v->FnP Tryz.prog zbr #[(.int .i64 C),(.int .i64 l)] v fun W m=>Ext v m/\∃ah,W=(.int .i64 ah)/\∀a,Ext z a->FnP Tryz.prog zbr #[(.int .i64 ad),(.int .i64 ae)] a fun G f=>Ext a f/\∃ai,G=(.int .i64 ai)/\∀e,Ext z e->FnP Tryz.prog zbr #[(.int .i64 af),(.int .i64 ag)] e fun au U=>Ext e U/\∃aj,au=(.int .i64 aj)/\∀n,Ext z n->Run Tryz.prog (.buildSlice 48 3 [(0,(.int .i64 ah)),(1,(.int .i64 ai)),(2,(.int .i64 aj))]) n fun av b=>Ext n b/\∃ak al am,av=(.slice ak al am)/\∀ab,Ext b ab->FnP Tryz.prog zic #[(.slice ak al am)] ab fun aw ax=>Ext ab ax/\∃an,aw=(.int .i64 an)/\∀ao,Ext b ao->ay (.int .i64 an) ao
theorem zp8(a b:Int)(c:Option Addr)(d:World)(e:Value->World->Prop)(h:zqx a b c d e):FnP Tryz.prog zgT #[(.int .i64 a),(.int .i64 b),(.pointer c)] d e:=
 zab (Eq.mp (by kernel_rfl:_=Runs Tryz.prog e ({N:=31,pub:=[6,7]}:Cfg) Tryz.f63 (Tryz.f63.body.getD .skip) [.sc (.int .i64 a),.sc (.int .i64 b),.sc (.ptr c)] d) h) Tryz.func63 (by kernel_rfl) (fun a w=>Tryz.call63 a w) (by kernel_rfl) (by kernel_rfl) rfl rfl
def zgj(e:Option Addr)(d w:Nat)(u:Value)(l:World)(v:Value->World->Prop):Prop:=
 ((((d:Int)<1)->∀h,Ext l h->Run Tryz.prog (.makeInterface 9 (.string (⟨#[115,108,105,99,101,115,46,77,105,110,70,117,110,99,58,32,101,109,112,116,121,32,108,105,115,116]⟩:ByteArray))) h fun q r=>Ext h r/\∃p,q=p/\zDo))/\((1<=(d:Int))->e≠none/\(0:Int)<=0/\(0:Int)<(d:Int)/\∃m,cell l (pIdx e 0 1) 0=some (.int .i64 m)/\∃(f:Int->Int->World->Prop) (g:Int->Int->World->Nat),f m 1 l/\∀(c:Int)(a:Int)(b:World),f c a b->(((a<(d:Int))->e≠none/\(0:Int)<=a/\(a:Int)<(d:Int)/\∃n,cell b (pIdx e a 1) 0=some (.int .i64 n)/\∀i,Ext b i->zhV Tryz.prog u [(.int .i64 n),(.int .i64 c)] i fun s t=>Ext i t/\∃j,s=(.int .i64 j)/\(((j<0)->e≠none/\(0:Int)<=a/\(a:Int)<(d:Int)/\∃k,cell b (pIdx e a 1) 0=some (.int .i64 k)/\InR .i64 (a+1)/\(f k (a+1) b/\g k (a+1) b<g c a b)))/\((0<=j)->InR .i64 (a+1)/\(f c (a+1) b/\g c (a+1) b<g c a b))))/\(((d:Int)<=a)->∀o,Ext b o->v (.int .i64 c) o))
theorem zgb(a:Option Addr)(b c:Nat)(d:Value)(e:World)(f:Value->World->Prop)(h:zgj a b c d e f):FnP Tryz.prog zbT #[(.slice a b c),d] e f:=
 zab (Eq.mp (by kernel_rfl:_=Runs Tryz.prog f ({N:=33}:Cfg) Tryz.f62 (Tryz.f62.body.getD .skip) [.sc (.slc a b c),.sc (.val d)] e) h) Tryz.func62 (by kernel_rfl) (fun a w=>Tryz.call62 a w) (by kernel_rfl) (by kernel_rfl) rfl rfl
def zsR(i:Option Addr)(e l:Nat)(k:World)(j:Value->World->Prop):Prop:=
 ∃(d:Int->World->Prop) (h:Int->World->Nat),d 0 k/\∀(a:Int)(b:World),d a b->(((a<(e:Int))->i≠none/\(0:Int)<=a/\(a:Int)<(e:Int)/\∃c,cell b (pIdx i a 1) 0=some (.int .i64 c)/\((c≠0)->∀f,Ext b f->j (.int .i64 c) f)/\((c=0)->InR .i64 (a+1)/\(d (a+1) b/\h (a+1) b<h a b))))/\(((e:Int)<=a)->∀g,Ext b g->j (.int .i64 0) g)
theorem zsj(a:Option Addr)(b c:Nat)(d:World)(e:Value->World->Prop)(h:zsR a b c d e):FnP Tryz.prog zic #[(.slice a b c)] d e:=
 zab (Eq.mp (by kernel_rfl:_=Runs Tryz.prog e ({N:=18}:Cfg) Tryz.f64 (Tryz.f64.body.getD .skip) [.sc (.slc a b c)] d) h) Tryz.func64 (by kernel_rfl) (fun a w=>Tryz.call64 a w) (by kernel_rfl) (by kernel_rfl) rfl rfl
def zjp(e f:Int)(b:World)(c:Value->World->Prop):Prop:=
 ∀g,Ext b g->FnP Tryz.prog zcG #[(.int .i64 e)] g fun j k=>Ext g k/\∃h,j=(.bool h)/\∀i,Ext b i->FnP Tryz.prog zcG #[(.int .i64 f)] i fun l m=>Ext i m/\∃d,l=(.bool d)/\(((h=true)->((d=true)->∀a,Ext b a->c (.int .i64 0) a)/\((d=false)->∀a,Ext b a->c (.int .i64 (-1)) a)))/\((h=false)->((d=true)->∀a,Ext b a->c (.int .i64 1) a)/\((d=false)->((e<f)->∀a,Ext b a->c (.int .i64 (-1)) a)/\((f<=e)->((f<e)->∀a,Ext b a->c (.int .i64 1) a)/\((e<=f)->∀a,Ext b a->c (.int .i64 0) a))))
theorem zjj(a b:Int)(c:World)(d:Value->World->Prop)(h:zjp a b c d):FnP Tryz.prog zbr #[(.int .i64 a),(.int .i64 b)] c d:=
 zab (Eq.mp (by kernel_rfl:_=Runs Tryz.prog d ({N:=20}:Cfg) Tryz.f65 (Tryz.f65.body.getD .skip) [.sc (.int .i64 a),.sc (.int .i64 b)] c) h) Tryz.func65 (by kernel_rfl) (fun a w=>Tryz.call65 a w) (by kernel_rfl) (by kernel_rfl) rfl rfl
def zlq(b:Int)(c:World)(d:Value->World->Prop):Prop:=
 ∀a,Ext c a->d (.bool (decide (b≠b))) a
theorem zk4(a:Int)(b:World)(c:Value->World->Prop)(h:zlq a b c):FnP Tryz.prog zcG #[(.int .i64 a)] b c:=
 zab (Eq.mp (by kernel_rfl:_=Runs Tryz.prog c ({N:=6}:Cfg) Tryz.f116 (Tryz.f116.body.getD .skip) [.sc (.int .i64 a)] b) h) Tryz.func116 (by kernel_rfl) (fun a w=>Tryz.call116 a w) (by kernel_rfl) (by kernel_rfl) rfl rfl
def zet(g:Option Addr)(h i:Nat)(j:Value)(d:World)(k:Value->World->Prop):Prop:=
 ∀a,Ext d a->FnP Tryz.prog zbC #[(.slice g h i),j] a fun e f=>Ext a f/\∃b,e=(.int .i64 b)/\∀c,Ext d c->k (.bool (decide (0<=b))) c
theorem zen(a:Option Addr)(b c:Nat)(d:Value)(e:World)(f:Value->World->Prop)(h:zet a b c d e f):FnP Tryz.prog zaP #[(.slice a b c),d] e f:=
 zab (Eq.mp (by kernel_rfl:_=Runs Tryz.prog f ({N:=9}:Cfg) Tryz.f119 (Tryz.f119.body.getD .skip) [.sc (.slc a b c),.sc (.val d)] e) h) Tryz.func119 (by kernel_rfl) (fun a w=>Tryz.call119 a w) (by kernel_rfl) (by kernel_rfl) rfl rfl
def zft(k:Option Addr)(f q:Nat)(o:Value)(p:World)(l:Value->World->Prop):Prop:=
 ∃(e:Int->World->Prop) (j:Int->World->Nat),e 0 p/\∀(a:Int)(b:World),e a b->(((a<(f:Int))->k≠none/\(0:Int)<=a/\(a:Int)<(f:Int)/\∃g,cell b (pIdx k a 1) 0=some (.int .i64 g)/\∀c,Ext b c->zhV Tryz.prog o [(.int .i64 g)] c fun m n=>Ext c n/\∃d,m=(.bool d)/\((d=true)->∀h,Ext b h->l (.int .i64 a) h)/\((d=false)->InR .i64 (a+1)/\(e (a+1) b/\j (a+1) b<j a b))))/\(((f:Int)<=a)->∀i,Ext b i->l (.int .i64 (-1)) i)
theorem zfi(a:Option Addr)(b c:Nat)(d:Value)(e:World)(f:Value->World->Prop)(h:zft a b c d e f):FnP Tryz.prog zbC #[(.slice a b c),d] e f:=
 zab (Eq.mp (by kernel_rfl:_=Runs Tryz.prog f ({N:=19}:Cfg) Tryz.f166 (Tryz.f166.body.getD .skip) [.sc (.slc a b c),.sc (.val d)] e) h) Tryz.func166 (by kernel_rfl) (fun a w=>Tryz.call166 a w) (by kernel_rfl) (by kernel_rfl) rfl rfl
def zdI(b:Option Addr)(q r:Nat)(l:World)(m:Value->World->Prop):Prop:=
 ((b=none)->∀a,Ext l a->m (.slice none 0 0) a)/\((b≠none)->∀a,Ext l a->Run Tryz.prog (.buildSlice 34 0 []) a fun n k=>Ext a k/\∃c d e,n=(.slice c d e)/\∀f,Ext k f->Run Tryz.prog (.append #[34,34] 34 [(.slice c d e),(.slice b q r)]) f fun o p=>∃g h i,o=(.slice g h i)/\∀j,Ext p j->m (.slice g h i) j)
theorem zdC(a:Option Addr)(b c:Nat)(d:World)(e:Value->World->Prop)(h:zdI a b c d e):FnP Tryz.prog zaj #[(.slice a b c)] d e:=
 zab (Eq.mp (by kernel_rfl:_=Runs Tryz.prog e ({N:=8}:Cfg) Tryz.f111 (Tryz.f111.body.getD .skip) [.sc (.slc a b c)] d) h) Tryz.func111 (by kernel_rfl) (fun a w=>Tryz.call111 a w) (by kernel_rfl) (by kernel_rfl) rfl rfl
def zde(b:Option Addr)(q r:Nat)(l:World)(m:Value->World->Prop):Prop:=
 ((b=none)->∀a,Ext l a->m (.slice none 0 0) a)/\((b≠none)->∀a,Ext l a->Run Tryz.prog (.buildSlice 74 0 []) a fun n k=>Ext a k/\∃c d e,n=(.slice c d e)/\∀f,Ext k f->Run Tryz.prog (.append #[74,74] 74 [(.slice c d e),(.slice b q r)]) f fun o p=>∃g h i,o=(.slice g h i)/\∀j,Ext p j->m (.slice g h i) j)
theorem zdd(a:Option Addr)(b c:Nat)(d:World)(e:Value->World->Prop)(h:zde a b c d e):FnP Tryz.prog zaB #[(.slice a b c)] d e:=
 zab (Eq.mp (by kernel_rfl:_=Runs Tryz.prog e ({N:=8}:Cfg) Tryz.f112 (Tryz.f112.body.getD .skip) [.sc (.slc a b c)] d) h) Tryz.func112 (by kernel_rfl) (fun a w=>Tryz.call112 a w) (by kernel_rfl) (by kernel_rfl) rfl rfl
abbrev zjN:FuncId:=69
abbrev zdW:FuncId:=71
abbrev za0:FuncId:=72
abbrev zcv:FuncId:=121
abbrev zcT:FuncId:=122
abbrev zc7:FuncId:=167
abbrev zcw:FuncId:=168
abbrev ze6:FuncId:=311
abbrev zez:FuncId:=312
abbrev zeB:FuncId:=313
abbrev zda:FuncId:=314
abbrev ze7:FuncId:=315
abbrev zeA:FuncId:=316
def zny(e:Option Addr)(b f:Nat)(c:World)(d:Value->World->Prop):Prop:=
 ∀a,Ext c a->d (.int .i64 (b:Int)) a
theorem znn(a:Option Addr)(b c:Nat)(d:World)(e:Value->World->Prop)(h:zny a b c d e):FnP Tryz.prog ze6 #[(.slice a b c)] d e:=
 zab (Eq.mp (by kernel_rfl:_=Runs Tryz.prog e ({N:=5}:Cfg) Tryz.f311 (Tryz.f311.body.getD .skip) [.sc (.slc a b c)] d) h) Tryz.func311 (by kernel_rfl) (fun a w=>Tryz.call311 a w) (by kernel_rfl) (by kernel_rfl) rfl rfl
def zmR(a:Option Addr)(j n:Nat)(d e:Int)(b:World)(m:Value->World->Prop):Prop:=
 a≠none/\(0:Int)<=d/\(d:Int)<(j:Int)/\∃f,cell b (pIdx a d 1) 0=some (.pointer f)/\a≠none/\(0:Int)<=e/\(e:Int)<(j:Int)/\∃g,cell b (pIdx a e 1) 0=some (.pointer g)/\∀c,Ext b c->FnP Tryz.prog zda #[(.pointer f),(.pointer g)] c fun k l=>Ext c l/\∃h,k=(.bool h)/\∀i,Ext b i->m (.bool h) i
theorem zml(a:Option Addr)(b c:Nat)(d e:Int)(f:World)(g:Value->World->Prop)(h:zmR a b c d e f g):FnP Tryz.prog zez #[(.slice a b c),(.int .i64 d),(.int .i64 e)] f g:=
 zab (Eq.mp (by kernel_rfl:_=Runs Tryz.prog g ({N:=16}:Cfg) Tryz.f312 (Tryz.f312.body.getD .skip) [.sc (.slc a b c),.sc (.int .i64 d),.sc (.int .i64 e)] f) h) Tryz.func312 (by kernel_rfl) (fun a w=>Tryz.call312 a w) (by kernel_rfl) (by kernel_rfl) rfl rfl
def zmT(a:Option Addr)(d p:Nat)(b c:Int)(h:World)(o:Value->World->Prop):Prop:=
 a≠none/\(0:Int)<=c/\(c:Int)<(d:Int)/\∃i,cell h (pIdx a c 1) 0=some (.pointer i)/\a≠none/\(0:Int)<=b/\(b:Int)<(d:Int)/\∃j,cell h (pIdx a b 1) 0=some (.pointer j)/\a≠none/\(0:Int)<=b/\(b:Int)<(d:Int)/\zan h (pIdx a b 1) [(.pointer i)] [] fun l=>a≠none/\(0:Int)<=c/\(c:Int)<(d:Int)/\zan l (pIdx a c 1) [(.pointer j)] [] fun g=>a≠none/\(0:Int)<=b/\(b:Int)<(d:Int)/\∃e,cell g (pIdx a b 1) 0=some (.pointer e)/\a≠none/\(0:Int)<=c/\(c:Int)<(d:Int)/\∃f,cell g (pIdx a c 1) 0=some (.pointer f)/\e≠none/\e≠none/\zan g (pAdd e 3) [(.int .i64 b)] [] fun m=>f≠none/\f≠none/\zan m (pAdd f 3) [(.int .i64 c)] [] fun n=>∀k,Ext n k->o (.tuple #[]) k
theorem zmn(a:Option Addr)(b c:Nat)(d e:Int)(f:World)(g:Value->World->Prop)(h:zmT a b c d e f g):FnP Tryz.prog zeB #[(.slice a b c),(.int .i64 d),(.int .i64 e)] f g:=
 zab (Eq.mp (by kernel_rfl:_=Runs Tryz.prog g ({N:=34}:Cfg) Tryz.f313 (Tryz.f313.body.getD .skip) [.sc (.slc a b c),.sc (.int .i64 d),.sc (.int .i64 e)] f) h) Tryz.func313 (by kernel_rfl) (fun a w=>Tryz.call313 a w) (by kernel_rfl) (by kernel_rfl) rfl rfl
def zeL(a b:Option Addr)(c:World)(h:Value->World->Prop):Prop:=
 a≠none/\a≠none/\(pAdd a 0)≠none/\∃d,cell c (pAdd (pAdd a 0) 0) 0=some (.int .i64 d)/\b≠none/\b≠none/\(pAdd b 0)≠none/\∃e,cell c (pAdd (pAdd b 0) 0) 0=some (.int .i64 e)/\((d<=e)->a≠none)/\((d<=e)->a≠none)/\((d<=e)->(pAdd a 0)≠none)/\((e<d)->∀i,Ext c i->h (.bool true) i)/\((d<=e)->∃f,cell c (pAdd (pAdd a 0) 0) 0=some (.int .i64 f)/\b≠none/\b≠none/\(pAdd b 0)≠none/\∃g,cell c (pAdd (pAdd b 0) 0) 0=some (.int .i64 g)/\((f=g)->a≠none)/\((f=g)->a≠none)/\(((f=g)->∃j,cell c (pAdd a 2) 0=some (.int .i64 j)/\b≠none/\b≠none/\∃k,cell c (pAdd b 2) 0=some (.int .i64 k)/\∀l,Ext c l->h (.bool (decide (j<k))) l))/\((f≠g)->∀m,Ext c m->h (.bool false) m))
theorem zjm(a b:Option Addr)(c:World)(d:Value->World->Prop)(h:zeL a b c d):FnP Tryz.prog zda #[(.pointer a),(.pointer b)] c d:=
 zab (Eq.mp (by kernel_rfl:_=Runs Tryz.prog d ({N:=40}:Cfg) Tryz.f314 (Tryz.f314.body.getD .skip) [.sc (.ptr a),.sc (.ptr b)] c) h) Tryz.func314 (by kernel_rfl) (fun a w=>Tryz.call314 a w) (by kernel_rfl) (by kernel_rfl) rfl rfl
def znz(b:Option Addr)(c:World)(s:Value->World->Prop):Prop:=
 b≠none/\∃m a n,cell c b 0=some (.slice m a n)/\InR .i64 ((a:Int)-1)/\b≠none/\∃e g o,cell c b 0=some (.slice e g o)/\e≠none/\(0:Int)<=((a:Int)-1)/\(((a:Int)-1):Int)<(g:Int)/\∃h,cell c (pIdx e ((a:Int)-1) 1) 0=some (.pointer h)/\b≠none/\∃i p d,cell c b 0=some (.slice i p d)/\(0:Int)<=0/\(0:Int)<=((a:Int)-1)/\(((a:Int)-1):Int)<=(d:Int)/\b≠none/\zan c b [(.slice (pCut i d 0 1) (((a:Int)-1)-0).toNat (d-(0:Int).toNat))] [] fun q=>∀f,Ext q f->Run Tryz.prog (.makeInterface 218 (.pointer h)) f fun r l=>Ext f l/\∃j,r=j/\∀k,Ext l k->s j k
theorem zno(a:Option Addr)(b:World)(c:Value->World->Prop)(h:znz a b c):FnP Tryz.prog ze7 #[(.pointer a)] b c:=
 zab (Eq.mp (by kernel_rfl:_=Runs Tryz.prog c ({N:=25}:Cfg) Tryz.f315 (Tryz.f315.body.getD .skip) [.sc (.ptr a)] b) h) Tryz.func315 (by kernel_rfl) (fun a w=>Tryz.call315 a w) (by kernel_rfl) (by kernel_rfl) rfl rfl
def zmS(a:Option Addr)(A:Value)(B:World)(C:Value->World->Prop):Prop:=
 ∀c,Ext B c->Run Tryz.prog (.typeAssert A 20 218 false) c fun v e=>Ext c e/\∃b,v=(.pointer b)/\a≠none/\∃t f u,cell e a 0=some (.slice t f u)/\b≠none/\b≠none/\zan e (pAdd b 3) [(.int .i64 (f:Int))] [] fun r=>a≠none/\∃g h i,cell r a 0=some (.slice g h i)/\∀d,Ext r d->Run Tryz.prog (.buildSlice 213 1 [(0,(.pointer b))]) d fun w s=>Ext d s/\∃j k l,w=(.slice j k l)/\∀m,Ext s m->Run Tryz.prog (.append #[213,213] 213 [(.slice g h i),(.slice j k l)]) m fun x y=>∃n o p,x=(.slice n o p)/\a≠none/\zan y a [(.slice n o p)] [] fun z=>∀q,Ext z q->C (.tuple #[]) q
theorem zmm(a:Option Addr)(b:Value)(c:World)(d:Value->World->Prop)(h:zmS a b c d):FnP Tryz.prog zeA #[(.pointer a),b] c d:=
 zab (Eq.mp (by kernel_rfl:_=Runs Tryz.prog d ({N:=22}:Cfg) Tryz.f316 (Tryz.f316.body.getD .skip) [.sc (.ptr a),.sc (.val b)] c) h) Tryz.func316 (by kernel_rfl) (fun a w=>Tryz.call316 a w) (by kernel_rfl) (by kernel_rfl) rfl rfl
def zjq(j:Value)(n:Int)(o:World)(k:Value->World->Prop):Prop:=
 ∃ (f : Int -> World -> Prop) (i : Int -> World -> Nat), f n o /\ ∀ (a : Int) (d : World), f a d -> InR .i64 (a - 1) /\ InR .i64 ((a - 1).tdiv 2) /\ ((((a - 1).tdiv 2) = a) -> ∀ b, Ext d b -> k (.tuple #[]) b) /\ ((((a - 1).tdiv 2) ≠ a) -> ∀ b, Ext d b -> zpN Tryz.prog "Less" j [(.int .i64 a), (.int .i64 ((a - 1).tdiv 2))] b fun l g => ∃ e, l = (.bool e) /\ ((e = false) -> ∀ c, Ext g c -> k (.tuple #[]) c) /\ ((e = true) -> ∀ c, Ext g c -> zpN Tryz.prog "Swap" j [(.int .i64 ((a - 1).tdiv 2)), (.int .i64 a)] c fun m h => m = (.tuple #[]) /\ (f ((a - 1).tdiv 2) h /\ i ((a - 1).tdiv 2) h < i a d)))
theorem zjk(a:Value)(b:Int)(c:World)(d:Value->World->Prop)(h:zjq a b c d):FnP Tryz.prog zc7 #[a,(.int .i64 b)] c d:=
 zab (Eq.mp (by kernel_rfl:_=Runs Tryz.prog d ({N:=23}:Cfg) Tryz.f167 (Tryz.f167.body.getD .skip) [.sc (.val a),.sc (.int .i64 b)] c) h) Tryz.func167 (by kernel_rfl) (fun a w=>Tryz.call167 a w) (by kernel_rfl) (by kernel_rfl) rfl rfl
def zh5(i:Value)(o p:Int)(t:World)(q:Value->World->Prop):Prop:=
 ∃ (n : Int -> World -> Prop) (j : Int -> World -> Nat), n o t /\ ∀ (a : Int) (h : World), n a h -> InR .i64 (2 * a) /\ InR .i64 ((2 * a) + 1) /\ (((p <= ((2 * a) + 1)) \/ (((2 * a) + 1) < 0)) -> ∀ d, Ext h d -> q (.bool (decide (o < a))) d) /\ (((((2 * a) + 1) < p) /\ (0 <= ((2 * a) + 1))) -> InR .i64 (((2 * a) + 1) + 1) /\ ((((((2 * a) + 1) + 1) < p) -> ∀ d, Ext h d -> zpN Tryz.prog "Less" i [(.int .i64 (((2 * a) + 1) + 1)), (.int .i64 ((2 * a) + 1))] d fun r k => ∃ f, r = (.bool f) /\ (((f = true) -> ∀ b, Ext k b -> zpN Tryz.prog "Less" i [(.int .i64 (((2 * a) + 1) + 1)), (.int .i64 a)] b fun l e => ∃ g, l = (.bool g) /\ ((g = false) -> ∀ c, Ext e c -> q (.bool (decide (o < a))) c) /\ ((g = true) -> ∀ c, Ext e c -> zpN Tryz.prog "Swap" i [(.int .i64 a), (.int .i64 (((2 * a) + 1) + 1))] c fun s m => s = (.tuple #[]) /\ (n (((2 * a) + 1) + 1) m /\ j (((2 * a) + 1) + 1) m < j a h)))) /\ ((f = false) -> ∀ b, Ext k b -> zpN Tryz.prog "Less" i [(.int .i64 ((2 * a) + 1)), (.int .i64 a)] b fun l e => ∃ g, l = (.bool g) /\ ((g = false) -> ∀ c, Ext e c -> q (.bool (decide (o < a))) c) /\ ((g = true) -> ∀ c, Ext e c -> zpN Tryz.prog "Swap" i [(.int .i64 a), (.int .i64 ((2 * a) + 1))] c fun s m => s = (.tuple #[]) /\ (n ((2 * a) + 1) m /\ j ((2 * a) + 1) m < j a h))))) /\ ((p <= (((2 * a) + 1) + 1)) -> ∀ d, Ext h d -> zpN Tryz.prog "Less" i [(.int .i64 ((2 * a) + 1)), (.int .i64 a)] d fun r k => ∃ f, r = (.bool f) /\ ((f = false) -> ∀ b, Ext k b -> q (.bool (decide (o < a))) b) /\ ((f = true) -> ∀ b, Ext k b -> zpN Tryz.prog "Swap" i [(.int .i64 a), (.int .i64 ((2 * a) + 1))] b fun l e => l = (.tuple #[]) /\ (n ((2 * a) + 1) e /\ j ((2 * a) + 1) e < j a h))))
theorem zh1(a:Value)(b c:Int)(d:World)(e:Value->World->Prop)(h:zh5 a b c d e):FnP Tryz.prog zcw #[a,(.int .i64 b),(.int .i64 c)] d e:=
 zab (Eq.mp (by kernel_rfl:_=Runs Tryz.prog e ({N:=48}:Cfg) Tryz.f168 (Tryz.f168.body.getD .skip) [.sc (.val a),.sc (.int .i64 b),.sc (.int .i64 c)] d) h) Tryz.func168 (by kernel_rfl) (fun a w=>Tryz.call168 a w) (by kernel_rfl) (by kernel_rfl) rfl rfl
def zh4(b m:Value)(n:World)(o:Value->World->Prop):Prop:=
 ∀ c, Ext n c -> zpN Tryz.prog "Push" b [m] c fun g h => g = (.tuple #[]) /\ ∀ d, Ext h d -> zpN Tryz.prog "Len" b [] d fun i j => ∃ a, i = (.int .i64 a) /\ InR .i64 (a - 1) /\ ∀ e, Ext j e -> FnP Tryz.prog zc7 #[b, (.int .i64 (a - 1))] e fun k l => k = (.tuple #[]) /\ ∀ f, Ext l f -> o (.tuple #[]) f
theorem zh0(a b:Value)(c:World)(d:Value->World->Prop)(h:zh4 a b c d):FnP Tryz.prog zcv #[a,b] c d:=
 zab (Eq.mp (by kernel_rfl:_=Runs Tryz.prog d ({N:=12,muts:=[167]}:Cfg) Tryz.f121 (Tryz.f121.body.getD .skip) [.sc (.val a),.sc (.val b)] c) h) Tryz.func121 (by kernel_rfl) (fun a w=>Tryz.call121 a w) (by kernel_rfl) (by kernel_rfl) rfl rfl
def ziO(b:Value)(r:World)(s:Value->World->Prop):Prop:=
 ∀ c, Ext r c -> zpN Tryz.prog "Len" b [] c fun j k => ∃ a, j = (.int .i64 a) /\ InR .i64 (a - 1) /\ ∀ d, Ext k d -> zpN Tryz.prog "Swap" b [(.int .i64 0), (.int .i64 (a - 1))] d fun l m => l = (.tuple #[]) /\ ∀ e, Ext m e -> FnP Tryz.prog zcw #[b, (.int .i64 0), (.int .i64 (a - 1))] e fun n o => ∃ i, n = (.bool i) /\ ∀ f, Ext o f -> zpN Tryz.prog "Pop" b [] f fun p q => ∃ g, p = g /\ ∀ h, Ext q h -> s g h
theorem ziB(a:Value)(b:World)(c:Value->World->Prop)(h:ziO a b c):FnP Tryz.prog zcT #[a] b c:=
 zab (Eq.mp (by kernel_rfl:_=Runs Tryz.prog c ({N:=15,muts:=[168]}:Cfg) Tryz.f122 (Tryz.f122.body.getD .skip) [.sc (.val a)] b) h) Tryz.func122 (by kernel_rfl) (fun a w=>Tryz.call122 a w) (by kernel_rfl) (by kernel_rfl) rfl rfl
def zne  (w:World) (Q:Value->World->Prop):Prop :=
 ∀w0,Ext w w0 ->
 Run Tryz.prog (.makeMap 211) w0 fun v1 w1 =>
  Ext w0 w1 /\
  ∃t2:Value,v1=t2 /\
  Value.oneCell' t2=true /\
  ∀w3,Ext w1 w3 ->
  New w3 215 [(.slice none 0 0),t2,(.int .i64 0)] fun p4 w4 =>
   ∀w5,Ext w4 w5 ->
   Q (.pointer p4) w5
theorem zuz  (w:World) (Q:Value->World->Prop) (h:zne  w Q):FnP Tryz.prog zjN #[] w Q:=by
 have e_:zne  w Q=Runs Tryz.prog Q ({ N:=4,wrap:=[],pub:=[3],muts:=[],joins:=[] }:Cfg) Tryz.f69 (Tryz.f69.body.getD .skip) [] w:=by kernel_rfl
 rw[e_] at h
 exact zab h Tryz.func69 (by kernel_rfl) (fun args w=>Tryz.call69 args w) (by kernel_rfl) (by kernel_rfl) rfl rfl
def zlw(a:Option Addr)(J i:Int)(A:World)(j:Value->World->Prop):Prop:=
 a≠none/\a≠none/\∃k,cell A (pAdd a 1) 0=some k/\∀c,Ext A c->Run Tryz.prog (.lookup 211 k (.int .i64 i) false) c fun D b=>Ext c b/\∃d,D=(.pointer d)/\((d≠none)->∀l,Ext b l->j (.int .i64 6) l)/\((d=none)->a≠none/\a≠none/\∃B e C,cell b (pAdd a 0) 0=some (.slice B e C)/\(((e:Int)=200)->∀m,Ext b m->j (.int .i64 7) m)/\(((e:Int)≠200)->a≠none/\a≠none/\∃f,cell b (pAdd a 2) 0=some (.int .i64 f)/\InR .i64 (f+1)/\a≠none/\a≠none/\zan b (pAdd a 2) [(.int .i64 (f+1))] [] fun v=>a≠none/\a≠none/\∃n,cell v (pAdd a 2) 0=some (.int .i64 n)/\∀o,Ext v o->New o 220 [(.int .i64 J),(.int .i64 i),(.int .i64 n),(.int .i64 0)] fun w x=>a≠none/\a≠none/\∃p,cell x (pAdd a 1) 0=some p/\∀q,Ext x q->Run Tryz.prog (.mapUpdate 211 p (.int .i64 i) (.pointer w)) q fun K E=>a≠none/\a≠none/\∀g,Ext E g->Run Tryz.prog (.makeInterface 222 (.pointer (pAdd a 0))) g fun F y=>Ext g y/\∃r,F=r/\∀h,Ext y h->Run Tryz.prog (.makeInterface 218 (.pointer w)) h fun G z=>Ext h z/\∃s,G=s/\∀t,Ext z t->FnP Tryz.prog zcv #[r,s] t fun H I=>H=(.tuple #[])/\∀u,Ext I u->j (.int .i64 0) u))
theorem zlb(a:Option Addr)(b c:Int)(d:World)(e:Value->World->Prop)(h:zlw a b c d e):FnP Tryz.prog zdW #[(.pointer a),(.int .i64 b),(.int .i64 c)] d e:=
 zab (Eq.mp (by kernel_rfl:_=Runs Tryz.prog e ({N:=52,pub:=[38],muts:=[121]}:Cfg) Tryz.f71 (Tryz.f71.body.getD .skip) [.sc (.ptr a),.sc (.int .i64 b),.sc (.int .i64 c)] d) h) Tryz.func71 (by kernel_rfl) (fun a w=>Tryz.call71 a w) (by kernel_rfl) (by kernel_rfl) rfl rfl
def zkp(b:Option Addr)(g:World)(u:Value->World->Prop):Prop:=
 ∀c:Nat,g.heap.size<=c->b≠none/\b≠none/\∃v h w,cell g (pAdd b 0) 0=some (.slice v h w)/\(((h:Int)=0)->∀d,Ext g d->u (.tuple #[(.agg #[(.int .i64 0),(.int .i64 0)]),(.bool false)]) d)/\(((h:Int)≠0)->b≠none/\b≠none/\∀d,zag [] [c] g d->Run Tryz.prog (.makeInterface 222 (.pointer (pAdd b 0))) d fun x s=>Ext d s/\∃l,x=l/\∀i,zag [] [c] s i->FnP Tryz.prog zcT #[l] i fun y t=>zcm [c] i t/\∃m,y=m/\∀j,zag [] [c] t j->Run Tryz.prog (.typeAssert m 20 218 false) j fun z e=>Ext j e/\∃a,z=(.pointer a)/\b≠none/\b≠none/\∃n,cell e (pAdd b 1) 0=some n/\a≠none/\a≠none/\(pAdd a 0)≠none/\∃o,cell e (pAdd (pAdd a 0) 1) 0=some (.int .i64 o)/\∀k,zag [] [c] e k->Run Tryz.prog (.delete #[211,3] 0 [n,(.int .i64 o)]) k fun A f=>zcm [c] k f/\A=(.tuple #[])/\a≠none/\a≠none/\(pAdd a 0)≠none/\∃p,cell f (pAdd a 0) 0=some (.int .i64 p)/\∃q,cell f (pAdd a 0) 1=some (.int .i64 q)/\∀r,zag [c] [] f r->u (.tuple #[(.agg #[(.int .i64 p),(.int .i64 q)]),(.bool true)]) r)
theorem zka(a:Option Addr)(b:World)(c:Value->World->Prop)(h:zkp a b c):FnP Tryz.prog za0 #[(.pointer a)] b c:=
 zab (Eq.mp (by kernel_rfl:_=Runs Tryz.prog c ({N:=31,muts:=[122]}:Cfg) Tryz.f72 (Tryz.f72.body.getD .skip) [.sc (.ptr a)] b) h) Tryz.func72 (by kernel_rfl) (fun a w=>Tryz.call72 a w) (by kernel_rfl) (by kernel_rfl) rfl rfl
abbrev zeO:FuncId:=57
abbrev ziW:FuncId:=68
abbrev zeP:FuncId:=75
abbrev zcl:FuncId:=117
abbrev zeM:FuncId:=118
def zqD(a c d e:Int)(f:World)(g:Value->World->Prop):Prop:=
 ∀h:Nat,f.heap.size<=h->(((((((((a<1)\/(1000000000<a))\/(c<1))\/(10<c))\/(d<a))\/(1000000000<d))\/(e<0))\/(50<e))->∀b,Ext f b->g (.int .i64 4) b)/\(((((((((1<=a)/\(a<=1000000000))/\(1<=c))/\(c<=10))/\(a<=d))/\(d<=1000000000))/\(0<=e))/\(e<=50))->∀b,Ext f b->g (.int .i64 0) b)
theorem zqf(a b c d:Int)(e:World)(f:Value->World->Prop)(h:zqD a b c d e f):FnP Tryz.prog zeO #[(.agg #[(.int .i64 a),(.int .i64 b),(.int .i64 c),(.int .i64 d)])] e f:=
 zab (Eq.mp (by kernel_rfl:_=Runs Tryz.prog f ({N:=43}:Cfg) Tryz.f57 (Tryz.f57.body.getD .skip) [.agg [.int .i64 a,.int .i64 b,.int .i64 c,.int .i64 d]] e) h) Tryz.func57 (by kernel_rfl) (fun a w=>Tryz.call57 a w) (by kernel_rfl) (by kernel_rfl) rfl rfl
def zqE(p h k l b:Int)(f:World)(m:Value->World->Prop):Prop:=
 ∀q:Nat,f.heap.size<=q->∀i,Ext f i->FnP Tryz.prog zeO #[(.agg #[(.int .i64 p),(.int .i64 h),(.int .i64 k),(.int .i64 l)])] i fun r s=>Ext i s/\∃g,r=(.int .i64 g)/\((g≠0)->∀d,Ext f d->m (.tuple #[(.int .i64 0),(.int .i64 g)]) d)/\((g=0)->(((b<1)\/(l<b))->∀d,Ext f d->m (.tuple #[(.int .i64 0),(.int .i64 5)]) d)/\(((1<=b)/\(b<=l))->InR .i64 (b-1)/\∃(j:Int->Int->World->Prop) (o:Int->Int->World->Nat),j p 0 f/\∀(c:Int)(a:Int)(e:World),j c a e->(((a<(b-1))->InR .i64 (c*h)/\InR .i64 (a+1)/\(j (min (c*h) k) (a+1) e/\o (min (c*h) k) (a+1) e<o c a e)))/\(((b-1)<=a)->∀n,Ext e n->m (.tuple #[(.int .i64 c),(.int .i64 0)]) n)))
theorem zqg(a b c d e:Int)(f:World)(g:Value->World->Prop)(h:zqE a b c d e f g):FnP Tryz.prog zeP #[(.agg #[(.int .i64 a),(.int .i64 b),(.int .i64 c),(.int .i64 d)]),(.int .i64 e)] f g:=
 zab (Eq.mp (by kernel_rfl:_=Runs Tryz.prog g ({N:=36}:Cfg) Tryz.f75 (Tryz.f75.body.getD .skip) [.agg [.int .i64 a,.int .i64 b,.int .i64 c,.int .i64 d],.sc (.int .i64 e)] f) h) Tryz.func75 (by kernel_rfl) (fun a w=>Tryz.call75 a w) (by kernel_rfl) (by kernel_rfl) rfl rfl
def zhH(b:Option Addr)(q r:Nat)(l:World)(m:Value->World->Prop):Prop:=
 ((b=none)->∀a,Ext l a->m (.slice none 0 0) a)/\((b≠none)->∀a,Ext l a->Run Tryz.prog (.buildSlice 48 0 []) a fun n k=>Ext a k/\∃c d e,n=(.slice c d e)/\∀f,Ext k f->Run Tryz.prog (.append #[48,48] 48 [(.slice c d e),(.slice b q r)]) f fun o p=>∃g h i,o=(.slice g h i)/\∀j,Ext p j->m (.slice g h i) j)
theorem zho(a:Option Addr)(b c:Nat)(d:World)(e:Value->World->Prop)(h:zhH a b c d e):FnP Tryz.prog zcl #[(.slice a b c)] d e:=
 zab (Eq.mp (by kernel_rfl:_=Runs Tryz.prog e ({N:=8}:Cfg) Tryz.f117 (Tryz.f117.body.getD .skip) [.sc (.slc a b c)] d) h) Tryz.func117 (by kernel_rfl) (fun a w=>Tryz.call117 a w) (by kernel_rfl) (by kernel_rfl) rfl rfl
def zqv(S:Int)(T U:ByteArray)(V:Int)(c:Option Addr)(r X:Nat)(s:World)(W:Value->World->Prop):Prop:=
 ∀d:Nat,s.heap.size<=d->∀e:Nat,s.heap.size<=e->∃(q:Option Addr->Nat->Nat->Int->World->Prop) (N:Option Addr->Nat->Nat->Int->World->Nat),q none 0 0 0 s/\∀(g:Option Addr)(h:Nat)(i:Nat)(a:Int)(b:World),q g h i a b->(((a<(r:Int))->c≠none/\(0:Int)<=a/\(a:Int)<(r:Int)/\(pIdx c a 5)≠none/\∃t,cell b (pIdx c a 5) 0=some (.int .i64 t)/\∃u,cell b (pIdx c a 5) 1=some (.string u)/\∃v,cell b (pIdx c a 5) 2=some (.string v)/\∃w,cell b (pIdx c a 5) 3=some (.int .i64 w)/\∃x y z,cell b (pIdx c a 5) 4=some (.slice x y z)/\∀f:Nat,b.heap.size<=f->∀j,zag [] [d,e,f] b j->FnP Tryz.prog zeM #[(.agg #[(.int .i64 t),(.string u),(.string v),(.int .i64 w),(.slice x y z)])] j fun O L=>Ext j L/\∃A B C D E F G,O=(.agg #[(.int .i64 A),(.string B),(.string C),(.int .i64 D),(.slice E F G)])/\∀k,zag [] [d,e,f] L k->Run Tryz.prog (.buildSlice 45 1 [(0,(.agg #[(.int .i64 A),(.string B),(.string C),(.int .i64 D),(.slice E F G)]))]) k fun P M=>Ext k M/\∃H I J,P=(.slice H I J)/\∀l,zag [] [d,e,f] M l->Run Tryz.prog (.append #[45,45] 45 [(.slice g h i),(.slice H I J)]) l fun R p=>zcm [d,e,f] l p/\∃m n o,R=(.slice m n o)/\InR .i64 (a+1)/\(q m n o (a+1) p/\N m n o (a+1) p<N g h i a b)))/\(((r:Int)<=a)->∀K,zag [e,d] [] b K->W (.agg #[(.int .i64 S),(.string T),(.string U),(.int .i64 V),(.slice g h i)]) K)
theorem zp6(a:Int)(b c:ByteArray)(d:Int)(e:Option Addr)(f g:Nat)(i:World)(j:Value->World->Prop)(h:zqv a b c d e f g i j):FnP Tryz.prog zeM #[(.agg #[(.int .i64 a),(.string b),(.string c),(.int .i64 d),(.slice e f g)])] i j:=
 zab (Eq.mp (by kernel_rfl:_=Runs Tryz.prog j ({N:=22}:Cfg) Tryz.f118 (Tryz.f118.body.getD .skip) [.agg [.int .i64 a,.str b,.str c,.int .i64 d,.slc e f g]] i) h) Tryz.func118 (by kernel_rfl) (fun a w=>Tryz.call118 a w) (by kernel_rfl) (by kernel_rfl) rfl rfl
def zxh(u:ByteArray)(v w x y z:Int)(A B:ByteArray)(C:Int)(D:Option Addr)(E F:Nat)(G:Option Addr)(H I:Nat)(J K L M N:Int)(e:World)(O:Value->World->Prop):Prop:=
 ∀a:Nat,e.heap.size<=a->∀b:Nat,e.heap.size<=b->∀c,zag [] [a,b] e c->FnP Tryz.prog zcl #[(.slice G H I)] c fun s q=>Ext c q/\∃f g h,s=(.slice f g h)/\∀d,zag [a] [a,b] q d->FnP Tryz.prog zeM #[(.agg #[(.int .i64 z),(.string A),(.string B),(.int .i64 C),(.slice D E F)])] d fun t r=>Ext d r/\∃i j k l m n o,t=(.agg #[(.int .i64 i),(.string j),(.string k),(.int .i64 l),(.slice m n o)])/\∀p,zag [b,a] [] r p->O (.agg #[(.string u),(.int .i64 v),(.int .i64 w),(.int .i64 x),(.int .i64 y),(.int .i64 i),(.string j),(.string k),(.int .i64 l),(.slice m n o),(.slice f g h),(.int .i64 J),(.int .i64 K),(.int .i64 L),(.int .i64 M),(.int .i64 N)]) p
theorem zwJ(a:ByteArray)(b c d e f:Int)(g i:ByteArray)(j:Int)(k:Option Addr)(l m:Nat)(n:Option Addr)(o p:Nat)(q r s t u:Int)(v:World)(w:Value->World->Prop)(h:zxh a b c d e f g i j k l m n o p q r s t u v w):FnP Tryz.prog ziW #[(.agg #[(.string a),(.int .i64 b),(.int .i64 c),(.int .i64 d),(.int .i64 e),(.int .i64 f),(.string g),(.string i),(.int .i64 j),(.slice k l m),(.slice n o p),(.int .i64 q),(.int .i64 r),(.int .i64 s),(.int .i64 t),(.int .i64 u)])] v w:=
 zab (Eq.mp (by kernel_rfl:_=Runs Tryz.prog w ({N:=16}:Cfg) Tryz.f68 (Tryz.f68.body.getD .skip) [.agg [.str a,.int .i64 b,.int .i64 c,.int .i64 d,.int .i64 e,.int .i64 f,.str g,.str i,.int .i64 j,.slc k l m,.slc n o p,.int .i64 q,.int .i64 r,.int .i64 s,.int .i64 t,.int .i64 u]] v) h) Tryz.func68 (by kernel_rfl) (fun a w=>Tryz.call68 a w) (by kernel_rfl) (by kernel_rfl) rfl rfl
end Go.Proofs.YtcceeahmcecbnaaGreatDoor
