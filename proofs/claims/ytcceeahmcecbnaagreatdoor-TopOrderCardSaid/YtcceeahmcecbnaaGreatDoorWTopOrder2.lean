/- The framework, the program's texts and what is shown of them: part 2. -/
import Derived.Test.YtcceeahmcecbnaaGreatDoorWTopOrder1
import Derived.WalkKit
import Derived.ProofKit
import Derived.OpenShut
import Derived.JoinedCond
import Derived.Laws.AppendOwn
import Derived.Laws.OwnMore
import Derived.Great.BuildSlice
import Derived.Laws.StructEq
import Derived.LaidLaws
import Derived.LaidHandle
import Derived.LaidMore
import Derived.SevenTiedAt
import Derived.JoinedOf
import Derived.FnData
import Derived.Test.YtcceeahmcecbnaaGreatDoorRows
set_option linter.unusedVariables false
set_option linter.unusedSimpArgs false
set_option maxRecDepth 100000
namespace Go.Sx
open RowKit
variable {P:Program} {Q:Value->World->Prop}
theorem zK6 {a b:Sh} (h:shEq a b=true):a=b:=by
  cases a<;>cases b<;>simp [shEq] at h<;>first|rfl|(rw [zuZ h])
theorem zAg:∀ {a b:List Sh},zBq a b=true->a=b
  |[],[],_ => rfl
  |a::r,b::s,h => by
    simp only [zBq,Bool.and_eq_true] at h
    rw [zK6 h.1,zAg h.2]
  |[],_::_,h => by simp [zBq] at h
  |_::_,[],h => by simp [zBq] at h
def zwO:List Sh->List At->Prop
  |[],[] => True
  |.int _::r,.int _::l => zwO r l
  |.bool::r,.bool _::l => zwO r l
  |.str::r,.str _::l => zwO r l
  |.slc::r,.slc _ _ _::l => zwO r l
  |.ptr::r,.ptr _::l => zwO r l
  |.val::r,.val _::l => zwO r l
  |_,_ => False
theorem zhA:∀ {shs:List Sh} {f:List At->Prop},zFP shs f->∀ l,zwO shs l->f l
  |[],f,h,[],_ => h
  |.int _::r,f,h,.int n::l,hf => zhA (h n) l hf
  |.bool::r,f,h,.bool n::l,hf => zhA (h n) l hf
  |.str::r,f,h,.str n::l,hf => zhA (h n) l hf
  |.slc::r,f,h,.slc p n c::l,hf => zhA (h p n c) l hf
  |.ptr::r,f,h,.ptr n::l,hf => zhA (h n) l hf
  |.val::r,f,h,.val n::l,hf => zhA (h n) l hf
  |.bool::_,_,_,.int _::_,hf|.bool::_,_,_,.str _::_,hf|.bool::_,_,_,.slc _ _ _::_,hf|.bool::_,_,_,.ptr _::_,hf|.bool::_,_,_,.val _::_,hf => hf.elim
  |.int _::_,_,_,.bool _::_,hf|.int _::_,_,_,.str _::_,hf|.int _::_,_,_,.slc _ _ _::_,hf|.int _::_,_,_,.ptr _::_,hf|.int _::_,_,_,.val _::_,hf => hf.elim
  |.str::_,_,_,.int _::_,hf|.str::_,_,_,.bool _::_,hf|.str::_,_,_,.slc _ _ _::_,hf|.str::_,_,_,.ptr _::_,hf|.str::_,_,_,.val _::_,hf => hf.elim
  |.slc::_,_,_,.int _::_,hf|.slc::_,_,_,.str _::_,hf|.slc::_,_,_,.bool _::_,hf|.slc::_,_,_,.ptr _::_,hf|.slc::_,_,_,.val _::_,hf => hf.elim
  |.ptr::_,_,_,.int _::_,hf|.ptr::_,_,_,.str _::_,hf|.ptr::_,_,_,.slc _ _ _::_,hf|.ptr::_,_,_,.bool _::_,hf|.ptr::_,_,_,.val _::_,hf => hf.elim
  |.val::_,_,_,.int _::_,hf|.val::_,_,_,.str _::_,hf|.val::_,_,_,.slc _ _ _::_,hf|.val::_,_,_,.ptr _::_,hf|.val::_,_,_,.bool _::_,hf => hf.elim
  |[],_,_,_::_,hf => hf.elim
  |.int _::_,_,_,[],hf|.bool::_,_,_,[],hf|.str::_,_,_,[],hf|.slc::_,_,_,[],hf|.ptr::_,_,_,[],hf|.val::_,_,_,[],hf => hf.elim
theorem zJy {x:Sc (sem P Q)} {s:Sh} {at_:At} (h:x.atom=some (s,at_)):∃ y:Sc (sem P Q),zDU s at_=some y/\y.toV=x.toV/\zcb y=true/\(∀ r l,zwO (s::r) (at_::l)↔zwO r l):=by
  cases x<;>simp [Sc.atom] at h<;>obtain ⟨rfl,rfl⟩:=h<;>exact ⟨_,rfl,rfl,rfl,fun _ _=>Iff.rfl⟩
theorem zsx:∀ {l:List (Sc (sem P Q))} {al:List (Sh×At)},zkt l=some al ->
    ∃ cs:List (Sc (sem P Q)),zbY (al.map (·.1)) (al.map (·.2))=some cs/\cs.map Sc.toV=l.map Sc.toV/\cs.all zcb=true/\zwO (al.map (·.1)) (al.map (·.2))
  |[],al,h => by simp [zkt] at h; subst h; exact ⟨[],rfl,rfl,rfl,trivial⟩
  |x::r,al,h => by
    unfold zkt at h
    split at h
    · rename_i a l' ha hl
      simp only [Option.some.injEq] at h
      subst h
      obtain ⟨s,at_⟩:=a
      obtain ⟨y,hy,hyv,hyn,hfit⟩:=zJy ha
      obtain ⟨cs,hcs,hcv,hcn,hf⟩:=zsx hl
      refine ⟨y::cs,?_,by simp [hyv,hcv],by simp [hyn,hcn],(hfit _ _).2 hf⟩
      simp [zbY,hy,hcs]
    · simp at h
section
variable {cfg:Cfg} {ro:Ro (sem P Q)} {st:St (sem P Q)} {a:Act} {w:World}
theorem zng:∀ {sl:List (Nat×Bool×Nat)} {l:List (Sc (sem P Q))},zpr ro st sl=some l->∀ (cs zau:List (Sc (sem P Q))),(∃ tl,cs=tl++zau/\tl.map Sc.toV=l.map Sc.toV)->cs.all zcb=true ->
    (zd3 sl cs).2=zau/\zaG (zd3 sl cs).1=zaG sl/\∀ i e,(i,e)∈(zd3 sl cs).1->∃ v u,e=some (.one v,none)/\ro.get st i=some (.one u,none)/\v.toV=u.toV/\zaY v=true
  |[],l,h,cs,zau,⟨tl,htl,hv⟩,_ => by
    simp [zpr] at h
    subst h
    have:tl=[]:=by simpa using hv
    subst this
    exact ⟨htl,rfl,fun i e he=>by cases he⟩
  |(i,agg,n)::r,l,h,cs,zau,⟨tl,htl,hv⟩,hcn => by
    unfold zpr at h
    split at h
    · -- one cell
      rename_i x l' hg hr
      simp only [cond_eq_ite] at h
      split at h
      · rename_i hc
        simp only [Bool.and_eq_true,Bool.not_eq_true',Nat.beq_eq] at hc
        obtain ⟨ha,rfl⟩:=hc
        subst ha
        simp only [Option.some.injEq] at h
        subst h
        cases tl with
        |nil => simp at hv
        |cons y tl' =>
          simp only [List.map_cons,List.cons.injEq] at hv
          subst htl
          have hcn':(tl'++zau).all zcb=true:=by
            simp only [List.cons_append,List.all_cons,Bool.and_eq_true] at hcn; exact hcn.2
          have hy:zcb y=true:=by
            simp only [List.cons_append,List.all_cons,Bool.and_eq_true] at hcn; exact hcn.1
          obtain ⟨h1,h2,h3⟩:=zng hr (tl'++zau) zau ⟨tl',rfl,hv.2⟩ hcn'
          have hd:zbE 1 (y::tl'++zau)=tl'++zau:=by rw [zdU]; rfl
          simp only [zd3,hd]
          refine ⟨h1,by simp [zaG] at h2 ⊢; exact h2,fun j e he=>?_⟩
          rcases List.mem_cons.1 he with he|he
          · obtain ⟨rfl,rfl⟩:=Prod.mk.inj he
            exact ⟨.sc y,.sc x,rfl,hg,hv.1,by simp [zaY,SV.cells,hy]⟩
          · exact h3 j e he
      · simp at h
    · -- an aggregate
      rename_i cs0 l' hg hr
      simp only [cond_eq_ite] at h
      split at h
      · rename_i hc
        simp only [Bool.and_eq_true,Nat.beq_eq] at hc
        obtain ⟨ha,rfl⟩:=hc
        subst ha
        simp only [Option.some.injEq] at h
        subst h
        simp only [List.map_append] at hv
        have hlen:cs0.length<=tl.length:=by
          have:=congrArg List.length hv
          simp at this; omega
        subst htl
        have e1:(tl.take cs0.length).map Sc.toV=cs0.map Sc.toV:=by
          rw [List.map_take,hv,List.take_left' (by simp)]
        have e2:(tl.drop cs0.length).map Sc.toV=l'.map Sc.toV:=by
          rw [List.map_drop,hv,List.drop_left' (by simp)]
        have hdr:zbE cs0.length (tl++zau)=tl.drop cs0.length++zau:=by
          rw [zdU,List.drop_append_of_le_length hlen]
        have htk:zd5 cs0.length (tl++zau)=tl.take cs0.length:=by
          rw [zkW,List.take_append_of_le_length hlen]
        have hcn':(tl.drop cs0.length++zau).all zcb=true:=by
          rw [<- hdr,zdU]
          simp only [List.all_eq_true] at *
          intro x hx; exact hcn x (List.mem_of_mem_drop hx)
        obtain ⟨h1,h2,h3⟩:=zng hr (tl.drop cs0.length++zau) zau ⟨tl.drop cs0.length,rfl,e2⟩ hcn'
        simp only [zd3,hdr,htk]
        refine ⟨h1,by simp [zaG] at h2 ⊢; exact h2,fun j e he=>?_⟩
        rcases List.mem_cons.1 he with he|he
        · obtain ⟨rfl,rfl⟩:=Prod.mk.inj he
          refine ⟨.agg (tl.take cs0.length),.agg cs0,rfl,hg,by rw [toV_agg,toV_agg,e1],?_⟩
          simp only [zaY,SV.cells,List.all_eq_true] at *
          intro x hx; exact hcn x (List.mem_append_left _ (List.mem_of_mem_take hx))
        · exact h3 j e he
      · simp at h
    · simp at h
theorem zsm {ro2:Ro (sem P Q)} {st2:St (sem P Q)}:∀ {bl:List (Nat×Nat)} {l:List (Sc (sem P Q))},zmE ro2 st2 bl=some l->(∀ j n,(j,n)∈bl->∃ b,ro.blk st j=some b)->∀ (cs:List (Sc (sem P Q))),cs.map Sc.toV=l.map Sc.toV->cs.all zcb=true ->
    zaG (ze0 ro st bl cs)=zaG bl/\∀ j b',(j,b')∈ze0 ro st bl cs->∃ b b2,ro.blk st j=some b/\ro2.blk st2 j=some b2/\b'.num=b.num/\b'.ty=b.ty/\b'.cells.map Sc.toV=b2.cells.map Sc.toV/\b'.cells.all zcb=true
  |[],l,h,_,cs,hv,hcn => ⟨rfl,fun j b hb => by cases hb⟩
  |(j,n)::r,l,h,hex,cs,hv,hcn => by
    unfold zmE at h
    split at h
    · rename_i b2 l' hb2 hr
      simp only [cond_eq_ite] at h
      split at h
      · rename_i hn
        have hn:n=b2.cells.length:=by simpa using hn
        subst hn
        simp only [Option.some.injEq] at h
        subst h
        obtain ⟨b,hb⟩:=hex j _ (List.mem_cons_self ..)
        simp only [List.map_append] at hv
        have e1:(cs.take b2.cells.length).map Sc.toV=b2.cells.map Sc.toV:=by
          rw [List.map_take,hv,List.take_left' (by simp)]
        have e2:(cs.drop b2.cells.length).map Sc.toV=l'.map Sc.toV:=by
          rw [List.map_drop,hv,List.drop_left' (by simp)]
        have n1:(cs.take b2.cells.length).all zcb=true:=by
          simp only [List.all_eq_true] at *; intro x hx; exact hcn x (List.mem_of_mem_take hx)
        have n2:(cs.drop b2.cells.length).all zcb=true:=by
          simp only [List.all_eq_true] at *; intro x hx; exact hcn x (List.mem_of_mem_drop hx)
        obtain ⟨h1,h2⟩:=zsm hr (fun i m hm=>hex i m (List.mem_cons_of_mem _ hm)) _ e2 n2
        simp only [ze0,hb,zkW,zdU]
        refine ⟨by simp [zaG] at h1 ⊢; exact h1,fun i b' hi=>?_⟩
        rcases List.mem_cons.1 hi with hi|hi
        · obtain ⟨rfl,rfl⟩:=Prod.mk.inj hi
          exact ⟨b,b2,hb,hb2,rfl,rfl,e1,n1⟩
        · exact h2 i b' hi
      · simp at h
    · simp at h
theorem zfC {α:Type}:∀ {l:List (Nat×α)} {i:Nat},zdE l i=none↔i∉zaG l
  |[],i => by simp [zdE,zaG]
  |(k,v)::r,i => by
    unfold zdE
    cases hk:Nat.beq k i
    · have hne:=beqN hk
      have ih:=zfC (l:=r) (i:=i)
      simp only [cond_false,ih,zaG,List.map_cons,List.mem_cons,not_or]
      exact ⟨fun h=>⟨Ne.symm hne,h⟩,fun h=>h.2⟩
    · have:=Nat.eq_of_beq_eq_true hk
      subst this
      simp [zaG]
theorem zkE {α:Type}:∀ (l r:List (Nat×α)) (i:Nat),zdE (l++r) i=match zdE l i with|some x=>some x|none=>zdE r i
  |[],r,i => rfl
  |(k,v)::l,r,i => by
    simp only [List.cons_append,zdE]
    cases hk:Nat.beq k i
    · simp only [cond_false]; exact zkE l r i
    · rfl
theorem zkF {α:Type} (p:Nat->Bool):∀ (l:List (Nat×α)) (i:Nat),zdE (l.filter fun x=>p x.1) i=if p i then zdE l i else none
  |[],i => by simp [zdE]
  |(k,v)::r,i => by
    have ih:=zkF p r i
    simp only [List.filter_cons]
    cases hk:Nat.beq k i
    · have h1:zdE ((k,v)::r) i=zdE r i:=by simp [zdE,hk]
      rw [h1,<- ih]
      split
      · simp [zdE,hk]
      · rfl
    · have:=Nat.eq_of_beq_eq_true hk
      subst this
      cases hp:p k
      · simp only [Bool.false_eq_true,if_false]
        rw [ih,hp]; simp
      · simp [zdE]
theorem zr3 {α:Type} (f:Nat->Option α) (n i:Nat):zdE ((List.range n).filterMap fun j=>(f j).map fun x=>(j,x)) i=if i<n then f i else none:=by
  have key:∀ (l:List Nat),zdE (l.filterMap fun j=>(f j).map fun x=>(j,x)) i=if i∈l then f i else none:=by
    intro l
    induction l with
    |nil => simp [zdE]
    |cons k r ih =>
      simp only [List.filterMap_cons]
      cases hf:f k with
      |none =>
        simp only [Option.map_none,ih,List.mem_cons]
        by_cases h:i=k
        · subst h; simp [hf]
        · simp [h]
      |some x =>
        simp only [Option.map_some,zdE,List.mem_cons]
        by_cases h:k=i
        · subst h; simp [hf]
        · rw [beqF h]; simp only [cond_false,ih,Ne.symm h,false_or]
  rw [key]
  simp
theorem zbh (hw:zb4 ro st w) (j:Nat):zdE (zaX cfg ro st).bl j=ro.blk st j:=by
  unfold zaX zCj
  simp only
  rw [zr3 (fun j=>ro.blk st j)]
  split
  · rfl
  · rename_i h
    cases hb:ro.blk st j with
    |none => rfl
    |some b => exact absurd (hw.lt j b hb) h
theorem zgz {i:Nat} {v:SL (sem P Q)}:zdE (zaX cfg ro st).sl i=some v↔i<cfg.N/\ro.get st i=some (v,none):=by
  have:(zaX cfg ro st).sl=(List.range cfg.N).filterMap fun j=>((match ro.get st j with|some (v,none)=>some v|_=>none):Option (SL (sem P Q))).map fun x=>(j,x):=by
    unfold zaX zy1
    simp only
    congr 1
    funext j
    cases ro.get st j with
    |none => rfl
    |some e => obtain ⟨v,key⟩:=e; cases key<;>rfl
  rw [this,zr3 (fun j=>(match ro.get st j with|some (v,none)=>some v|_=>none))]
  split
  · rename_i h
    cases hg:ro.get st i with
    |none => simp
    |some e =>
      obtain ⟨u,key⟩:=e
      cases key<;>simp [h]
  · rename_i h
    simp [h]
theorem zgg {hv:Hv} {body:Code} {cs:List (Sc (sem P Q))} {wa:World} {j:Nat} {b':Blk (sem P Q)} (hw:zb4 ro st w)
    (hsp:∀ j b',(j,b')∈ze0 ro st hv.blocks (zlA hv body cs).2->∃ b,ro.blk st j=some b/\b'.num=b.num/\b'.ty=b.ty/\b'.cells.all zcb=true)
    (h:(zaX cfg ro st).blk (zaK ro st hv body cs wa) j=some b'):∃ b,ro.blk st j=some b/\b'.num=b.num/\b'.ty=b.ty/\b'.cells.all zcb=true:=by
  unfold Ro.blk at h
  split at h
  · rename_i b1 hb1
    obtain rfl:=Option.some.inj h
    exact hsp j _ (zeo hb1)
  · rw [zbh hw] at h
    exact ⟨b',h,rfl,rfl,hw.nol j b' h⟩
theorem zDe {hv:Hv} {body:Code} {cs:List (Sc (sem P Q))} {wa w':World} (hw:zb4 ro st w)
    (hsp:∀ j b',(j,b')∈ze0 ro st hv.blocks (zlA hv body cs).2->∃ b,ro.blk st j=some b/\b'.num=b.num/\b'.ty=b.ty/\b'.cells.all zcb=true)
    (hbut:But ((zaX cfg ro st).dn (zaK ro st hv body cs wa)) wa w')
    (hbk:∀ j b',(zaX cfg ro st).blk (zaK ro st hv body cs wa) j=some b'->zmv w' b'):zb4 (zaX cfg ro st) (zaK ro st hv body cs wa) w':=by
  refine ⟨hbut,hbk,fun j b h=>?_,fun i j b c h1 h2 hij=>?_,fun j b h hj=>?_,fun j b h=>?_,fun j b b0 h0 h=>?_⟩
  · obtain ⟨b1,hb1,_⟩:=zgg hw hsp h
    exact hw.lt j b1 hb1
  · obtain ⟨b1,hb1,e1,_⟩:=zgg hw hsp h1
    obtain ⟨b2,hb2,e2,_⟩:=zgg hw hsp h2
    rw [e1,e2]
    exact hw.ord i j b1 b2 hb1 hb2 hij
  · obtain ⟨b1,hb1,_⟩:=zgg hw hsp h
    exact absurd (hw.lt j b1 hb1) (Nat.not_lt.2 hj)
  · obtain ⟨b1,hb1,_,_,hn⟩:=zgg hw hsp h
    exact hn
  · obtain ⟨b1,hb1,e1,e2,_⟩:=zgg hw hsp h
    rw [zbh hw,hb1] at h0
    obtain rfl:=Option.some.inj h0
    exact ⟨e1,e2⟩
theorem zzz {hv:Hv} {body:Code} {cs:List (Sc (sem P Q))} {wa:World} {ro2:Ro (sem P Q)} {st2:St (sem P Q)} {i:Nat} {e:Ent (sem P Q)}
    (hsp:∀ i e,(i,e)∈(zd3 hv.slots cs).1->∃ v u,e=some (.one v,none)/\ro2.get st2 i=some (.one u,none)/\v.toV=u.toV/\zaY v=true)
    (h:(zaX cfg ro st).get (zaK ro st hv body cs wa) i=some e) :
    (∃ v u,e=(.one v,none)/\ro2.get st2 i=some (.one u,none)/\v.toV=u.toV/\zaY v=true) \/
    (i∉zaG (zaK ro st hv body cs wa).ov/\∃ v,e=(v,none)/\i<cfg.N/\ro.get st i=some (v,none)):=by
  unfold Ro.get at h
  split at h
  · rename_i e' he
    have hm:=zeo he
    subst h
    have hm':(i,some e)∈(zd3 hv.slots cs).1++(nub (zmf body)).filterMap fun i=>(bif zhg (zaG (zd3 hv.slots cs).1) i then none else some (i,none)):=hm
    rcases List.mem_append.1 hm' with hm|hm
    · obtain ⟨v,u,he,h1,h2,h3⟩:=hsp i _ hm
      exact .inl ⟨v,u,Option.some.inj he,h1,h2,h3⟩
    · simp only [List.mem_filterMap] at hm
      obtain ⟨k,_,hk⟩:=hm
      cases hmem:zhg (zaG (zd3 hv.slots cs).1) k<;>rw [hmem] at hk<;>simp at hk
  · rename_i hn
    cases hl:zdE (zaX cfg ro st).sl i with
    |none => rw [hl] at h; simp at h
    |some v =>
      rw [hl] at h
      simp only [Option.map_some,Option.some.injEq] at h
      obtain ⟨h1,h2⟩:=zgz.1 hl
      exact .inr ⟨zfC.1 hn,v,h.symm,h1,h2⟩
theorem zEE {hv:Hv} {body:Code} {cs:List (Sc (sem P Q))} {wa:World} (hw:zb4 ro st w)
    (hsp:∀ j b',(j,b')∈ze0 ro st hv.blocks (zlA hv body cs).2->∃ b,ro.blk st j=some b/\b'.num=b.num/\b'.ty=b.ty/\b'.cells.all zcb=true) {u:SL (sem P Q)} (h:zk6 ro st u) :
    zk6 (zaX cfg ro st) (zaK ro st hv body cs wa) u:=by
  cases u with
  |one x => cases x with
    |agg l => exact h
    |sc y =>
      cases y with
      |loc j n off =>
        refine ⟨h.1,fun b' hb'=>?_⟩
        obtain ⟨b,hb,e,_⟩:=zgg hw hsp hb'
        rw [e]; exact h.2 b hb
      |_ => trivial
  |tup l => exact h
  |undef => trivial
structure zyR (cfg:Cfg) (ro:Ro (sem P Q)) (st:St (sem P Q)) (hv:Hv) (body:Code) (cs:List (Sc (sem P Q))) (wa:World) (a:Act) (w:World):Prop where
  c:zud cfg (zaX cfg ro st) (zaK ro st hv body cs wa) a
  s:zek (zaX cfg ro st) (zaK ro st hv body cs wa)
  w:zb4 (zaX cfg ro st) (zaK ro st hv body cs wa) w
theorem zIq {hv:Hv} {body:Code} {cs:List (Sc (sem P Q))} {wa w':World} {a':Act} {ro2:Ro (sem P Q)} {st2:St (sem P Q)} {l:List (Sc (sem P Q))} (hw:zb4 ro st w) (hs:zek ro st)
    (hg:zls ro2 st2 hv=some l) (hcv:cs.map Sc.toV=l.map Sc.toV) (hcn:cs.all zcb=true)
    (hc2:zud cfg ro2 st2 a') (hw2:zb4 ro2 st2 w') 
    (hrest:∀ i v,i∉zaG (zaK ro st hv body cs wa).ov->ro.get st i=some (v,none)->i<cfg.N->a'.tmps.getD i undef=v.toV)
    (hex:∀ j n,(j,n)∈hv.blocks->∃ b,ro.blk st j=some b)
    (hnum:∀ j b b2,ro.blk st j=some b->ro2.blk st2 j=some b2->b2.num=b.num/\b2.ty=b.ty)
    (hkeep:∀ j b,j∉zaG hv.blocks->ro.blk st j=some b->ro2.blk st2 j=some b)
    (hbut:But (ro2.dn st2) wa w') (hdirty:∀ j∈st2.dirty,j∈zlz hv st) (hdx:∀ j b2,j∈st2.dirty->ro2.blk st2 j=some b2->∃ b,ro.blk st j=some b) :
    zyR cfg ro st hv body cs wa a' w':=by
  unfold zls at hg
  simp only [Option.bind_eq_some_iff,Option.map_eq_some_iff] at hg
  obtain ⟨ss,hss,bs,hbs,rfl⟩:=hg
  rw [List.map_append] at hcv
  have hlen:ss.length<=cs.length:=by have:=congrArg List.length hcv; simp at this; omega
  have e1:(cs.take ss.length).map Sc.toV=ss.map Sc.toV:=by rw [List.map_take,hcv,List.take_left' (by simp)]
  have e2:(cs.drop ss.length).map Sc.toV=bs.map Sc.toV:=by rw [List.map_drop,hcv,List.drop_left' (by simp)]
  obtain ⟨s1,s2,s3⟩:=zng hss cs (cs.drop ss.length) ⟨cs.take ss.length,(List.take_append_drop _ _).symm,e1⟩ hcn
  have n2:(cs.drop ss.length).all zcb=true:=by
    simp only [List.all_eq_true] at *; intro x hx; exact hcn x (List.mem_of_mem_drop hx)
  have hrest2:(zlA hv body cs).2=cs.drop ss.length:=s1
  obtain ⟨b1,b2⟩:=zsm (ro:=ro) (st:=st) hbs hex _ e2 n2
  have hsp:∀ j b',(j,b')∈ze0 ro st hv.blocks (zlA hv body cs).2->∃ b,ro.blk st j=some b/\b'.num=b.num/\b'.ty=b.ty/\b'.cells.all zcb=true:=by
    intro j b' hm
    rw [hrest2] at hm
    obtain ⟨b,c,h1,h2,h3,h4,h5,h6⟩:=b2 j b' hm
    exact ⟨b,h1,h3,h4,h6⟩
  refine ⟨⟨hc2.size,hc2.defers,fun i e he=>?_⟩,fun i e he=>?_,zDe hw hsp ?_ fun j b' hb'=>?_⟩
  · rcases zzz s3 he with ⟨v,u,rfl,hu,hvu,_⟩|⟨hni,v,rfl,hi,hgv⟩
    · exact ⟨rfl,by have:=(hc2.fr i _ hu).2; show _=v.toV; rw [hvu]; exact this⟩
    · exact ⟨rfl,hrest i v hni hgv hi⟩
  · rcases zzz s3 he with ⟨v,u,rfl,hu,hvu,hn⟩|⟨hni,v,rfl,hi,hgv⟩
    · exact zc3 hn
    · exact zEE hw hsp (hs i _ hgv)
  · refine hbut.mono fun d hd=>?_
    obtain ⟨j,c,hj,hc,rfl⟩:=zka.1 hd
    obtain ⟨b,hb⟩:=hdx j c hj hc
    have hblk:∃ b',(zaX cfg ro st).blk (zaK ro st hv body cs wa) j=some b':=by
      unfold Ro.blk
      split
      · exact ⟨_,rfl⟩
      · rw [zbh hw]; exact ⟨b,hb⟩
    obtain ⟨b',hb'⟩:=hblk
    obtain ⟨b0,hb0,en,_⟩:=zgg hw hsp hb'
    refine zka.2 ⟨j,b',hdirty j hj,hb',?_⟩
    rw [hb] at hb0
    obtain rfl:=Option.some.inj hb0
    rw [en,(hnum j b c hb hc).1]
  · unfold Ro.blk at hb'
    split at hb'
    · rename_i b1' hl
      obtain rfl:=Option.some.inj hb'
      have hm:=zeo hl
      have hm:(j,b1')∈ze0 ro st hv.blocks (zlA hv body cs).2:=hm
      rw [hrest2] at hm
      obtain ⟨b,c,h1,h2,h3,h4,h5,h6⟩:=b2 j b1' hm
      have hc:=hw2.bk j c h2
      obtain ⟨en,et⟩:=hnum j b c h1 h2
      unfold zmv at hc ⊢
      rw [h3,h4,h5,<- en,<- et]
      exact hc
    · rename_i hn
      rw [zbh hw] at hb'
      have hnk:j∉zaG hv.blocks:=by
        have h1:j∉zaG (ze0 ro st hv.blocks (zlA hv body cs).2):=zfC.1 hn
        rw [hrest2,b1] at h1
        exact h1
      exact hw2.bk j b' (hkeep j b' hnk hb')
end
variable {P:Program} {Q:Value->World->Prop}
def zAn:Ex->Exit
  |.normal => .normal
  |.exit id => .exit id
  |.ret => .ret
theorem znL:∀ (sl:List (Nat×Bool×Nat)) (cs:List (Sc (sem P Q))),zaG (zd3 sl cs).1=zaG sl
  |[],cs => rfl
  |(i,agg,n)::r,cs => by
    have ih:=znL r (zbE n cs)
    cases agg<;>cases cs<;>simp only [zd3,zaG,List.map_cons] at ih ⊢<;>rw [<- ih]
theorem zKy {p:Nat->Prop} (h:∃ n,p n):∃ n,p n/\∀ k,p k->n<=k:=by
  obtain ⟨n,hn⟩:=h
  induction n using Nat.strongRecOn with
  |_ n ih =>
    by_cases hl:∃ k,k<n/\p k
    · obtain ⟨k,hk,hp⟩:=hl; exact ih k hk hp
    · exact ⟨n,hn,fun k hk=>Nat.le_of_not_lt fun hlt=>hl ⟨k,hlt,hk⟩⟩
noncomputable def zpx (p:Nat->Prop):Nat:=by
  classical exact if h:∃ n,p n then Classical.choose (zKy h) else 0
theorem znM {p:Nat->Prop} (h:∃ n,p n):p (zpx p)/\∀ k,p k->zpx p<=k:=by
  have:zpx p=Classical.choose (zKy h):=by unfold zpx; simp [h]
  rw [this]; exact Classical.choose_spec (zKy h)
section
variable {cfg:Cfg} {ro:Ro (sem P Q)} {st st':St (sem P Q)} {a a':Act} {w w':World}
theorem zkA:∀ {bl:List (Nat×Nat)} {l:List (Sc (sem P Q))},zmE ro st bl=some l->∀ j n,(j,n)∈bl->∃ b,ro.blk st j=some b
  |[],l,_,j,n,h => by cases h
  |(i,m)::r,l,h,j,n,hm => by
    unfold zmE at h
    split at h
    · rename_i b2 l' hb2 hr
      rcases List.mem_cons.1 hm with hm|hm
      · obtain ⟨rfl,rfl⟩:=Prod.mk.inj hm; exact ⟨b2,hb2⟩
      · exact zkA hr j n hm
    · cases h
theorem zGx (hw:zb4 ro st w) (j:Nat):ro.blk (zbI st st') j=(zaX cfg ro st).blk st' j:=by
  unfold Ro.blk
  rw [zbh hw]
  unfold zbI
  simp only [zkE,zkF (fun i=>!zhg (zaG st'.bl) i)]
  cases hl:zdE st'.bl j with
  |some b => rfl
  |none =>
    have:zhg (zaG st'.bl) j=false:=by
      cases hm:zhg (zaG st'.bl) j
      · rfl
      · exact absurd ((zcG _ _).1 hm) (zfC.1 hl)
    simp only [this,Bool.not_false,if_true]
    unfold Ro.blk
    split<;>rfl
theorem zzu {i:Nat} {e:Ent (sem P Q)} (hc0:zud cfg ro st a) (h:ro.get (zbI st st') i=some e) :
    (zaX cfg ro st).get st' i=some e\/(¬ i<cfg.N/\ro.get st i=some e):=by
  have hcase:zdE st'.ov i=some (some e)\/(zdE st'.ov i=none/\ro.get st i=some e):=by
    unfold Ro.get zbI at h
    simp only [zkE,zkF (fun i=>!zhg (zaG st'.ov) i)] at h
    cases hl:zdE st'.ov i with
    |some x => rw [hl] at h; simp only at h; exact .inl (by rw [h])
    |none =>
      rw [hl] at h
      have:zhg (zaG st'.ov) i=false:=by
        cases hm:zhg (zaG st'.ov) i
        · rfl
        · exact absurd ((zcG _ _).1 hm) (zfC.1 hl)
      simp only [this,Bool.not_false,if_true] at h
      refine .inr ⟨rfl,?_⟩
      unfold Ro.get
      exact h
  rcases hcase with hl|⟨hl,hg⟩
  · refine .inl ?_
    unfold Ro.get; rw [hl]
  · by_cases hi:i<cfg.N
    · refine .inl ?_
      unfold Ro.get; rw [hl]
      obtain ⟨v,key⟩:=e
      have hk:=(hc0.fr i _ hg).1
      simp only at hk
      subst hk
      simp only
      rw [zgz.2 ⟨hi,hg⟩]; rfl
    · exact .inr ⟨hi,hg⟩
theorem zp0 {i:Nat} (hs:a.tmps.size=cfg.N) (hi:¬ i<cfg.N):a.tmps.getD i undef=undef:=by
  unfold Array.getD; rw [dif_neg (by omega)]
theorem zmB (hc0:zud cfg ro st a) (hs0:zek ro st) (hw0:zb4 ro st w) (hc:zud cfg (zaX cfg ro st) st' a') (hs:zek (zaX cfg ro st) st') (hw:zb4 (zaX cfg ro st) st' w') :
    zud cfg ro (zbI st st') a'/\zek ro (zbI st st')/\zb4 ro (zbI st st') w':=by
  have hb:∀ j,ro.blk (zbI st st') j=(zaX cfg ro st).blk st' j:=zGx hw0
  refine ⟨⟨hc.size,hc.defers,fun i e he=>?_⟩,fun i e he=>?_,?_⟩
  · rcases zzu hc0 he with h|⟨hi,h⟩
    · exact hc.fr i e h
    · obtain ⟨h1,h2⟩:=hc0.fr i e h
      refine ⟨h1,?_⟩
      rw [<- h2,zp0 hc.size hi,zp0 hc0.size hi]
  · have key:∀ u,zk6 (zaX cfg ro st) st' u->zk6 ro (zbI st st') u:=by
      intro u hu
      cases u with
      |one v =>
        cases v with
        |agg l => exact hu
        |sc x =>
          cases x with
          |loc j n off => exact ⟨hu.1,fun b hbb => hu.2 b (by rw [<- hb]; exact hbb)⟩
          |_ => trivial
      |tup l => exact hu
      |undef => trivial
    rcases zzu hc0 he with h|⟨hi,h⟩
    · exact key _ (hs i e h)
    · obtain ⟨h1,h2⟩:=hc0.fr i e h
      rw [zp0 hc0.size hi] at h2
      have h3:=hs0 i e h
      revert h2 h3
      generalize e.1=u
      intro h2 h3
      cases u with
      |one v =>
        cases v with
        |agg l => exact h3
        |sc x =>
          cases x with
          |loc j n off => exact absurd h2 (by simp [SL.toV,SV.toV,Sc.toV,undef])
          |_ => trivial
      |tup l => exact h3
      |undef => trivial
  · have hdn:ro.dn (zbI st st')=(zaX cfg ro st).dn st':=by
      unfold Ro.dn
      have:(zbI st st').dirty=st'.dirty:=rfl
      rw [this]; congr 1; funext j; rw [hb]
    refine ⟨by rw [hdn]; exact hw.but,fun j b h=>hw.bk j b (by rw [<- hb]; exact h),fun j b h=>hw.lt j b (by rw [<- hb]; exact h),
      fun i j b c h1 h2=>hw.ord i j b c (by rw [<- hb]; exact h1) (by rw [<- hb]; exact h2),fun j b h=>hw.ax j b (by rw [<- hb]; exact h),fun j b h=>hw.nol j b (by rw [<- hb]; exact h),fun j b b0 h0 h=>?_⟩
    have h1:∃ b1,ro.blk st j=some b1:=by
      unfold Ro.blk
      cases hl:zdE st.bl j with
      |some x => exact ⟨x,rfl⟩
      |none => exact ⟨b0,h0⟩
    obtain ⟨b1,h1⟩:=h1
    obtain ⟨e1,e2⟩:=hw0.same j b1 b0 h0 h1
    obtain ⟨e3,e4⟩:=hw.same j b b1 (by rw [zbh hw0]; exact h1) (by rw [<- hb]; exact h)
    exact ⟨by rw [e3,e1],by rw [e4,e2]⟩
theorem zo3 {hv:Hv} {body:Code} {cs:List (Sc (sem P Q))} {wa:World} {shs:List Sh} {vs:List At} (hc0:zud cfg ro st a) (hs0:zek ro st) (hw0:zb4 ro st w) (hex:∀ j n,(j,n)∈hv.blocks->∃ b,ro.blk st j=some b)
    (h:zox hv st (zaK ro st hv body cs wa) shs (zaX cfg ro st) st'=some vs)
    (hc:zud cfg (zaX cfg ro st) st' a') (hs:zek (zaX cfg ro st) st') (hw:zb4 (zaX cfg ro st) st' w') :
    ∃ cs',zwO shs vs/\zbY shs vs=some cs'/\zyR cfg ro st hv body cs' st'.anchor a' w':=by
  unfold zox at h
  simp only [Option.bind_eq_some_iff,cond_eq_ite] at h
  obtain ⟨l,hl,al,hal,h⟩:=h
  split at h
  · rename_i hchk
    obtain rfl:=Option.some.inj h
    simp only [Bool.and_eq_true,List.all_eq_true,Bool.or_eq_true] at hchk
    obtain ⟨⟨⟨k1,k2⟩,k3⟩,k4⟩:=hchk
    have k1:=zAg k1
    subst k1
    obtain ⟨cs',e1,e2,e3,e4⟩:=zsx hal
    have hkeys:∀ cs₂ wa₂,zaG (zaK ro st hv body cs₂ wa₂).ov=zaG (zaK ro st hv body cs wa).ov:=by
      intro cs₂ wa₂
      have:∀ c,zaG (zd3 hv.slots c).1=zaG hv.slots:=znL (P:=P) (Q:=Q) hv.slots
      unfold zaK zlA
      simp only [zaG,List.map_append] at this ⊢
      rw [this,this]
    have hnot:∀ j,j<st.nx->j∉zaG hv.blocks->zdE st'.bl j=none:=by
      intro j hj hn
      rw [zfC]
      intro hm
      simp only [zaG,List.mem_map] at hm
      obtain ⟨x,hx,rfl⟩:=hm
      rcases k2 x hx with h|h
      · exact absurd (Nat.le_of_ble_eq_true h) (by omega)
      · exact hn ((zcG _ _).1 h)
    refine ⟨cs',e4,e1,zIq (ro2:=zaX cfg ro st) (st2:=st') hw0 hs0 hl e2 e3 hc hw ?_ hex ?_ ?_ hw.but ?_ ?_⟩
    · intro i v hi hg hN
      rw [hkeys] at hi
      have hn:zdE st'.ov i=none:=by
        rw [zfC]
        intro hm
        simp only [zaG,List.mem_map] at hm
        obtain ⟨x,hx,rfl⟩:=hm
        exact hi ((zcG _ _).1 (k3 x hx))
      exact (hc.fr i (v,none) (by unfold Ro.get; rw [hn]; simp only; rw [zgz.2 ⟨hN,hg⟩]; rfl)).2
    · intro j b b2 h1 h2
      exact hw.same j b2 b (by rw [zbh hw0]; exact h1) h2
    · intro j b hj hb
      unfold Ro.blk
      rw [hnot j (hw0.lt j b hb) hj]
      simp only
      rw [zbh hw0]; exact hb
    · intro j hj
      exact (zcG _ _).1 (k4 j hj).1
    · intro j b2 hj hb2
      have hlt:j<st.nx:=by have:=(k4 j hj).2; simp [Nat.blt] at this; omega
      by_cases hk:j∈zaG hv.blocks
      · simp only [zaG,List.mem_map] at hk
        obtain ⟨x,hx,rfl⟩:=hk
        exact hex x.1 x.2 hx
      · unfold Ro.blk at hb2
        rw [hnot j hlt hk] at hb2
        simp only at hb2
        rw [zbh hw0] at hb2
        exact ⟨b2,hb2⟩
  · cases h
theorem zsK {hv:Hv} {body:Code} {al:List (Sh×At)} (hc:zud cfg ro st a) (hs:zek ro st) (hw:zb4 ro st w) (h:(zls ro st hv).bind zkt=some al) :
    ∃ cs l0,zls ro st hv=some l0/\zwO (al.map (·.1)) (al.map (·.2))/\zbY (al.map (·.1)) (al.map (·.2))=some cs/\zyR cfg ro st hv body cs st.anchor a w:=by
  simp only [Option.bind_eq_some_iff] at h
  obtain ⟨l,hl,hal⟩:=h
  obtain ⟨cs,e1,e2,e3,e4⟩:=zsx hal
  have hex:∀ j n,(j,n)∈hv.blocks->∃ b,ro.blk st j=some b:=by
    have hg0:=hl
    unfold zls at hg0
    simp only [Option.bind_eq_some_iff,Option.map_eq_some_iff] at hg0
    obtain ⟨ss,_,bs,hbs,_⟩:=hg0
    exact zkA hbs
  refine ⟨cs,l,hl,e4,e1,zIq (ro2:=ro) (st2:=st) hw hs hl e2 e3 hc hw ?_ hex ?_ ?_ hw.but ?_ ?_⟩
  · intro i v _ hg _
    exact (hc.fr i _ hg).2
  · intro j b b2 h1 h2
    rw [h1] at h2; obtain rfl:=Option.some.inj h2; exact ⟨rfl,rfl⟩
  · intro j b _ hb; exact hb
  · intro j hj; unfold zlz; exact List.mem_append_right _ hj
  · intro j b2 _ hb2; exact ⟨b2,hb2⟩
end
theorem zA2 {ro:Ro (sem P Q)} {st:St (sem P Q)} {hv:Hv} {l0:List (Sc (sem P Q))} (hg0:zls ro st hv=some l0):∀ j n,(j,n)∈hv.blocks->∃ b,ro.blk st j=some b:=by
  unfold zls at hg0
  simp only [Option.bind_eq_some_iff,Option.map_eq_some_iff] at hg0
  obtain ⟨ss,_,bs,hbs,_⟩:=hg0
  exact zkA hbs
theorem zhI:∀ {shs:List Sh} {l:List At},zwO shs l->shs.length=l.length
  |[],[],_ => rfl
  |.int _::r,.int _::l,h|.bool::r,.bool _::l,h|.str::r,.str _::l,h|.slc::r,.slc _ _ _::l,h|.ptr::r,.ptr _::l,h|.val::r,.val _::l,h => by
    simp only [zwO] at h
    simp [zhI h]
  |.bool::_,.int _::_,hf|.bool::_,.str _::_,hf|.bool::_,.slc _ _ _::_,hf|.bool::_,.ptr _::_,hf|.bool::_,.val _::_,hf => hf.elim
  |.int _::_,.bool _::_,hf|.int _::_,.str _::_,hf|.int _::_,.slc _ _ _::_,hf|.int _::_,.ptr _::_,hf|.int _::_,.val _::_,hf => hf.elim
  |.str::_,.int _::_,hf|.str::_,.bool _::_,hf|.str::_,.slc _ _ _::_,hf|.str::_,.ptr _::_,hf|.str::_,.val _::_,hf => hf.elim
  |.slc::_,.int _::_,hf|.slc::_,.str _::_,hf|.slc::_,.bool _::_,hf|.slc::_,.ptr _::_,hf|.slc::_,.val _::_,hf => hf.elim
  |.ptr::_,.int _::_,hf|.ptr::_,.str _::_,hf|.ptr::_,.slc _ _ _::_,hf|.ptr::_,.bool _::_,hf|.ptr::_,.val _::_,hf => hf.elim
  |.val::_,.int _::_,hf|.val::_,.str _::_,hf|.val::_,.slc _ _ _::_,hf|.val::_,.ptr _::_,hf|.val::_,.bool _::_,hf => hf.elim
  |[],_::_,hf => hf.elim
  |.int _::_,[],hf|.bool::_,[],hf|.str::_,[],hf|.slc::_,[],hf|.ptr::_,[],hf|.val::_,[],hf => hf.elim
theorem ze8 {w:World}:∀ {shs:List Sh} {I:zBU shs Prop} {l:List At},zop False shs I l w->shs.length=l.length
  |[],I,[],_ => rfl
  |.int _::r,I,.int _::l,h => by simp only [zop] at h; simp [ze8 h]
  |.bool::r,I,.bool _::l,h => by simp only [zop] at h; simp [ze8 h]
  |.str::r,I,.str _::l,h => by simp only [zop] at h; simp [ze8 h]
  |.slc::r,I,.slc _ _ _::l,h => by simp only [zop] at h; simp [ze8 h]
  |.ptr::r,I,.ptr _::l,h => by simp only [zop] at h; simp [ze8 h]
  |.val::r,I,.val _::l,h => by simp only [zop] at h; simp [ze8 h]
  |.bool::_,_,.int _::_,hf|.bool::_,_,.str _::_,hf|.bool::_,_,.slc _ _ _::_,hf|.bool::_,_,.ptr _::_,hf|.bool::_,_,.val _::_,hf => hf.elim
  |.int _::_,_,.bool _::_,hf|.int _::_,_,.str _::_,hf|.int _::_,_,.slc _ _ _::_,hf|.int _::_,_,.ptr _::_,hf|.int _::_,_,.val _::_,hf => hf.elim
  |.str::_,_,.int _::_,hf|.str::_,_,.bool _::_,hf|.str::_,_,.slc _ _ _::_,hf|.str::_,_,.ptr _::_,hf|.str::_,_,.val _::_,hf => hf.elim
  |.slc::_,_,.int _::_,hf|.slc::_,_,.str _::_,hf|.slc::_,_,.bool _::_,hf|.slc::_,_,.ptr _::_,hf|.slc::_,_,.val _::_,hf => hf.elim
  |.ptr::_,_,.int _::_,hf|.ptr::_,_,.str _::_,hf|.ptr::_,_,.slc _ _ _::_,hf|.ptr::_,_,.bool _::_,hf|.ptr::_,_,.val _::_,hf => hf.elim
  |.val::_,_,.int _::_,hf|.val::_,_,.str _::_,hf|.val::_,_,.slc _ _ _::_,hf|.val::_,_,.ptr _::_,hf|.val::_,_,.bool _::_,hf => hf.elim
  |[],_,_::_,hf => hf.elim
  |.int _::_,_,[],hf|.bool::_,_,[],hf|.str::_,_,[],hf|.slc::_,_,[],hf|.ptr::_,_,[],hf|.val::_,_,[],hf => hf.elim
theorem zDC {shs:List (String×Sh)} {init:List At} {w:World} {body:(List At->World->Prop)->List At->World->Prop} (h:(sem P Q).loop shs init w body) :
    ∃ shs':List Sh,shs'=shs.map (·.2)/\∃ (I:zBU shs' Prop) (M:zBU shs' Nat),zop False shs' I init w /\
      zFP shs' fun vs=>∀ w':World,zop False shs' I vs w'->body (fun vs' w''=>zop False shs' I vs' w''/\zop 0 shs' M vs' w''<zop 0 shs' M vs w') vs w':=⟨_,rfl,h⟩
theorem zuY {shs:List (String×Sh)} {br:(List At->World->Prop)->Prop} {body:List At->World->Prop} (h:(sem P Q).join shs br body) :
    ∃ shs':List Sh,shs'=shs.map (·.2)/\∃ (I:zBU shs' Prop),br (fun vs w=>zop False shs' I vs w)/\zFP shs' fun vs=>∀ w':World,zop False shs' I vs w'->body vs w':=⟨_,rfl,h⟩
theorem zyN {α:Type} {names:List α} {shs l:List Sh} (h:l=(List.zip names shs).map (·.2)) (hl:l.length=shs.length):l=shs:=by
  subst h
  induction shs generalizing names with
  |nil => simp
  |cons s r ih =>
    cases names with
    |nil => simp at hl
    |cons n ns =>
      simp only [List.zip_cons_cons,List.map_cons,List.length_cons,Nat.add_right_cancel_iff] at hl ⊢
      rw [ih hl]
theorem ziY {ops:Array Oper} {kd:Oper->Kd} {Qx:Exit->Act->World->Prop}:∀ (l:List Nat) (C:World->Prop) (a:Act) (w:World),zjS P ops kd (Qx .normal) (.chain l) C a->C w->wpOps P ops Qx l a w
  |[],C,a,w,h,hw => h w hw
  |i::l,C,a,w,h,hw => by
    simp only [DT.chain,zjS] at h
    simp only [wpOps]
    split at h
    · rename_i ho
      simp only [ho]
      exact ziY l C a w h hw
    · rename_i o ho
      simp only [ho]
      split at h
      · rename_i hwant
        rw [if_pos hwant]
        refine .inl ?_
        rcases h with ⟨v,hv,hc⟩|⟨_,h⟩
        · have hg:=hv w (.inr hw)
          unfold zbg at hg
          unfold Oper.wp
          rw [hg]
          exact ziY l C _ w hc hw
        · refine Oper.wp_mono (fun a' w' hk=>?_) (zE7 (h w hw))
          obtain ⟨v,_,C',hC',_,hc⟩:=hk
          exact ziY l C' a' w' hc hC'
      · rename_i hwant
        rw [if_neg hwant]
        exact ziY l C _ w h hw
theorem zAS {cfg:Cfg} {ops:Array Oper} {t:DT} (h:zJU P cfg ops=some t):P.follows .mixedOrders=true/\(∀ (j:Nat) (o:Oper) cs b,ops[j]?=some o->o.op≠.select cs b)/\(∀ (j:Nat) (o:Oper),ops[j]?=some o->∀ e∈o.after,e.on<ops.size)/\okD .any ops (kdD P cfg true) ops.size false t (List.range ops.size)=true:=by
  unfold zJU at h
  simp only [cond_eq_ite] at h
  split at h
  · rename_i hc
    obtain rfl:=Option.some.inj h
    simp only [Bool.and_eq_true,List.all_eq_true] at hc
    obtain ⟨⟨⟨h1,h2⟩,h3⟩,h4⟩:=hc
    refine ⟨h1,Region.noSelect_spec h2,fun j o ho e he=>?_,h4⟩
    have:=h3 o (by have:=(Array.getElem?_eq_some_iff.1 ho); obtain ⟨hl,hv⟩:=this; rw [<- hv]; simp) e (by simpa using he)
    simp [Nat.blt] at this; omega
  · cases h
theorem zva {md:Region.Mode} {ops:Array Oper}:Lst md ops (List.range ops.size) (Array.replicate ops.size false):=by
  refine ⟨by simp,fun k hk=>?_,fun k hk=>List.mem_range.1 hk,fun k o ho hn=>?_⟩
  · simp [Array.getD,hk]
  · exact absurd (List.mem_range.2 (Array.getElem?_eq_some_iff.1 ho).1) hn
theorem zse {ro:Ro (sem P Q)} {st:St (sem P Q)} {w:World} {n:Nat} (hw:zb4 ro st w):zb4 ro st { w with drawn:=n } :=
  ⟨⟨hw.but.os,hw.but.tape,hw.but.output,hw.but.size,hw.but.block⟩,hw.bk,hw.lt,hw.ord,hw.ax,hw.nol,hw.same⟩
theorem sx_ok {cfg:Cfg}:∀ (c:Code) (ro:Ro (sem P Q)) (st:St (sem P Q)) (k:Ex->St (sem P Q)->Prop) (Qx:Exit->Act->World->Prop) (a:Act) (w:World),sx (A:=sem P Q) P cfg c ro st k->zud cfg ro st a->zek ro st->zb4 ro st w ->
    (∀ e st' a' w',k e st'->zud cfg ro st' a'->zek ro st'->zb4 ro st' w'->Qx (zAn e) a' w')->c.wp P Qx a w:=by
  intro c
  induction c with
  |skip => exact fun ro st k Qx a w h hc hs hw hk => wp_skip (hk .normal st a w h hc hs hw)
  |label _ => exact fun ro st k Qx a w h hc hs hw hk => wp_label (hk .normal st a w h hc hs hw)
  |exit id => exact fun ro st k Qx a w h hc hs hw hk => wp_exit (hk (.exit id) st a w h hc hs hw)
  |ret => exact fun ro st k Qx a w h hc hs hw hk => wp_ret (hk .ret st a w h hc hs hw)
  |seq x y ihx ihy =>
    intro ro st k Qx a w h hc hs hw hk
    refine wp_seq (ihx ro st _ _ a w h hc hs hw ?_)
    intro e st' a' w' h' hc' hs' hw'
    cases e with
    |normal => exact ihy ro st' k Qx a' w' h' hc' hs' hw' hk
    |exit id => exact hk (.exit id) st' a' w' h' hc' hs' hw'
    |ret => exact hk .ret st' a' w' h' hc' hs' hw'
  |cond b x y ihx ihy =>
    intro ro st k Qx a w h hc hs hw hk
    unfold sx at h
    split at h
    · rename_i t ht
      have hev:a.eval b=.bool t.den:=by
        have:=zHk (ops:=#[]) (cur:=none) hc.relF (fun c hc=>by cases hc) b _ (sc?_some ht)
        simpa [SL.toV,SV.toV,Sc.toV] using this
      split at h
      · exact wp_cond hev (by simp only [BE.den]; exact ihx ro st k Qx a w h hc hs hw hk)
      · exact wp_cond hev (by simp only [BE.den]; exact ihy ro st k Qx a w h hc hs hw hk)
      · obtain ⟨h1,h2⟩:=h
        refine wp_cond_split hev (fun hd=>?_) (fun hd=>?_)
        · exact ihx ro st k Qx a w (h1 (by rw [zeB,hd])) hc hs hw hk
        · exact ihy ro st k Qx a w (h2 (by rw [zeB,zdr,hd]; rfl)) hc hs hw hk
    · exact h.elim
  |block id x ih =>
    intro ro st k Qx a w h hc hs hw hk
    unfold sx at h
    split at h
    · refine wp_block (ih ro st _ _ a w h hc hs hw ?_)
      intro e st' a' w' h' hc' hs' hw'
      cases e with
      |normal => exact hk .normal st' a' w' h' hc' hs' hw'
      |exit i =>
        simp only [zId,cond_eq_ite] at h'
        simp only [zAn,Exit.inBlock]
        split at h'
        · rename_i hi
          have hi:=Nat.eq_of_beq_eq_true hi
          rw [if_pos hi]; exact hk .normal st' a' w' h' hc' hs' hw'
        · rename_i hi
          have hi:¬ i=id:=fun he=>hi (by rw [he]; exact Nat.beq_refl _)
          rw [if_neg hi]; exact hk (.exit i) st' a' w' h' hc' hs' hw'
      |ret => exact hk .ret st' a' w' h' hc' hs' hw'
    · rename_i l hl
      simp only [cond_eq_ite] at h
      split at h
      · exact h.elim
      · rename_i hchk
        simp only [Bool.not_eq_true',Bool.not_eq_false,Bool.and_eq_true,List.all_eq_true] at hchk
        generalize hhv:zDi (A:=sem P Q) P ro st l (zrf x)=hv at h hchk
        generalize hshs:zGM (A:=sem P Q) P ro st hv (zrf x).toArray=shs at h
        obtain ⟨shs',hz,I,hbr,hbody⟩:=zuY (P:=P) (Q:=Q) (shs:=List.zip (zmI cfg hv) shs)
          (br:=fun leave=>sx (A:=sem P Q) P cfg x (zaX cfg ro st) (zaK ro st ⟨[],[]⟩ .skip [] st.anchor) (zCs (A:=sem P Q) cfg ro st hv x shs id leave k))
          (body:=fun vars w=>zsb (A:=sem P Q) (fun cs=>k .normal (zbI st (zaK ro st hv x cs w))) (zbY shs vars)) h
        have hex:∀ j n,(j,n)∈hv.blocks->∃ b,ro.blk st j=some b:=fun j n hm=>by
          have:=hchk.2 (j,n) hm
          cases hb:ro.blk st j with
          |some b => exact ⟨b,rfl⟩
          |none => simp [hb] at this
        obtain ⟨cs0,l0,hg0,hf0,ho0,hh0⟩:=zsK (hv:=⟨[],[]⟩) (body:=.skip) (al:=[]) hc hs hw rfl
        have hcs0:cs0=[]:=by
          have:zbY (A:=sem P Q) [] []=some cs0:=ho0
          simp [zbY] at this; exact this
        subst hcs0
        have hjoin : ∀ (st' : St (sem P Q)) (a' : Act) (w' : World), zxD (A := sem P Q) cfg ro st hv x shs "block back" (fun vs w => zop False shs' I vs w) st' -> zud cfg (zaX cfg ro st) st' a' -> zek (zaX cfg ro st) st' -> zb4 (zaX cfg ro st) st' w' -> Qx .normal a' w' := by
          intro st' a' w' h' hc' hs' hw'
          unfold zxD at h'
          split at h'
          · rename_i vs hback
            have hsz:shs'=shs:=by
              refine zyN hz ?_
              obtain ⟨cs',hf',ho',hh'⟩:=zo3 hc hs hw hex hback hc' hs' hw'
              exact (ze8 h').trans (zhI hf').symm
            subst hsz
            obtain ⟨cs',hf',ho',hh'⟩:=zo3 hc hs hw hex hback hc' hs' hw'
            have hb:=zhA hbody vs hf' _ h'
            rw [ho'] at hb
            obtain ⟨e1,e2,e3⟩:=zmB hc hs hw hh'.c hh'.s hh'.w
            exact hk .normal _ a' w' hb e1 e2 e3
          · exact h'.elim
        refine wp_block (ih _ _ _ _ a w hbr hh0.c hh0.s hh0.w ?_)
        intro e st' a' w' h' hc' hs' hw'
        cases e with
        |normal => exact hjoin st' a' w' h' hc' hs' hw'
        |exit i =>
          simp only [zCs,cond_eq_ite] at h'
          simp only [zAn,Exit.inBlock]
          split at h'
          · rename_i hi
            have hi:=Nat.eq_of_beq_eq_true hi
            rw [if_pos hi]; exact hjoin st' a' w' h' hc' hs' hw'
          · rename_i hi
            have hi:¬ i=id:=fun he=>hi (by rw [he]; exact Nat.beq_refl _)
            rw [if_neg hi]
            obtain ⟨e1,e2,e3⟩:=zmB hc hs hw hc' hs' hw'
            exact hk (.exit i) _ a' w' h' e1 e2 e3
        |ret =>
          obtain ⟨e1,e2,e3⟩:=zmB hc hs hw hc' hs' hw'
          exact hk .ret _ a' w' h' e1 e2 e3
  |region id ops draw =>
    intro ro st k Qx a w h hc hs hw hk
    unfold sx at h
    cases draw with
    |true =>
      simp only [cond_true] at h
      split at h
      · rename_i t ht
        obtain ⟨hm,hsel,hin,hok⟩:=zAS ht
        simp only [cond_eq_ite] at h
        split at h
        · split at h
          · exact h.elim
          · rename_i hchk
            simp only [Bool.not_eq_true',Bool.not_eq_false,Bool.and_eq_true,List.all_eq_true] at hchk
            generalize hshs:zGM (A:=sem P Q) P ro st (zrW P cfg ro st ops) ops=shs at h
            obtain ⟨shs',hz,I,hbr,hbody⟩:=zuY (P:=P) (Q:=Q) (shs:=List.zip (zmI cfg (zrW P cfg ro st ops)) shs)
              (br:=fun leave=>zha (A:=sem P Q) P cfg true ops (zaX cfg ro st) (4*ops.size+4+ops.size*ops.size) t (zaK ro st ⟨[],[]⟩ .skip [] st.anchor)
                (zxD (A := sem P Q) cfg ro st (zrW P cfg ro st ops) (.region id ops true) shs ("join back " ++ match ops[0]? with | some o => o.pos | none => "") leave))
              (body:=fun vars w=>zsb (A:=sem P Q) (fun cs=>k .normal (zbI st (zaK ro st (zrW P cfg ro st ops) (.region id ops true) cs w))) (zbY shs vars)) h
            have hex:∀ j n,(j,n)∈(zrW P cfg ro st ops).blocks->∃ b,ro.blk st j=some b:=fun j n hm=>by
              have:=hchk.2 (j,n) hm
              cases hb:ro.blk st j with
              |some b => exact ⟨b,rfl⟩
              |none => simp [hb] at this
            obtain ⟨cs0,l0,hg0,hf0,ho0,hh0⟩:=zsK (hv:=⟨[],[]⟩) (body:=.skip) (al:=[]) hc hs hw rfl
            have hcs0:cs0=[]:=by
              have:zbY (A:=sem P Q) [] []=some cs0:=ho0
              simp [zbY] at this; exact this
            subst hcs0
            refine wp_region_any hm (zo8 (kd:=kdD P cfg true) (n:=ops.size) hsel hin ops.size t _ _ (zb4 (zaX cfg ro st) (zaK ro st ⟨[],[]⟩ .skip [] st.anchor)) a _ (by simp) List.nodup_range hok zva ?_ (zse hh0.w))
            refine zcP _ _ _ a _ hbr hh0.c.relF hh0.s ⟨_,hh0.w⟩ fun st' a' h' hc' hs' w' hw'=>?_
            unfold zxD at h'
            split at h'
            · rename_i vs hback
              have hsz:shs'=shs:=by
                refine zyN hz ?_
                obtain ⟨cs',hf',ho',hh'⟩:=zo3 hc hs hw hex hback hc' hs' hw'
                exact (ze8 h').trans (zhI hf').symm
              subst hsz
              obtain ⟨cs',hf',ho',hh'⟩:=zo3 hc hs hw hex hback hc' hs' hw'
              have hb:=zhA hbody vs hf' _ h'
              rw [ho'] at hb
              obtain ⟨e1,e2,e3⟩:=zmB hc hs hw hh'.c hh'.s hh'.w
              exact hk .normal _ a' w' hb e1 e2 e3
            · exact h'.elim
        · refine wp_region_any hm (zo8 (kd:=kdD P cfg true) (n:=ops.size) hsel hin ops.size t _ _ (zb4 ro st) a _ (by simp) List.nodup_range hok zva ?_ (zse hw))
          exact zcP _ _ st a _ h hc.relF hs ⟨_,hw⟩ fun st' a' h' hc' hs' w' hw'=>hk .normal st' a' w' h' hc' hs' hw'
      · exact h.elim
    |false =>
      simp only [cond_false] at h
      refine wp_region (ziY (kd:=kdD P cfg false) _ (zb4 ro st) a w ?_ hw)
      exact zcP _ _ st a _ h hc.relF hs ⟨_,hw⟩ fun st' a' h' hc' hs' w' hw'=>hk .normal st' a' w' h' hc' hs' hw'
  |loop body ih =>
    intro ro st k Qx a w h hc hs hw hk
    unfold sx at h
    simp only at h
    split at h
    · exact h.elim
    · rename_i al hal
      simp only [cond_eq_ite] at h
      split at h
      · exact h.elim
      · rename_i hdup
        generalize hshs:al.map (·.1)=shs at h
        obtain ⟨cs0,l0,hg0,hf0,ho0,hh0⟩:=zsK (body:=body) hc hs hw hal
        rw [hshs] at hf0 ho0
        obtain ⟨shs',hz,I,M,hI,hbody⟩:=zDC (P:=P) (Q:=Q) (shs:=List.zip (zmI cfg (hvOf ro st body)) shs) (init:=al.map (·.2)) (w:=st.anchor) (body:=fun back vars w=>zsb (A:=sem P Q) (fun cs=>sx (A:=sem P Q) P cfg body (zaX cfg ro st) (zaK ro st (hvOf ro st body) body cs w) (zEo (A:=sem P Q) cfg ro st (hvOf ro st body) body shs cs w back k)) (zbY shs vars)) h
        have hsz:shs'=shs:=by
          refine zyN hz ?_
          exact (ze8 hI).trans (zhI hf0).symm
        subst hsz
        let Pn (a':Act) (w':World) (n:Nat):Prop:=∃ (vs:List At) (wa:World) (cs:List (Sc (sem P Q))),zwO shs' vs/\zbY shs' vs=some cs/\zop False shs' I vs wa/\zyR cfg ro st (hvOf ro st body) body cs wa a' w'/\zop 0 shs' M vs wa=n
        refine wp_loop (fun a' w'=>∃ n,Pn a' w' n) (fun a' w'=>zpx (Pn a' w')) ⟨_,_,_,cs0,hf0,ho0,hI,hh0,rfl⟩ ?_
        intro a1 w1 hex
        obtain ⟨⟨vs,wa,cs,hf,ho,hIv,hhd,hm⟩,hmin⟩:=znM hex
        have hb:=zhA hbody vs hf wa hIv
        rw [ho] at hb
        refine ih _ _ _ _ a1 w1 hb hhd.c hhd.s hhd.w ?_
        intro e st' a' w' h' hc' hs' hw'
        cases e with
        |normal =>
          simp only [zEo] at h'
          split at h'
          · rename_i vs' hback
            obtain ⟨cs',hf',ho',hh'⟩:=zo3 hc hs hw (zA2 hg0) hback hc' hs' hw'
            simp only [zAn,Exit.then]
            have hPn:Pn a' w' (zop 0 shs' M vs' st'.anchor):=⟨vs',_,cs',hf',ho',h'.1,hh',rfl⟩
            refine ⟨⟨_,hPn⟩,?_⟩
            have h2:=(znM ⟨_,hPn⟩).2 _ hPn
            have h3:=h'.2
            rw [hm] at h3
            omega
          · exact h'.elim
        |exit id =>
          obtain ⟨e1,e2,e3⟩:=zmB hc hs hw hc' hs' hw'
          exact hk (.exit id) _ a' w' h' e1 e2 e3
        |ret =>
          obtain ⟨e1,e2,e3⟩:=zmB hc hs hw hc' hs' hw'
          exact hk .ret _ a' w' h' e1 e2 e3
  |scope _ _ => exact fun ro st k Qx a w h => h.elim
  |rangeFunc => exact fun ro st k Qx a w h => h.elim
  |goto _ => exact fun ro st k Qx a w h => h.elim
  |refuse _ => exact fun ro st k Qx a w h => h.elim
variable {P:Program} {Q:Value->World->Prop}
theorem zG0 {ps:List (SV (sem P Q))} {w:World} {i:Nat} {e:Option (Ent (sem P Q))} (h:zdE (st0 ps w).ov i=some e):∃ v,ps[i]?=some v/\e=some (.one v,none):=by
  have hm:=zeo h
  simp only [st0,List.mem_map] at hm
  obtain ⟨⟨v,j⟩,hx,he⟩:=hm
  simp only [Prod.mk.injEq] at he
  obtain ⟨rfl,rfl⟩:=he
  exact ⟨v,List.mem_zipIdx_iff_getElem?.1 hx,rfl⟩
theorem zDd {ps:List (SV (sem P Q))} {w:World} {i:Nat} {e:Ent (sem P Q)} (h:Ro.get { sl:=[],bl:=[] } (st0 ps w) i=some e):∃ v,ps[i]?=some v/\e=(.one v,none):=by
  unfold Ro.get at h
  split at h
  · rename_i e' he
    subst h
    obtain ⟨v,h1,h2⟩:=zG0 he
    exact ⟨v,h1,Option.some.inj h2⟩
  · simp [zdE] at h
theorem ztD {cfg:Cfg} {ro:Ro (sem P Q)} {st:St (sem P Q)} {a:Act} {w:World} (hc:zud cfg ro st a) (hs:zek ro st) (hw:zb4 ro st w):∀ {rs:List ResultVar} {l:List (SV (sem P Q))},zyd P ro st rs=some l ->
    (rs.mapM (m:=Sem) fun|.tmp t=>pure (a.tmps.getD t undef)|.cell c t=>do loadVar t (<- asAddr (a.tmps.getD c undef))).run P w=.ok (l.map SV.toV) w
  |[],l,h => by simp [zyd] at h; subst h; simp
  |.tmp t::r,l,h => by
    unfold zyd at h
    split at h
    · rename_i v l' hv hl
      obtain rfl:=Option.some.inj h
      have h1:=one?_some hv
      simp only [Option.bind_eq_some_iff] at h1
      obtain ⟨e,he,h2⟩:=h1
      have h3:=(hc.fr t e he).2
      obtain ⟨u,key⟩:=e
      cases key with
      |none =>
        simp only [Option.some.injEq] at h2
        subst h2
        simp only [List.mapM_cons,Sem.run_bind,Sem.run_pure,Result.andThen_ok,ztD hc hs hw hl]
        rw [h3]; rfl
      |some k => cases h2
    · cases h
  |.cell c t::r,l,h => by
    unfold zyd at h
    split at h
    · rename_i j b off l' hv hl
      split at h
      · rename_i blk hb
        split at h
        · rename_i v hp
          simp only [cond_eq_ite] at h
          split at h
          · rename_i hlen
            obtain rfl:=Option.some.inj h
            have h1:=sc?_some hv
            simp only [Option.bind_eq_some_iff] at h1
            obtain ⟨e,he,h2⟩:=h1
            have h3:=(hc.fr c e he).2
            have h4:=hs c e he
            obtain ⟨u,key⟩:=e
            cases key with
            |none =>
              simp only [Option.some.injEq] at h2
              subst h2
              have hn:=h4.2 blk hb
              have hbk:=hw.bk j blk hb
              unfold zmv at hbk
              have hload:=zsi (P:=P) (t:=t) (v:=v) hbk hp hlen
              rw [hn] at hload
              simp only [List.mapM_cons,Sem.run_bind]
              rw [h3]
              have hl2:(loadVar t ⟨b,off,none⟩).run P w=.ok v.toV w:=by
                simpa [Instr.loadAt,Instr.sureAddr] using hload
              have e1:(asAddr (SL.toV (SL.one (SV.sc (Sc.loc (A:=sem P Q) j b off))))).run P w=.ok ⟨b,off,none⟩ w:=by
                simp [SL.toV,SV.toV,Sc.toV,asAddr]
              rw [e1]
              simp only [Result.andThen_ok,hl2,Sem.run_pure,ztD hc hs hw hl]
              rfl
            |some k => cases h2
          · cases h
        · cases h
      · cases h
    · cases h
theorem zIM (l:List (SV (sem P Q))):(zbJ l).toV=if h:l.length=1 then (l[0]'(by omega)).toV else .tuple (l.map SV.toV).toArray:=by
  match l with
  |[] => rfl
  |[v] => rfl
  |a::b::r => simp [zbJ,SL.toV]
theorem zKa (l:List (SV (sem P Q))):(if h:(l.map SV.toV).toArray.size=1 then (l.map SV.toV).toArray[0] else .tuple (l.map SV.toV).toArray)=(zbJ l).toV:=by
  match l with
  |[] => rfl
  |[v] => rfl
  |a::b::r => simp [zbJ,SL.toV]
theorem sx_fn {f:FuncId} {fn:Func} {c:Code} {cfg:Cfg} {ps:List (SV (sem P Q))} {args:Array Value} {w:World} (hf:P.funcs[f]?=some fn) (hb:fn.body=some c) (hent:znD P f)
    (hN:cfg.N=fn.ntmps) (hlen:Nat.ble ps.length fn.ntmps=true) (hargs:args=(ps.map SV.toV).toArray) (hn:ps.all zaY=true) (h:zIm (A:=sem P Q) P cfg fn c ps w):FnP P f args w Q:=by
  have hlen:=Nat.le_of_ble_eq_true hlen
  refine ⟨hent,calls_of_wp hf hb (sx_ok (cfg:=cfg) c { sl:=[],bl:=[] } (st0 ps w) _ _ _ w h ?_ ?_ ?_ ?_)⟩
  · subst hargs
    refine ⟨?_,rfl,fun i e he=>?_⟩
    · simp; omega
    · obtain ⟨v,hv,rfl⟩:=zDd he
      refine ⟨rfl,?_⟩
      have hi:i<ps.length:=by
        rw [List.getElem?_eq_some_iff] at hv; exact hv.1
      have h2:ps[i]=v:=by rw [List.getElem?_eq_some_iff] at hv; exact hv.2
      simp [SL.toV,Array.getD,Array.getElem_append,hi,h2]
      intro h; omega
  · intro i e he
    obtain ⟨v,hv,rfl⟩:=zDd he
    refine zc3 ?_
    simp only [List.all_eq_true] at hn
    exact hn v (List.mem_of_getElem? hv)
  · have hno:∀ j,(Ro.blk { sl:=[],bl:=[] } (st0 ps w) j:Option (Blk (sem P Q)))=none:=fun j=>rfl
    refine ⟨But.refl _ _,?_,?_,?_,?_,?_,?_⟩
    · intro j b h; rw [hno] at h; cases h
    · intro j b h; rw [hno] at h; cases h
    · intro i j b c h; rw [hno] at h; cases h
    · intro j b h; rw [hno] at h; cases h
    · intro j b h; rw [hno] at h; cases h
    · intro j b b0 h0 h; rw [hno] at h; cases h
  · intro e st' a' w' hk hc hs hw
    have key:zye (A:=sem P Q) P fn { sl:=[],bl:=[] } st'->a'.defers=[]/\∃ v,(results fn a'.tmps).run P w'=.ok v w'/\∃ u,Ending.returned v=.returned u/\Q u w':=by
      intro hr
      unfold zye at hr
      split at hr
      · rename_i l hl
        simp only [cond_eq_ite] at hr
        split at hr
        · have hq:=ziU (P:=P) (Q:=Q) hr hw.but (fun b hb=>by cases hb)
          refine ⟨hc.defers,(zbJ l).toV,?_,_,rfl,hq⟩
          have h1:=ztD hc hs hw hl
          unfold results
          obtain ⟨rs,hrs⟩:∃ rs,fn.results=⟨rs⟩:=⟨_,rfl⟩
          rw [hrs] at h1 ⊢
          simp only [List.mapM_toArray,Sem.run_bind,Sem.run_map]
          show (((Sem.run P (List.mapM _ rs) w').andThen _).andThen _)=_
          have h1':(List.mapM (m:=Sem) (fun|ResultVar.tmp t=>pure (a'.tmps.getD t undef)|.cell c t=>do loadVar t (<- asAddr (a'.tmps.getD c undef))) rs).run P w'=.ok (l.map SV.toV) w':=h1
          erw [h1']
          simp only [Result.andThen_ok]
          exact congrArg (fun v=>Result.ok v w') (zKa l)
        · exact hr.elim
      · exact hr.elim
    cases e with
    |normal => exact key hk
    |exit id => exact hk.elim
    |ret => exact key hk
@[irreducible] def Runs (P:Program) (Q:Value->World->Prop) (cfg:Cfg) (fn:Func) (c:Code) (ps:List (SV (sem P Q))) (w:World):Prop:=zIm (A:=sem P Q) P cfg fn c ps w
theorem zab {f:FuncId} {fn:Func} {c:Code} {cfg:Cfg} {ps:List (SV (sem P Q))} {args:Array Value} {w:World} (h:Runs P Q cfg fn c ps w) (hf:P.funcs[f]?=some fn) (hb:fn.body=some c) (hent:znD P f)
    (hN:cfg.N=fn.ntmps) (hlen:Nat.ble ps.length fn.ntmps=true) (hargs:args=(ps.map SV.toV).toArray) (hn:ps.all zaY=true):FnP P f args w Q:=by
  unfold Runs at h
  exact sx_fn hf hb hent hN hlen hargs hn h
end Go.Sx
namespace Go.Sx
open Go.ChangeShapes Go.WideShapes Go.ChangeAt Go.RowKit
variable {H:Type} {enc:TypeId×Value->H} {P:Program}
def Good (P:Program) (w:World):Nat->TypeId->List Value->Prop
  |0,_,_ => False
  |n+1,t,cs =>
    match P.underlying t with
    |some .bool => ∃ b,cs=[.bool b]
    |some (.int k) => ∃ x,cs=[.int k x]/\InR k x
    |some .string => ∃ s:ByteArray,cs=[.string s]/\s.size<=9223372036854775807
    |some (.pointer e) => cs=[.pointer none]\/∃ a es,cs=[.pointer (some a)]/\w.cells? 0 a (P.cellsOf e)=some es/\Good P w n e es
    |some (.slice e) => cs=[.slice none 0 0]\/∃ a len cap,cs=[.slice (some a) len cap]/\len<=cap/\cap<=9223372036854775807 /\
        ∀ i,i<cap->∃ es,w.cells? 0 (a.add (i*P.cellsOf e)) (P.cellsOf e)=some es/\Good P w n e es
    |some (.struct fs) => cs.length=P.cellsOf t/\∀ f∈fs.toList,Good P w n f.type ((cs.drop f.offset).take (P.cellsOf f.type))
    |some (.array m e) => cs.length=P.cellsOf t/\∀ i,i<m->Good P w n e ((cs.drop (i*P.cellsOf e)).take (P.cellsOf e))
    |_ => ∃ v,cs=[v]
theorem wf_inR {k:IntKind} {x:Int} (h:(Lit.int k x).wf=true):InR k x:=by
  simpa [Lit.wf,InR] using h
theorem zpG {α β:Type} {f:α->Option β}:∀ {l:List α} {ys:List β},l.mapM f=some ys->∀ x∈l,∃ y,f x=some y
  |[],ys,_,x,hx => by cases hx
  |a::r,ys,h,x,hx => by
    simp only [List.mapM_cons,Option.bind_eq_bind,Option.bind_eq_some_iff] at h
    obtain ⟨y,hy,ys',hr,_⟩:=h
    rcases List.mem_cons.1 hx with rfl|hx
    · exact ⟨y,hy⟩
    · exact zpG hr x hx
theorem zeH {w:World}:∀ {n:Nat} {t:TypeId} {cs:List Value} {x:DataW H×List MemPlace},DataW.trod enc P w 0 (fun _=>true) true n t cs=some x->Good P w n t cs
  |0,t,cs,x,h => by cases h
  |n+1,t,cs,x,h => by
    unfold DataW.trod at h
    unfold Good
    cases hu:P.underlying t with
    |none => simp [hu] at h
    |some u =>
      rw [hu] at h
      cases u with
      |bool => simp only at h ⊢; split at h<;>simp_all
      |int k =>
        simp only at h ⊢
        split at h<;>simp_all
        obtain ⟨⟨h1,h2⟩,_⟩:=h
        exact wf_inR h2
      |string =>
        simp only at h ⊢
        split at h<;>simp_all
        simp only [maxLen] at h
        omega
      |pointer e =>
        simp only at h ⊢
        split at h
        all_goals first|(simp_all; done)|skip
        rename_i a heq
        simp only [Option.some.injEq,TypeDesc.pointer.injEq] at heq
        subst heq
        rw [Option.map_eq_some_iff] at h
        obtain ⟨y,h,_⟩:=h
        rw [Option.bind_eq_some_iff] at h
        obtain ⟨es,h1,h2⟩:=h
        exact .inr ⟨a,es,rfl,h1,zeH h2⟩
      |slice e =>
        simp only
        have h':DataW.trod enc P w 0 (fun _=>true) true (n+1) t cs=some x:=by unfold DataW.trod; rw [hu]; exact h
        rcases DataW.trod_slice hu h' with h0|⟨a,len,cap,elems,zau,n',hn,hcs,hx,hb,hl,hm,hlen,hel,hsp,_⟩
        · exact .inl h0.1
        · obtain rfl:n=n':=by omega
          refine .inr ⟨a,len,cap,hcs,hl,by simp only [maxLen] at hm; omega,fun i hi=>?_⟩
          obtain ⟨hrl,hrest⟩:=hsp rfl
          have hsome:∃ y,(w.cells? 0 (a.add (i*P.cellsOf e)) (P.cellsOf e)).bind (DataW.trod enc P w 0 (fun _=>true) true n e)=some y:=by
            by_cases hil:i<len
            · exact ⟨elems[i]'(by omega),by rw [hel i hil]; exact List.getElem?_eq_getElem (by omega)⟩
            · have:=hrest (i-len) (by omega)
              rw [show len+(i-len)=i by omega] at this
              exact ⟨zau[i-len]'(by omega),by rw [this]; exact List.getElem?_eq_getElem (by omega)⟩
          obtain ⟨y,hy⟩:=hsome
          rw [Option.bind_eq_some_iff] at hy
          obtain ⟨es,h1,h2⟩:=hy
          exact ⟨es,h1,zeH h2⟩
      |struct fs =>
        simp only at h ⊢
        split at h
        · rename_i hl
          rw [Option.map_eq_some_iff] at h
          obtain ⟨y,h,_⟩:=h
          refine ⟨hl,fun f hf=>?_⟩
          obtain ⟨z,hz⟩:=zpG h f hf
          exact zeH hz
        · cases h
      |array m e =>
        simp only at h ⊢
        split at h
        · rename_i hl
          rw [Option.map_eq_some_iff] at h
          obtain ⟨y,h,_⟩:=h
          refine ⟨hl,fun i hi=>?_⟩
          obtain ⟨z,hz⟩:=zpG h i (by simpa using hi)
          exact zeH hz
        · cases h
      |_ =>
        simp only at h ⊢
        match cs,h with
        |[],h => simp at h
        |[v],h => exact ⟨v,rfl⟩
        |_::_::_,h => simp at h
def zBS (P:Program) (w:World) (t:TypeId) (v:Value):Prop :=
  ∃ n cs,Good P w n t cs/\v=bif zc7 P t then .agg cs.toArray else cs.headD undef
theorem zGH {w:World} {r:Reach} {b:Nat} {t:TypeId} {v:Value} {d:DataW H} {ps:List MemPlace} (hok:Value.okWide P w r b t v) (h:DataW.Trod enc P w 0 (fun _=>true) true t v d ps):zBS P w t v:=by
  obtain ⟨n,h⟩:=h
  refine ⟨n,v.cells.toList,zeH h,?_⟩
  cases n with
  |zero => cases h
  |succ n =>
    unfold Value.okWide at hok
    unfold zc7
    cases hu:P.underlying t with
    |none => unfold DataW.trod at h; rw [hu] at h; simp at h
    |some u =>
      rw [hu] at hok
      cases u with
      |struct fs => obtain ⟨cs,rfl,_⟩:=hok; rfl
      |array m e => obtain ⟨cs,rfl,_⟩:=hok; rfl
      |_ => cases v<;>first|rfl|(unfold Cell.okWide at hok; rw [hu] at hok; simp [Cell.ok] at hok)
inductive zcB (P:Program) (w:World):List TypeId->List Value->Prop
  |nil:zcB P w [] []
  |cons {t ts v vs}:zBS P w t v->zcB P w ts vs->zcB P w (t::ts) (v::vs)
theorem zmF {w:World} {r:Reach} {b:Nat}:∀ {ts:List TypeId} {vs:List Value} {ds:List (DataW H)} {ps:List MemPlace},(∀ (j:Nat) t v,ts[j]?=some t->vs[j]?=some v->Value.okWide P w r b t v) ->
    DataW.TrodAll enc P w 0 (fun _=>true) true ts vs ds ps->zcB P w ts vs/\ds.length=ts.length
  |[],[],[],ps,_,_ => ⟨.nil,rfl⟩
  |[],[],_::_,ps,_,h => h.elim
  |[],_::_,_,ps,_,h => by simp [DataW.TrodAll] at h
  |_::_,[],_,ps,_,h => by simp [DataW.TrodAll] at h
  |_::_,_::_,[],ps,_,h => by simp [DataW.TrodAll] at h
  |t::ts,v::vs,d::ds,ps,hok,h => by
    obtain ⟨p,q,h1,h2,_⟩:=h
    obtain ⟨g,e⟩:=zmF (fun j t v ht hv=>hok (j+1) t v (by simpa using ht) (by simpa using hv)) h2
    exact ⟨.cons (zGH (hok 0 t v rfl rfl) h1) g,by simp [e]⟩
theorem zfN {w:World} {sp:Nat->Bool}:∀ {ns:List String} {gs:List (DataW H)} {ps:List MemPlace},DataW.TrodVars enc P w sp ns gs ps->gs.length=ns.length
  |[],[],_,_ => rfl
  |[],_::_,_,h => h.elim
  |_::_,[],_,h => h.elim
  |_::_,_::_,_,h => by
    obtain ⟨g,t,cs,fuel,p,q,_,_,_,_,hs,_⟩:=h
    simp [zfN hs]
theorem zle (hl:laidOutB P=true) {W W':World} (hb:Below W.heap.size W W'):∀ {ts:List TypeId} {vs:List Value} {ds:List (DataW H)} {ps:List MemPlace},(ts.all fun t=>P.readableRec t&&decide (t<P.types.size))=true ->
    DataW.TrodAll enc P W 0 (fun _=>true) true ts vs ds ps->(∀ x∈ps,x.block<W.heap.size)->DataW.TrodAll enc P W' 0 (fun b=>decide (b<W.heap.size)) true ts vs ds ps
  |[],[],[],ps,_,h,_ => h
  |[],[],_::_,ps,_,h,_ => h.elim
  |[],_::_,_,ps,_,h,_ => by simp [DataW.TrodAll] at h
  |_::_,[],_,ps,_,h,_ => by simp [DataW.TrodAll] at h
  |_::_,_::_,[],ps,_,h,_ => by simp [DataW.TrodAll] at h
  |t::ts,v::vs,d::ds,ps,hr,h,hlt => by
    obtain ⟨p,q,h1,h2,e⟩:=h
    simp only [List.all_cons,Bool.and_eq_true,decide_eq_true_eq] at hr
    exact ⟨p,q,Below.trod hl hr.1.1 hr.1.2 h1 hb (fun x hx=>hlt x (by rw [e]; simp [hx])),zle hl hb (by simpa using hr.2) h2 (fun x hx=>hlt x (by rw [e]; simp [hx])),e⟩
theorem zzJ {f:Func} {s:ChangeSpec} {apart fresh handsOn:Bool} {W W':World} {args:Array Value} {ds gs:List (DataW H)} {zb7:List MemPlace} {tb:TypeId} (hl:laidOutB P=true)
    (hrow:(f.params.toList.all fun t=>P.readableRec t&&decide (t<P.types.size))=true) (hres:f.resultTypes=#[tb]) (htb:P.underlying tb=some .bool)
    (hvars:∀ q,DataW.TrodVars enc P W (fun _=>true) s.vars gs q->(∀ x∈q,x.block<W.heap.size)->DataW.TrodVars enc P W' (fun b=>decide (b<W.heap.size)) s.vars gs q)
    (hs:s.fn H (ds++gs)={ results:=[.lit (.bool true)],args:=ds,vars:=gs }) (hW:DataW.Whole enc P f.params.toList s.vars apart W args.toList ds gs zb7) (hB:Ext W W') :
    s.post enc P f apart fresh handsOn false W args (.bool true) W':=by
  have hlt:=hW.lt
  have hW':=hW
  obtain ⟨p,q,hA,hV,he,_,_⟩:=hW
  refine ⟨ds,gs,zb7,[],p,q,hW',?_,?_,?_,Below.frame hB _,fun h=>by cases h⟩
  · rw [hs,hres]
    exact ⟨[],[],⟨1,by simp [DataW.trod,htb,Value.cells]⟩,rfl,rfl⟩
  · rw [hs]
    exact zle hl hB hrow hA (fun x hx=>hlt x (by rw [he]; simp [hx]))
  · rw [hs]
    exact hvars q hV (fun x hx=>hlt x (by rw [he]; simp [hx]))
theorem zIu {f:Func} {F:FuncId} {s:ChangeSpec} {apart fresh handsOn:Bool} {tb:TypeId} (hl:laidOutB P=true)
    (hrow:(f.params.toList.all fun t=>P.readableRec t&&decide (t<P.types.size))=true) (hres:f.resultTypes=#[tb]) (htb:P.underlying tb=some .bool) (hv:s.vars=[])
    (hs:∀ ds:List (DataW H),ds.length=f.params.toList.length->s.fn H ds={ results:=[.lit (.bool true)],args:=ds,vars:=[] })
    (law:∀ W args,zcB P W f.params.toList args.toList->FnP P F args W fun v W'=>v=.bool true/\Ext W W')
    (W:World) (base:Nat) (args:Array Value) (ds gs:List (DataW H)) (zb7:List MemPlace)
    (hval:∀ (j:Nat) t v,f.params[j]?=some t->args[j]?=some v->Value.okWide P W .any base t v)
    (hW:DataW.Whole enc P f.params.toList s.vars apart W args.toList ds gs zb7) :
    Calls P F args W fun e W'=>∃ v,e=.returned v/\s.post enc P f apart fresh handsOn false W args v W':=by
  have hW':=hW
  obtain ⟨p,q,hA,hV,_,_,_⟩:=hW
  obtain ⟨hg,hlen⟩:=zmF (fun j t v ht hv=>hval j t v (by simpa using ht) (by simpa using hv)) hA
  refine (law W args hg).2.mono fun e W' ⟨v,he,hvt,hE⟩=>⟨v,he,?_⟩
  subst hvt
  have hg0:gs=[]:=by
    have:=zfN hV
    rw [hv] at this
    exact List.length_eq_zero_iff.1 this
  refine zzJ hl hrow hres htb (fun q h _=>?_) (by subst hg0; simpa using hs ds hlen) hW' hE
  subst hg0
  rw [hv] at h ⊢
  exact h
theorem law_at {f:Func} {F:FuncId} {s:ChangeSpec} {apart fresh handsOn:Bool} {tb:TypeId} (hl:laidOutB P=true)
    (hrow:(f.params.toList.all fun t=>P.readableRec t&&decide (t<P.types.size))=true) (hres:f.resultTypes=#[tb]) (htb:P.underlying tb=some .bool) (hv:s.vars=[])
    (hs:∀ ds:List (DataW H),ds.length=f.params.toList.length->s.fn H ds={ results:=[.lit (.bool true)],args:=ds,vars:=[] })
    (W:World) (base:Nat) (args:Array Value) (law:zcB P W f.params.toList args.toList->FnP P F args W fun v W'=>v=.bool true/\Ext W W') (ds gs:List (DataW H)) (zb7:List MemPlace)
    (hval:∀ (j:Nat) t v,f.params[j]?=some t->args[j]?=some v->Value.okWide P W .any base t v)
    (hW:DataW.Whole enc P f.params.toList s.vars apart W args.toList ds gs zb7) :
    Calls P F args W fun e W'=>∃ v,e=.returned v/\s.post enc P f apart fresh handsOn false W args v W':=by
  have hW':=hW
  obtain ⟨p,q,hA,hV,_,_,_⟩:=hW
  obtain ⟨hg,hlen⟩:=zmF (fun j t v ht hv=>hval j t v (by simpa using ht) (by simpa using hv)) hA
  refine (law hg).2.mono fun e W' ⟨v,he,hvt,hE⟩=>⟨v,he,?_⟩
  subst hvt
  have hg0:gs=[]:=by
    have:=zfN hV
    rw [hv] at this
    exact List.length_eq_zero_iff.1 this
  refine zzJ hl hrow hres htb (fun q h _=>?_) (by subst hg0; simpa using hs ds hlen) hW' hE
  subst hg0
  rw [hv] at h ⊢
  exact h
end Go.Sx
namespace Go.Sx
open Go.RowKit
variable {P:Program}
def zpy (P:Program) (rec:TypeId->Option (List TypeId)):Nat->List Field->Option (List TypeId)
  |_,[] => some []
  |off,f::r =>
    match rec f.type,zpy P rec (off+P.cellsOf f.type) r with
    |some l,some l' => bif Nat.beq f.offset off&&Nat.beq l.length (P.cellsOf f.type) then some (l++l') else none
    |_,_ => none
def zkC (l:List TypeId):Nat->List TypeId
  |0 => []
  |n+1 => l++zkC l n
def znN (P:Program):Nat->TypeId->Option (List TypeId)
  |0,_ => none
  |d+1,t =>
    match P.underlying t with
    |some (.struct fs) =>
      match zpy P (znN P d) 0 fs.toList with
      |some l => bif Nat.beq l.length (P.cellsOf t) then some l else none
      |none => none
    |some (.array m e) =>
      match znN P d e with
      |some l => bif Nat.beq l.length (P.cellsOf e)&&Nat.beq (zkC l m).length (P.cellsOf t) then some (zkC l m) else none
      |none => none
    |some _ => some [t]
    |none => none
def zH0 (P:Program) (w:World) (t:TypeId) (v:Value):Prop:=∃ n,Good P w n t [v]
inductive zdz (P:Program) (w:World):List TypeId->List Value->Prop
  |nil:zdz P w [] []
  |cons {t ts v vs}:zH0 P w t v->zdz P w ts vs->zdz P w (t::ts) (v::vs)
theorem zdz.append {w:World} {ts us:List TypeId} {vs ws:List Value} (h:zdz P w ts vs) (k:zdz P w us ws):zdz P w (ts++us) (vs++ws):=by
  induction h with
  |nil => exact k
  |cons h1 _ ih => exact .cons h1 ih
theorem zr1 {w:World} {rec:TypeId->Option (List TypeId)} {n:Nat} (ih:∀ t l cs,rec t=some l->Good P w n t cs->zdz P w l cs):∀ (fs:List Field) (off:Nat) (l:List TypeId) (cs:List Value),zpy P rec off fs=some l ->
    (∀ f∈fs,Good P w n f.type ((cs.drop f.offset).take (P.cellsOf f.type)))->∃ l',zdz P w l l'/\l'=(cs.drop off).take l.length
  |[],off,l,cs,h,_ => by simp [zpy] at h; subst h; exact ⟨[],.nil,by simp⟩
  |f::r,off,l,cs,h,hg => by
    unfold zpy at h
    split at h
    · rename_i l1 l2 h1 h2
      simp only [cond_eq_ite] at h
      split at h
      · rename_i hc
        simp only [Bool.and_eq_true,Nat.beq_eq] at hc
        obtain ⟨ho,hl⟩:=hc
        obtain rfl:=Option.some.inj h
        have g1:=ih _ _ _ h1 (hg f (List.mem_cons_self ..))
        obtain ⟨l2',g2,e2⟩:=zr1 ih r _ l2 cs h2 (fun x hx=>hg x (List.mem_cons_of_mem _ hx))
        refine ⟨_,g1.append g2,?_⟩
        rw [e2,ho,<- hl,List.length_append,<- List.drop_drop,List.take_add]
      · cases h
    · cases h
theorem zr0 {w:World} {l:List TypeId} {cs:List Value} {c:Nat} (hc:l.length=c):∀ (m off:Nat),(∀ i,i<m->zdz P w l ((cs.drop (off+i*c)).take c))->∃ l',zdz P w (zkC l m) l'/\l'=(cs.drop off).take (zkC l m).length
  |0,off,_ => ⟨[],.nil,by simp [zkC]⟩
  |m+1,off,h => by
    have h0:=h 0 (by omega)
    obtain ⟨l',g,e⟩:=zr0 hc m (off+c) (fun i hi=>by
      have:=h (i+1) (by omega)
      rw [show off+(i+1)*c=off+c+i*c by rw [Nat.add_mul]; omega] at this
      exact this)
    refine ⟨_,h0.append g,?_⟩
    simp only [zkC,List.length_append,Nat.zero_mul,Nat.add_zero]
    rw [e,hc,<- List.drop_drop,List.take_add]
theorem zcM {w:World}:∀ (d:Nat) (t:TypeId) (l:List TypeId) (n:Nat) (cs:List Value),znN P d t=some l->Good P w n t cs->zdz P w l cs
  |0,t,l,n,cs,h,_ => by cases h
  |d+1,t,l,0,cs,h,hg => hg.elim
  |d+1,t,l,n+1,cs,h,hg => by
    unfold znN at h
    have hg0:=hg
    unfold Good at hg
    cases hu:P.underlying t with
    |none => rw [hu] at h; cases h
    |some u =>
      rw [hu] at h hg
      have hleaf:cs.length=1->zdz P w [t] cs:=by
        intro h1
        match cs,h1 with
        |[v],_ => exact .cons ⟨n+1,hg0⟩ .nil
      cases u with
      |struct fs =>
        simp only at h hg
        split at h
        · rename_i l0 hl0
          simp only [cond_eq_ite] at h
          split at h
          · rename_i hc
            have hc:l0.length=P.cellsOf t:=by simpa using hc
            obtain rfl:=Option.some.inj h
            obtain ⟨l',g,e⟩:=zr1 (fun t' l1 cs' h1 hg1=>zcM d t' l1 n cs' h1 hg1) fs.toList 0 l0 cs hl0 hg.2
            rw [hc,<- hg.1] at e
            simp at e
            rw [<- e]; exact g
          · cases h
        · cases h
      |array m e =>
        simp only at h hg
        split at h
        · rename_i l0 hl0
          simp only [cond_eq_ite] at h
          split at h
          · rename_i hc
            simp only [Bool.and_eq_true,Nat.beq_eq] at hc
            obtain rfl:=Option.some.inj h
            obtain ⟨l',g,e⟩:=zr0 (P:=P) (w:=w) (cs:=cs) hc.1 m 0 (fun i hi=>by
              have:=zcM d e l0 n _ hl0 (hg.2 i hi)
              simpa using this)
            rw [hc.2,<- hg.1] at e
            simp at e
            rw [<- e]; exact g
          · cases h
        · cases h
      |bool => obtain rfl:=Option.some.inj h; obtain ⟨_,rfl⟩:=hg; exact hleaf rfl
      |string => obtain rfl:=Option.some.inj h; obtain ⟨_,rfl,_⟩:=hg; exact hleaf rfl
      |int k => obtain rfl:=Option.some.inj h; obtain ⟨_,rfl,_⟩:=hg; exact hleaf rfl
      |pointer e => obtain rfl:=Option.some.inj h; rcases hg with rfl|⟨_,_,rfl,_⟩<;>exact hleaf rfl
      |slice e => obtain rfl:=Option.some.inj h; rcases hg with rfl|⟨_,_,_,rfl,_⟩<;>exact hleaf rfl
      |_ => obtain rfl:=Option.some.inj h; obtain ⟨_,rfl⟩:=hg; exact hleaf rfl
theorem zaJ {w:World} {t:TypeId} {v:Value} {k:IntKind} (hu:P.underlying t=some (.int k)) (h:zH0 P w t v):∃ x,v=.int k x/\InR k x:=by
  obtain ⟨n,h⟩:=h
  cases n with
  |zero => exact h.elim
  |succ n => unfold Good at h; rw [hu] at h; simpa using h
theorem zu3 {w:World} {t:TypeId} {v:Value} (hu:P.underlying t=some .bool) (h:zH0 P w t v):∃ b,v=.bool b:=by
  obtain ⟨n,h⟩:=h
  cases n with
  |zero => exact h.elim
  |succ n => unfold Good at h; rw [hu] at h; simpa using h
theorem zc0 {w:World} {t:TypeId} {v:Value} (hu:P.underlying t=some .string) (h:zH0 P w t v):∃ s:ByteArray,v=.string s/\s.size<=9223372036854775807:=by
  obtain ⟨n,h⟩:=h
  cases n with
  |zero => exact h.elim
  |succ n => unfold Good at h; rw [hu] at h; simpa using h
theorem zfg {w:World} {t e:TypeId} {v:Value} (hu:P.underlying t=some (.slice e)) (h:zH0 P w t v):∃ (p:Option Addr) (len cap:Nat),v=.slice p len cap/\len<=cap/\cap<=9223372036854775807/\(p=none->cap=0) /\
    ∀ a,p=some a->∀ i,i<cap->∃ n es,w.cells? 0 (a.add (i*P.cellsOf e)) (P.cellsOf e)=some es/\Good P w n e es:=by
  obtain ⟨n,h⟩:=h
  cases n with
  |zero => exact h.elim
  |succ n =>
    unfold Good at h
    rw [hu] at h
    rcases h with h|⟨a,len,cap,h,h1,h2,h3⟩
    · simp only [List.cons.injEq,and_true] at h
      exact ⟨none,0,0,h,Nat.le_refl _,by omega,fun _=>rfl,fun a ha=>by cases ha⟩
    · simp only [List.cons.injEq,and_true] at h
      refine ⟨some a,len,cap,h,h1,h2,fun ha=>(by cases ha),fun b hb i hi=>?_⟩
      obtain rfl:=Option.some.inj hb
      obtain ⟨es,h4,h5⟩:=h3 i hi
      exact ⟨n,es,h4,h5⟩
theorem zuM {w:World} {t:TypeId} {v:Value} {d:Nat} {l:List TypeId} (hl:znN P d t=some l) (h:zBS P w t v):∃ cs,zdz P w l cs/\v=bif zc7 P t then .agg cs.toArray else cs.headD undef:=by
  obtain ⟨n,cs,hg,hv⟩:=h
  exact ⟨cs,zcM d t l n cs hl hg,hv⟩
theorem zaj {w:World} {t:TypeId} {ts:List TypeId} {cs:List Value} (h:zdz P w (t::ts) cs):∃ v vs,cs=v::vs/\zH0 P w t v/\zdz P w ts vs:=by
  cases h with
  |cons h1 h2 => exact ⟨_,_,rfl,h1,h2⟩
theorem zhN {w:World} {cs:List Value} (h:zdz P w [] cs):cs=[]:=by cases h; rfl
theorem zuL {w:World} {t:TypeId} {ts:List TypeId} {cs:List Value} (h:zcB P w (t::ts) cs):∃ v vs,cs=v::vs/\zBS P w t v/\zcB P w ts vs:=by
  cases h with
  |cons h1 h2 => exact ⟨_,_,rfl,h1,h2⟩
theorem zxu {w:World} {cs:List Value} (h:zcB P w [] cs):cs=[]:=by cases h; rfl
end Go.Sx
namespace Go.Sx
open Go.RowKit
variable {P:Program}
structure zaA (P:Program) (w:World) (e:TypeId) (p:Option Addr) (l c:Nat):Prop where
  le:l<=c
  max:c<=9223372036854775807
  nil:p=none->c=0
  el:∀ a,p=some a->∀ i,i<c->∃ n es,w.cells? 0 (a.add (i*P.cellsOf e)) (P.cellsOf e)=some es/\Good P w n e es
def zwP (P:Program) (w:World) (t:TypeId) (R:Value->Prop):Prop :=
  match P.underlying t with
  |some (.int k) => ∀ x:Int,InR k x->R (.int k x)
  |some .bool => ∀ b:Bool,R (.bool b)
  |some .string => ∀ s:ByteArray,s.size<=9223372036854775807->R (.string s)
  |some (.slice e) => ∀ (p:Option Addr) (l c:Nat),zaA P w e p l c->R (.slice p l c)
  |_ => ∀ v,zH0 P w t v->R v
def zoY (P:Program) (w:World):List TypeId->(List Value->Prop)->Prop
  |[],R => R []
  |t::ts,R => zwP P w t fun v => zoY P w ts fun vs => R (v::vs)
def zeP (P:Program) (w:World):List TypeId->(List Value->Prop)->Prop
  |[],R => R []
  |t::ts,R =>
    match znN P 6 t with
    |some l => zoY P w l fun cs => zeP P w ts fun vs => R ((bif zc7 P t then .agg cs.toArray else cs.headD undef)::vs)
    |none => ∀ v,zBS P w t v->zeP P w ts fun vs => R (v::vs)
theorem zA7 {w:World} {t:TypeId} {R:Value->Prop} (h:zwP P w t R) {v:Value} (hl:zH0 P w t v):R v:=by
  unfold zwP at h
  split at h
  · rename_i k hu
    obtain ⟨x,rfl,hx⟩:=zaJ hu hl
    exact h x hx
  · rename_i hu
    obtain ⟨b,rfl⟩:=zu3 hu hl
    exact h b
  · rename_i hu
    obtain ⟨s,rfl,hs⟩:=zc0 hu hl
    exact h s hs
  · rename_i e hu
    obtain ⟨p,l,c,rfl,h1,h2,h3,h4⟩:=zfg hu hl
    exact h p l c ⟨h1,h2,h3,h4⟩
  · exact h v hl
theorem znO {w:World}:∀ {l:List TypeId} {R:List Value->Prop},zoY P w l R->∀ {cs:List Value},zdz P w l cs->R cs
  |[],R,h,cs,hl => by obtain rfl:=zhN hl; exact h
  |t::ts,R,h,cs,hl => by
    obtain ⟨v,vs,rfl,h1,h2⟩:=zaj hl
    exact znO (zA7 h h1) h2
theorem zmr {w:World}:∀ {ts:List TypeId} {R:List Value->Prop},zeP P w ts R->∀ {vs:List Value},zcB P w ts vs->R vs
  |[],R,h,vs,hg => by obtain rfl:=zxu hg; exact h
  |t::ts,R,h,vs,hg => by
    obtain ⟨v,vs,rfl,h1,h2⟩:=zuL hg
    unfold zeP at h
    split at h
    · rename_i l hl
      obtain ⟨cs,h3,rfl⟩:=zuM hl h1
      exact zmr (R:=fun vs=>R ((bif zc7 P t then .agg cs.toArray else cs.headD undef)::vs)) (znO h h3) h2
    · exact zmr (R:=fun vs=>R (v::vs)) (h v h1) h2
theorem zfw {w:World} {ts:List TypeId} {R:Array Value->Prop} (h:zeP P w ts fun l=>R l.toArray) (args:Array Value) (hg:zcB P w ts args.toList):R args:=by
  have:=zmr h hg
  simpa using this
end Go.Sx
namespace Go.Sx
open Go.RowKit
variable {P:Program}
theorem add_zero (a:Addr):a.add 0=a:=by simp [Addr.add]
theorem zfv (a:Addr) (m n:Nat):(a.add m).add n=a.add (m+n):=by
  unfold Addr.add
  by_cases hm:m=0
  · subst hm; simp
  · by_cases hn:n=0
    · subst hn; simp [hm]
    · rw [if_neg hm,if_neg hn,if_neg (by omega)]; simp [Nat.add_assoc]
theorem zae (w:World) (p:Option Addr) (i:Int) (n j:Nat):cell w (pIdx p i n) j=cell w p (i.toNat*n+j):=by
  cases p with
  |none => rfl
  |some a => simp [cell,pIdx,zfv]
theorem zam (w:World) (p:Option Addr) (m j:Nat):cell w (pAdd p m) j=cell w p (m+j):=by
  cases p with
  |none => rfl
  |some a => simp [cell,pAdd,zfv]
theorem zfG (p:Option Addr) (c n:Nat):pCut p c 0 n=p:=by
  unfold pCut
  split
  · rfl
  · cases p<;>simp [add_zero]
theorem zah {p:Option Addr} {i:Int} {n:Nat}:pIdx p i n=none↔p=none:=by cases p<;>simp [pIdx]
theorem zdj {p:Option Addr} {n:Nat}:pAdd p n=none↔p=none:=by cases p<;>simp [pAdd]
theorem zdT {w:World} {p:Option Addr} {i:Nat} {v:Value} (h:cell w p i=some v):∃ a,p=some a/\a.block<w.heap.size/\w.cell? (a.add i)=some v:=by
  cases p with
  |none => cases h
  |some a =>
    refine ⟨a,rfl,?_,h⟩
    have:=World.block_lt_of_cell? w (a.add i) h
    rwa [zaU] at this
theorem zJC {w:World} {p:Option Addr} {i:Nat} {v:Value} (h:cell w p i=some v):p≠none:=by
  intro hp; subst hp; cases h
theorem zaD {w w':World} (he:Ext w w') {p:Option Addr} {i:Nat} {v:Value} (h:cell w p i=some v):cell w' p i=some v:=by
  obtain ⟨a,rfl,hb,h⟩:=zdT h
  have:=Below.cell he (p:=a.add i) (by rw [zaU]; exact hb)
  simp only [cell,Option.bind_some] at this ⊢
  rw [this]; exact h
def zav (w:World) (p:Option Addr) (vs:List Value):Prop:=∀ i v,vs[i]?=some v->cell w p i=some v
theorem zav.ext {w w':World} {p:Option Addr} {vs:List Value} (h:zav w p vs) (he:Ext w w'):zav w' p vs:=fun i v hv=>zaD he (h i v hv)
theorem zav.nil {w:World} {p:Option Addr}:zav w p []:=fun i v hv=>by simp at hv
theorem zav.at {w:World} {p:Option Addr} {vs:List Value} (h:zav w p vs) (i:Nat) (hi:i<vs.length):cell w p i=some vs[i]:=h i _ (List.getElem?_eq_getElem hi)
theorem zav.lt {w:World} {p:Option Addr} {vs:List Value} (h:zav w p vs) (hv:vs≠[]):∀ a,p=some a->a.block<w.heap.size:=by
  intro a ha
  subst ha
  have:=h.at 0 (by cases vs<;>simp_all)
  obtain ⟨b,hb,hl,_⟩:=zdT this
  obtain rfl:=Option.some.inj hb
  exact hl
theorem zav.ne {w:World} {p:Option Addr} {vs:List Value} (h:zav w p vs) (hv:vs≠[]):p≠none:=by
  have:=h.at 0 (by cases vs<;>simp_all)
  exact zJC this
abbrev zdP (k:IntKind) (w:World) (p:Option Addr) (xs:List Int):Prop:=zav w p (xs.map (.int k))
theorem zdP.idx {k:IntKind} {w:World} {p:Option Addr} {xs:List Int} (h:zdP k w p xs) {i:Int} (h0:0<=i) (hi:i<xs.length):cell w (pIdx p i 1) 0=some (.int k (xs.getD i.toNat 0)):=by
  rw [zae]
  refine h _ _ ?_
  have:i.toNat<xs.length:=by omega
  simp [this,List.getD_eq_getElem?_getD]
theorem zpF {f:Nat->Option Value}:∀ {n:Nat} {es:List Value},(List.range n).mapM f=some es->es.length=n/\∀ i u,es[i]?=some u->f i=some u:=by
  intro n es h
  have hg:∀ (l:List Nat) (es:List Value),l.mapM f=some es->es.length=l.length/\∀ (i:Nat) (u:Value),es[i]?=some u->∃ j:Nat,l[i]?=some j/\f j=some u:=by
    intro l
    induction l with
    |nil => intro es h; simp at h; subst h; exact ⟨rfl,fun i u h => by simp at h⟩
    |cons a r ih =>
      intro es h
      simp only [List.mapM_cons,Option.bind_eq_bind,Option.bind_eq_some_iff,Option.pure_def,Option.some.injEq] at h
      obtain ⟨y,hy,ys,hys,rfl⟩:=h
      obtain ⟨h1,h2⟩:=ih ys hys
      refine ⟨by simp [h1],fun i u hu=>?_⟩
      cases i with
      |zero => simp at hu; subst hu; exact ⟨a,rfl,hy⟩
      |succ i => simp at hu; simpa using h2 i u hu
  obtain ⟨h1,h2⟩:=hg _ _ h
  refine ⟨by simpa using h1,fun i u hu=>?_⟩
  obtain ⟨j,hj,hf⟩:=h2 i u hu
  obtain ⟨_,rfl⟩:=List.getElem?_eq_some_iff.1 hj
  simpa using hf
theorem cells?_some {w:World} {a:Addr} {n:Nat} {es:List Value} (h:w.cells? 0 a n=some es):es.length=n/\zav w (some a) es:=by
  unfold World.cells? at h
  rw [if_pos (Nat.zero_le _)] at h
  obtain ⟨h1,h2⟩:=zpF h
  exact ⟨h1,fun i v hv=>h2 i v hv⟩
theorem zaA.list {w:World} {e:TypeId} {p:Option Addr} {l c:Nat} {α:Type} (h:zaA P w e p l c) (enc:α->List Value) (ok:α->Prop)
    (hr:∀ n es,Good P w n e es->es.length=P.cellsOf e->∃ x,es=enc x/\ok x) :
    ∃ xs:List α,xs.length=l/\(∀ x∈xs,ok x)/\∀ (i:Nat) (x:α),xs[i]?=some x->∀ j u,(enc x)[j]?=some u->cell w p (i*P.cellsOf e+j)=some u:=by
  have key:∀ m,m<=l->∃ xs:List α,xs.length=m/\(∀ x∈xs,ok x)/\∀ (i:Nat) (x:α),xs[i]?=some x->∀ j u,(enc x)[j]?=some u->cell w p (i*P.cellsOf e+j)=some u:=by
    intro m
    induction m with
    |zero => exact fun _ => ⟨[],rfl,(fun x hx => by cases hx),(fun i x hx => by simp at hx)⟩
    |succ m ih =>
      intro hm
      obtain ⟨xs,h1,h2,h3⟩:=ih (by omega)
      have hc:=h.le
      cases p with
      |none => have:=h.nil rfl; omega
      |some a =>
        obtain ⟨n,es,h4,h5⟩:=h.el a rfl m (by omega)
        obtain ⟨h6,h7⟩:=cells?_some h4
        obtain ⟨x,rfl,hx⟩:=hr n es h5 h6
        refine ⟨xs++[x],by simp [h1],fun y hy=>?_,fun i y hy j u hu=>?_⟩
        · rcases List.mem_append.1 hy with hy|hy
          · exact h2 y hy
          · simp at hy; subst hy; exact hx
        · by_cases hi:i<xs.length
          · rw [List.getElem?_append_left hi] at hy
            exact h3 i y hy j u hu
          · rw [List.getElem?_append_right (by omega)] at hy
            obtain ⟨hlt,he⟩:=List.getElem?_eq_some_iff.1 hy
            simp at hlt he
            obtain rfl:i=m:=by omega
            subst he
            have:=h7 j u hu
            simpa [cell,zfv] using this
  exact key l (Nat.le_refl _)
theorem zaA.ints {w:World} {e:TypeId} {p:Option Addr} {l c:Nat} {k:IntKind} (h:zaA P w e p l c) (hu:P.underlying e=some (.int k)) (hc:P.cellsOf e=1) :
    ∃ xs:List Int,xs.length=l/\(∀ x∈xs,InR k x)/\zdP k w p xs:=by
  obtain ⟨xs,h1,h2,h3⟩:=h.list (fun x=>[Value.int k x]) (InR k) (fun n es hg _=>by
    cases n with
    |zero => exact hg.elim
    |succ n => unfold Good at hg; rw [hu] at hg; exact hg)
  refine ⟨xs,h1,h2,fun i v hv=>?_⟩
  simp only [List.getElem?_map,Option.map_eq_some_iff] at hv
  obtain ⟨x,hx,rfl⟩:=hv
  have:=h3 i x hx 0 _ rfl
  simpa [hc] using this
abbrev Own (B:Nat) (w:World) (e:TypeId) (s:Nat) (p:Option Addr) (n c:Nat) (xs:List Value):Prop:=w.ownsRow B e s (.slice p n c) n xs
def blk (p:Option Addr):Option Nat:=p.map (·.block)
structure zco (w w':World) (p q:Option Addr):Prop where
  by_:w.grownBy w' (blk p)
  new:blk q=blk p\/∀ a,q=some a->w.heap.size<=a.block
def zbK (p q:Option Addr):Prop:=∀ a b,p=some a->q=some b->a.block≠b.block
theorem zbK.symm {p q:Option Addr} (h:zbK p q):zbK q p:=fun a b ha hb he=>h b a hb ha he.symm
theorem zbK.nil {p:Option Addr}:zbK p none:=fun a b _ hb=>by cases hb
theorem Own.nil {B:Nat} {w:World} {e:TypeId} {s:Nat}:Own B w e s none 0 0 []:=World.ownsRow_nil w B e s
theorem Own.lt {B:Nat} {w:World} {e:TypeId} {s:Nat} {p:Option Addr} {n c:Nat} {xs:List Value} (h:Own B w e s p n c xs):∀ a,p=some a->B<=a.block/\a.block<w.heap.size:=by
  intro a ha
  subst ha
  exact World.ownsRow.lt h a.block rfl
theorem Own.len {B:Nat} {w:World} {e:TypeId} {s:Nat} {p:Option Addr} {n c:Nat} {xs:List Value} (h:Own B w e s p n c xs):xs.length=n*s:=h.1
theorem Own.le {B:Nat} {w:World} {e:TypeId} {s:Nat} {p:Option Addr} {n c:Nat} {xs:List Value} (h:Own B w e s p n c xs):n<=c/\c<=9223372036854775807:=by
  rcases h.2 with ⟨h1,h2⟩|⟨g,cap,cur,h1,_,_,h2,h3,_⟩
  · simp at h1; omega
  · simp at h1; simp [maxLen] at h3; omega
theorem Own.cells {B:Nat} {w:World} {e:TypeId} {s:Nat} {p:Option Addr} {n c:Nat} {xs:List Value} (h:Own B w e s p n c xs):zav w p xs:=by
  intro i v hv
  rcases h.2 with ⟨h1,h2⟩|⟨g,cap,cur,h1,_⟩
  · have:=h.1; subst h2; simp at this; subst this; simp at hv
  · simp at h1
    obtain ⟨rfl,rfl⟩:=h1
    have:=World.ownsRow.cells h (g:=g) rfl i v hv
    exact this
theorem Own.grew {B B':Nat} {w w':World} {e:TypeId} {s:Nat} {p q q':Option Addr} {n c:Nat} {xs:List Value} (h:Own B w e s p n c xs) (ha:zbK p q) (hg:zco w w' q q'):Own B w' e s p n c xs:=by
  refine World.ownsRow.kept h hg.by_ ?_
  cases p with
  |none => exact .inl rfl
  |some a =>
    refine .inr ?_
    cases q with
    |none => simp [blk,Value.ownBlock]
    |some b => simp [blk,Value.ownBlock]; exact ha a b rfl rfl
theorem zbK.grew {B:Nat} {w w':World} {e:TypeId} {s:Nat} {p q q':Option Addr} {n c:Nat} {xs:List Value} (ha:zbK p q) (h:Own B w e s p n c xs) (hg:zco w w' q q'):zbK p q':=by
  intro a b h1 h2 he
  rcases hg.new with hn|hn
  · subst h2; subst h1
    cases q with
    |none => simp [blk] at hn
    |some x => simp [blk] at hn; exact ha a x rfl rfl (by omega)
  · have:=hn b h2
    have:=(h.lt a h1).2
    omega
theorem zav.grew {w w':World} {p q q':Option Addr} {vs:List Value} (h:zav w p vs) (ha:zbK p q) (hg:zco w w' q q'):zav w' p vs:=by
  intro i v hv
  obtain ⟨a,rfl,hb,hc⟩:=zdT (h i v hv)
  refine World.grownBy.cell hg.by_ hc ?_
  rw [zaU]
  cases q with
  |none => simp [blk]
  |some b => simp [blk]; exact ha a b rfl rfl
theorem zbK.grewC {w w':World} {p q q':Option Addr} (ha:zbK p q) (h:∀ a,p=some a->a.block<w.heap.size) (hg:zco w w' q q'):zbK p q':=by
  intro a b h1 h2 he
  rcases hg.new with hn|hn
  · subst h2; subst h1
    cases q with
    |none => simp [blk] at hn
    |some x => simp [blk] at hn; exact ha a x rfl rfl (by omega)
  · have:=hn b h2
    have:=h a h1
    omega
theorem zco.below {B:Nat} {w0 w w':World} {p q:Option Addr} (hg:zco w w' p q) (h:Below B w0 w) (hB:B<=w.heap.size) (hp:∀ a,p=some a->B<=a.block):Below B w0 w' :=
  Below.grown h hg.by_ hB (fun k hk=>by
    cases p with
    |none => cases hk
    |some a => simp [blk] at hk; subst hk; exact hp a rfl)
theorem zco.ext {w0 w w':World} {e:TypeId} {s:Nat} {p q:Option Addr} {n c:Nat} {xs:List Value} (hg:zco w w' p q) (h:Ext w0 w) (ho:Own w0.heap.size w e s p n c xs):Ext w0 w' :=
  zco.below hg h h.size (fun a ha=>(Own.lt ho a ha).1)
theorem zco.size {w w':World} {p q:Option Addr} (hg:zco w w' p q):w.heap.size<=w'.heap.size:=hg.by_.size
theorem zzy {w w':World} (h:Ext w w'):zco w w' none none:=⟨⟨h.os,h.tape,h.output,h.size,fun k hk _=>h.block k hk⟩,.inl rfl⟩
theorem zco.of_ext {w w' w'':World} {p q:Option Addr} (h:Ext w w') (hg:zco w' w'' p q):zco w w'' p q :=
  ⟨⟨hg.by_.os.trans h.os,hg.by_.tape.trans h.tape,hg.by_.output.trans h.output,Nat.le_trans h.size hg.by_.size,
    fun k hk hne=>(hg.by_.block k (Nat.lt_of_lt_of_le hk h.size) hne).trans (h.block k hk)⟩,hg.new.imp id (fun f a ha=>Nat.le_trans h.size (f a ha))⟩
theorem Own.ext {B:Nat} {w w':World} {e:TypeId} {s:Nat} {p:Option Addr} {n c:Nat} {xs:List Value} (h:Own B w e s p n c xs) (he:Ext w w'):Own B w' e s p n c xs :=
  Own.grew (B':=B) h zbK.nil (zzy he)
theorem Own.weak {B B':Nat} {w:World} {e:TypeId} {s:Nat} {p:Option Addr} {n c:Nat} {xs:List Value} (h:Own B w e s p n c xs) (hb:B'<=B):Own B' w e s p n c xs:=by
  refine ⟨h.1,h.2.imp id ?_⟩
  rintro ⟨g,cap,cur,h1,h2,h3⟩
  exact ⟨g,cap,cur,h1,by omega,h3⟩
def zfW (P:Program) (t:TypeId):Option (TypeId×Nat×Nat×Value) :=
  match P.underlying t with
  |some (.slice e) =>
    match P.info? e with
    |some i => match i.zero with
      |some z => bif Nat.beq z.cells.size i.size then some (e,i.size,i.bytes,z) else none
      |none => none
    |none => none
  |_ => none
theorem zd2 {t e:TypeId} {s b:Nat} {z:Value} (h:zfW P t=some (e,s,b,z)):∃ i,P.underlying t=some (.slice e)/\P.info? e=some i/\i.zero=some z/\i.size=s/\i.bytes=b/\z.cells.size=s:=by
  unfold zfW at h
  split at h
  · rename_i e' hu
    split at h
    · rename_i i hi
      split at h
      · rename_i z' hz
        simp only [cond_eq_ite] at h
        split at h
        · rename_i hc
          simp only [Option.some.injEq,Prod.mk.injEq] at h
          obtain ⟨rfl,rfl,rfl,rfl⟩:=h
          exact ⟨i,hu,hi,hz,rfl,rfl,Nat.eq_of_beq_eq_true hc⟩
        · cases h
      · cases h
    · cases h
  · cases h
theorem zuI (off:Nat):∀ (l:List Value) (k:Nat) (cs:Array Value),off+k+l.length<=cs.size ->
    ((l.zipIdx k).foldl (fun (cs:Array Value) (x:Value×Nat)=>cs.setIfInBounds (off+x.2) x.1) cs).toList=cs.toList.take (off+k)++l++cs.toList.drop (off+k+l.length)
  |[],k,cs,h => by simp
  |v::r,k,cs,h => by
    simp only [List.zipIdx_cons,List.foldl_cons]
    simp only [List.length_cons] at h
    rw [zuI off r (k+1) _ (by simp; omega)]
    have hlt:off+k<cs.size:=by omega
    simp only [Array.toList_setIfInBounds]
    have e1:(cs.toList.set (off+k) v).take (off+(k+1))=cs.toList.take (off+k)++[v]:=by
      rw [<- Nat.add_assoc,List.take_set]
      rw [List.take_succ_eq_append_getElem (by simpa using hlt)]
      rw [List.set_append_right _ _ (by simp; omega)]
      simp [Nat.min_eq_left (Nat.le_of_lt hlt)]
    have e2:(cs.toList.set (off+k) v).drop (off+(k+1)+r.length)=cs.toList.drop (off+k+(r.length+1)):=by
      rw [List.drop_set_of_lt (by omega)]
      congr 1; omega
    rw [e1,e2]
    simp
def zm7:Nat->List Value->List (Nat×Value)
  |_,[] => []
  |i,v::r => (i,v)::zm7 (i+1) r
theorem zrV (s:Nat):∀ (vs:List Value) (i:Nat) (cs:Array Value),(∀ v∈vs,v.cells.size=s)->i*s+vs.length*s<=cs.size ->
    ∃ out,Instr.fill (fun i=>some (i*s,s)) cs (zm7 i vs)=some out/\out.toList=cs.toList.take (i*s)++vs.flatMap (fun v=>v.cells.toList)++cs.toList.drop (i*s+vs.length*s)
  |[],i,cs,_,h => ⟨cs,rfl,by simp⟩
  |v::r,i,cs,hs,h => by
    have hv:=hs v (List.mem_cons_self ..)
    simp only [List.length_cons,Nat.add_mul,Nat.one_mul] at h
    have h1:i*s+s<=cs.size:=by omega
    let cs':=v.cells.zipIdx.foldl (fun (cs:Array Value) (x:Value×Nat)=>cs.setIfInBounds (i*s+x.2) x.1) cs
    have e1:cs'.toList=cs.toList.take (i*s)++v.cells.toList++cs.toList.drop (i*s+s):=by
      have:=zuI (i*s) v.cells.toList 0 cs (by simp; omega)
      simp only [Nat.add_zero,Array.length_toList,hv] at this
      rw [<- this]
      have e0:cs'=v.cells.zipIdx.toList.foldl (fun (cs:Array Value) (x:Value×Nat)=>cs.setIfInBounds (i*s+x.2) x.1) cs:=by rw [Array.foldl_toList]
      rw [e0,Array.toList_zipIdx]
    have hsz:cs'.size=cs.size:=by
      have:=congrArg List.length e1
      simp [hv] at this; omega
    obtain ⟨out,h2,h3⟩:=zrV s r (i+1) cs' (fun u hu=>hs u (List.mem_cons_of_mem _ hu)) (by rw [hsz,Nat.add_mul]; omega)
    refine ⟨out,?_,?_⟩
    · simp only [zm7,Instr.fill]
      rw [if_neg (by simp [hv]; omega)]
      exact h2
    · rw [h3,e1]
      have hl:(cs.toList.take (i*s)).length=i*s:=by simp; omega
      have hl2:(cs.toList.take (i*s)++v.cells.toList).length=(i+1)*s:=by simp [hv,Nat.add_mul]; omega
      rw [List.take_append_of_le_length (by omega),List.take_of_length_le (by omega)]
      rw [List.drop_append,List.drop_of_length_le (by omega),hl2,List.drop_drop]
      simp only [List.nil_append,List.flatMap_cons,List.length_cons,List.append_assoc]
      congr 4
      simp only [Nat.add_mul,Nat.one_mul]; omega
theorem zcE {t e:TypeId} {s b:Nat} {z:Value} (he:zfW P t=some (e,s,b,z)) (vs:List Value) {n:Nat} {parts:List (Nat×Value)} {w:World} {K:Value->World->Prop} (hp:parts=zm7 0 vs) (hn:n=vs.length)
    (hs:∀ v∈vs,v.cells.size=s) (h0:0<n*s) (h24:n*s<=16777216)
    (hk:∀ w',(∀ B,B<=w.heap.size->Own B w' e s (some ⟨w.heap.size,0,none⟩) n n (vs.flatMap fun v=>v.cells.toList))->Ext w w'->K (.slice (some ⟨w.heap.size,0,none⟩) n n) w'):Run P (.buildSlice t n parts) w K:=by
  obtain ⟨i,h1,h2,h3,rfl,rfl,h6⟩:=zd2 he
  subst hp; subst hn
  obtain ⟨out,h7,h8⟩:=zrV i.size vs 0 ((Array.range (vs.length*i.size)).map (z.cells[·%z.cells.size]!)) hs (by simp)
  have h9:out.toList=vs.flatMap fun v=>v.cells.toList:=by rw [h8]; simp
  have hlen:(vs.flatMap fun v=>v.cells.toList).length=vs.length*i.size:=by
    clear h7 h8 h9 hk h24 h0
    induction vs with
    |nil => simp
    |cons v r ih =>
      simp only [List.flatMap_cons,List.length_append,Array.length_toList,List.length_cons,Nat.add_mul,Nat.one_mul]
      rw [ih (fun u hu=>hs u (List.mem_cons_of_mem _ hu)),hs v (List.mem_cons_self ..)]; omega
  refine ⟨_,w.alloc (.cells out e),?_,hk _ (fun B hB=>⟨hlen,.inr ⟨w.heap.size,vs.length,out,rfl,hB,heap_alloc_new w _,Nat.le_refl _,?_,?_,?_⟩⟩) ?_⟩
  · show (Instr.buildSlice t vs.length _).run P w=_
    exact run_buildSlice w t e vs.length _ out i z h1 h2 h3 (by omega) (by omega) (by simpa using h7)
  · simp only [maxLen]
    have:vs.length<=vs.length*i.size:=Nat.le_mul_of_pos_right _ (by rcases Nat.eq_zero_or_pos i.size with h|h; (· rw [h] at h0; simp at h0); exact h)
    omega
  · rw [<- Array.length_toList,h9,hlen]
  · rw [h9,<- hlen,List.take_length]
  · exact Below.alloc (Below.refl _ _) (Nat.le_refl _) _
theorem zEv {t e:TypeId} {s b:Nat} {z:Value} (he:zfW P t=some (e,s,b,z)) {kl kc:IntKind} {n:Int} {w:World} {K:Value->World->Prop}
    (h0:0<=n) (hb:b*n.toNat<=281474976710656) (h63:n<=9223372036854775807)
    (hk:∀ w',(∀ B,B<=w.heap.size->Own B w' e s (some ⟨w.heap.size,0,none⟩) n.toNat n.toNat (madeCells z.cells (n.toNat*s)).toList)->Ext w w'->K (.slice (some ⟨w.heap.size,0,none⟩) n.toNat n.toNat) w'):Run P (.makeSlice t (.int kl n) (.int kc n)) w K:=by
  obtain ⟨i,h1,h2,h3,rfl,rfl,h6⟩:=zd2 he
  have hr:=run_make (P:=P) w t e i z h1 h2 h3 kl kc n n h0 (Int.le_refl _) (by
    have h:((i.bytes*n.toNat:Nat):Int)<=281474976710656:=by omega
    rw [Int.natCast_mul] at h
    rwa [Int.toNat_of_nonneg h0] at h) h63
  refine ⟨_,_,hr,hk _ (fun B hB=>World.ownsRow_lit w _ n.toNat hB (by simp [maxLen]; omega) (size_madeCells _ _)) (Below.alloc (Below.refl _ _) (Nat.le_refl _) _)⟩
theorem zzQ {z:Value} {n:Nat} (h:z.cells=#[z]):(madeCells z.cells (n*1)).toList=List.replicate n z:=by
  unfold madeCells
  rw [h]
  apply List.ext_getElem
  · simp
  · intro i h1 h2
    simp [Nat.mod_one]
theorem zCl {t ty e:TypeId} {i:TypeInfo} {z:Value} (g1:P.underlying t=some (.slice e)) (g2:P.info? e=some i) (g3:i.zero=some z) (g6:z.cells.size=i.size) (hs:0<i.size)
    {B:Nat} {w:World} {p:Option Addr} {a:Addr} {n c m d:Nat} {xs news:List Value}
    (ho:Own B w e i.size p n c xs) (hB:B<=w.heap.size) (hl:news.length=m*i.size) (hn:zav w (some a) news) (h1:∀ u∈news,u.oneCell'=true) (hb:(n+m)*i.bytes<=140737488355328) (hm:n+m<=9223372036854775807) :
    ∃ p' c' w',(Builtin.append_ #[t,t] ty #[.slice p n c,.slice (some a) m d]).run P w=.ok (.slice p' (n+m) c') w'/\Own B w' e i.size p' (n+m) c' (xs++news)/\zco w w' p p'/\(p'=none↔p=none/\m=0):=by
  have hlen:(xs++news).length=(n+m)*i.size:=by rw [List.length_append,ho.1,hl,Nat.add_mul]
  have hmax:n+m<=maxLen:=by simp only [maxLen]; omega
  have fresh:∀ (old:Nat),old<n+m->∀ cur:Array Value,cur=xs.toArray++news.toArray++Builtin.zeroCells z.cells (grownCap w (n+m) old e-(n+m)) ->
      Own B (w.drew.alloc (.cells cur e)) e i.size (some ⟨w.heap.size,0,none⟩) (n+m) (grownCap w (n+m) old e) (xs++news)/\zco w (w.drew.alloc (.cells cur e)) p (some ⟨w.heap.size,0,none⟩):=by
    intro old hold cur hcur
    have hge:=grownCap_ge w (n+m) old e
    refine ⟨⟨hlen,.inr ⟨w.heap.size,_,_,rfl,hB,heap_alloc_new w.drew _,hge,grownCap_le_maxLen w (n+m) old e hmax,?_,?_⟩⟩,⟨⟨rfl,rfl,rfl,by simp,fun k hk _=>World.grownBy_alloc w.drew _ none |>.block k hk (by simp)⟩,.inr fun x hx=>?_⟩⟩
    · subst hcur
      simp only [Array.size_append,List.size_toArray,size_zeroCells,g6,ho.1,hl,<- Nat.add_mul]
      congr 1; omega
    · subst hcur
      simp only [Array.toList_append]
      rw [<- hlen]; exact List.take_left
    · obtain rfl:=Option.some.inj hx; exact Nat.le_refl _
  rcases ho.2 with ⟨hv,hn0⟩|⟨g,cap,cur,hv,hbg,hg,hnc,hcm,hcs,htake⟩
  · obtain ⟨rfl,_,rfl⟩:p=none/\n=0/\c=0:=by simpa using hv
    subst hn0
    have hx:xs=[]:=List.eq_nil_of_length_eq_zero (by simpa using ho.1)
    subst hx
    by_cases hm0:m=0
    · subst hm0
      have hnn:news=[]:=List.eq_nil_of_length_eq_zero (by simpa using hl)
      subst hnn
      refine ⟨none,0,w,?_,Own.nil,zzy (Below.refl _ _),by simp⟩
      simp [Builtin.append_,run_underlying g1,sizeOf,typeInfo,g2,Builtin.lenOf,Builtin.firstCells,loadCells,loadCellsFrom]
    · have hr:=run_append_nil (P:=P) w t ty e i z g1 g2 g3 a m d news hl hn (by omega) (by omega) (by have h:=hb; simp only [Nat.zero_add] at h; omega)
      have hf:=fresh 0 (by omega) _ rfl
      simp only [Nat.zero_add,List.nil_append,Array.empty_append] at hf ⊢
      exact ⟨_,_,_,hr,hf.1,hf.2,by simp [hm0]⟩
  · obtain ⟨rfl,_,rfl⟩:p=some ⟨g,0,none⟩/\n=n/\c=cap:=by simpa using hv
    by_cases hroom:n+m<=c
    · have hfit:n*i.size+news.length<=cur.size:=by rw [hl,hcs,<- Nat.add_mul]; exact Nat.mul_le_mul_right _ hroom
      have hr:=run_append_room (P:=P) w t ty e i g1 g2 g n c cur hg a m d news hl hn h1 hroom hfit
      refine ⟨_,_,_,hr,⟨hlen,.inr ⟨g,c,_,rfl,hbg,setRow_heap w g cur _ e _ hg,hroom,hcm,?_,?_⟩⟩,⟨⟨rfl,rfl,rfl,by simp,fun k _ hk=>setRow_other w g k _ (fun e=>hk (by simp [blk,e]))⟩,.inl rfl⟩,by simp⟩
      · simp only [List.size_toArray,List.length_append,List.length_take,List.length_drop,Array.length_toList]
        omega
      · rw [htake,<- hlen]
        exact List.take_left
    · have hr:=run_append_grow (P:=P) w t ty e i z g1 g2 g3 ⟨g,0,none⟩ n c xs ho.1 (World.ownsRow.cells ho (g:=g) rfl) a m d news hl hn (by omega) (by omega) (growslice_fits (by omega) hb)
      have hf:=fresh c (by omega) _ rfl
      exact ⟨_,_,_,hr,hf.1,hf.2,by simp⟩
theorem zna {t ty e:TypeId} {s b:Nat} {z:Value} (he:zfW P t=some (e,s,b,z)) (hs:0<s) {B:Nat} {w:World} {p q:Option Addr} {n c m d:Nat} {xs news:List Value} {K:Value->World->Prop}
    (ho:Own B w e s p n c xs) (hB:B<=w.heap.size) (hq:q≠none) (hl:news.length=m*s) (hn:zav w q news) (h1:∀ u∈news,u.oneCell'=true) (hb:(n+m)*b<=140737488355328) (hm:n+m<=9223372036854775807)
    (hk:∀ p' c' w',Own B w' e s p' (n+m) c' (xs++news)->zco w w' p p'->(p'=none↔p=none/\m=0)->K (.slice p' (n+m) c') w'):Run P (.append #[t,t] ty [.slice p n c,.slice q m d]) w K:=by
  obtain ⟨i,g1,g2,g3,rfl,rfl,g6⟩:=zd2 he
  cases q with
  |none => exact absurd rfl hq
  |some a =>
    obtain ⟨p',c',w',hr,h2,h3,h4⟩:=zCl (ty:=ty) (d:=d) g1 g2 g3 g6 hs ho hB hl hn h1 hb hm
    exact ⟨_,w',hr,hk p' c' w' h2 h3 h4⟩
theorem push {t ty e:TypeId} {s b:Nat} {z:Value} (he:zfW P t=some (e,s,b,z)) (hs:0<s) {B:Nat} {w:World} {p:Option Addr} {n c:Nat} {xs:List Value} {v:Value}
    {K:Option Addr->Nat->Nat->World->Prop} (ho:Own B w e s p n c xs) (hB:B<=w.heap.size) (hv:v.cells.size=s) (h1:∀ u∈v.cells.toList,u.oneCell'=true) (hb:(n+1)*b<=140737488355328) (hs24:s<=16777216) (hm:n+1<=9223372036854775807)
    (hk:∀ p' c' w',Own B w' e s p' (n+1) c' (xs++v.cells.toList)->zco w w' p p'->p'≠none->K p' (n+1) c' w') :
    ∀ w1,Ext w w1->Run P (.buildSlice t 1 [(0,v)]) w1 fun v2 w2=>Ext w1 w2/\∃ q:Option Addr,∃ m:Nat,∃ d:Nat,v2=.slice q m d/\∀ w3,Ext w2 w3 ->
      Run P (.append #[t,t] ty [.slice p n c,.slice q m d]) w3 fun v4 w4=>∃ q':Option Addr,∃ m':Nat,∃ d':Nat,v4=.slice q' m' d'/\K q' m' d' w4:=by
  intro w1 e1
  refine zcE he [v] rfl rfl (fun u hu=>by simp at hu; subst hu; exact hv) (by omega) (by omega) fun w2 o2 e2=>⟨e2,_,_,_,rfl,fun w3 e3=>?_⟩
  have o2:=(o2 w1.heap.size (Nat.le_refl _)).ext e3
  have ho':=((ho.ext e1).ext e2).ext e3
  have hsz:B<=w3.heap.size:=Nat.le_trans hB (Nat.le_trans e1.size (Nat.le_trans e2.size e3.size))
  refine zna he hs ho' hsz (by simp) (news:=v.cells.toList) (by simp [hv]) (by simpa using o2.cells) h1 hb hm fun p' c' w4 h2 h3 h4=>⟨_,_,_,rfl,hk p' c' w4 h2 ?_ ?_⟩
  · exact zco.of_ext e1 (zco.of_ext e2 (zco.of_ext e3 h3))
  · intro hn; have:=h4.1 hn; omega
def zdG:List Value->Nat->List Value->List Value
  |xs,_,[] => xs
  |xs,i,v::r => zdG (xs.set i v) (i+1) r
theorem zKO {B:Nat} {w:World} {e:TypeId} {s:Nat} {a:Addr} {n c:Nat} {xs:List Value} (ho:Own B w e s (some a) n c xs) {i:Nat} (hi:i<xs.length) (v:Value) :
    Own B (w.setCell (a.add i) v) e s (some a) n c (xs.set i v)/\zco w (w.setCell (a.add i) v) (some a) (some a):=by
  rcases ho.2 with ⟨hv,_⟩|⟨g,cap,cur,hv,hbg,hg,hnc,hcm,hcs,htake⟩
  · simp at hv
  · obtain ⟨rfl,rfl⟩:a=⟨g,0,none⟩/\c=cap:=by simpa using hv
    have hadd:(⟨g,0,none⟩:Addr).add i=⟨g,i,none⟩:=by unfold Addr.add; split<;>simp_all
    have hlt:g<w.heap.size:=(Array.getElem?_eq_some_iff.1 hg).1
    have hgv:w.heap[g]=.cells cur e (0,0):=(Array.getElem?_eq_some_iff.1 hg).2
    have hnew:(w.setCell ⟨g,i,none⟩ v).heap[g]?=some (.cells (cur.setIfInBounds i v) e (0,0)):=by
      unfold World.setCell
      rw [Array.getElem?_eq_getElem (by simpa using hlt),Array.getElem_modify]
      simp [hgv]
    have hle:xs.length<=cur.size:=by rw [ho.1,hcs]; exact Nat.mul_le_mul_right _ hnc
    refine ⟨⟨by simp [ho.1],.inr ⟨g,c,_,rfl,hbg,by rw [hadd]; exact hnew,hnc,hcm,by simpa using hcs,?_⟩⟩,⟨⟨rfl,rfl,rfl,by simp [World.setCell],fun k hk hne=>?_⟩,.inl rfl⟩⟩
    · rw [Array.toList_setIfInBounds,List.take_set,htake]
    · refine Below.heap_setCell w _ v k ?_
      rw [hadd]; intro he; exact hne (by simp [blk,he])
theorem znZ {B:Nat} {e:TypeId} {s:Nat} {a:Addr} {n c:Nat}:∀ (vs:List Value) (k:Nat) (w:World) (xs:List Value) (off:Nat),Own B w e s (some a) n c xs->off+k+vs.length<=xs.length ->
    Own B (setCells w (a.add off) vs k) e s (some a) n c (zdG xs (off+k) vs)/\zco w (setCells w (a.add off) vs k) (some a) (some a)
  |[],k,w,xs,off,ho,_ => ⟨ho,⟨⟨rfl,rfl,rfl,Nat.le_refl _,fun _ _ _ => rfl⟩,.inl rfl⟩⟩
  |v::r,k,w,xs,off,ho,h => by
    simp only [List.length_cons] at h
    obtain ⟨h1,h2⟩:=zKO ho (i:=off+k) (by omega) v
    obtain ⟨h3,h4⟩:=znZ r (k+1) _ _ off h1 (by simp; omega)
    simp only [setCells,zdG,zfv]
    refine ⟨by rw [Nat.add_assoc]; exact h3,⟨⟨h4.by_.os.trans h2.by_.os,h4.by_.tape.trans h2.by_.tape,h4.by_.output.trans h2.by_.output,Nat.le_trans h2.by_.size h4.by_.size,fun j hj hne=>?_⟩,.inl rfl⟩⟩
    exact (h4.by_.block j (Nat.lt_of_lt_of_le hj h2.by_.size) hne).trans (h2.by_.block j hj hne)
theorem zaZ {B:Nat} {w:World} {e:TypeId} {s:Nat} {q a:Option Addr} {n c off:Nat} {xs vs:List Value} {ns:List Nat} {K:World->Prop}
    (ho:Own B w e s q n c xs) (ha:a=q.map (·.add off)) (hlen:off+vs.length<=xs.length) (hpos:vs≠[]) (h1:∀ v∈vs,v.oneCell'=true) (hns:∀ b∈ns,∀ x,q=some x->x.block≠b)
    (hk:∀ w',Own B w' e s q n c (zdG xs off vs)->zco w w' q q->K w'):zao w a vs ns K:=by
  cases q with
  |none =>
    rcases ho.2 with ⟨_,h2⟩|⟨g,cap,cur,hv,_⟩
    · have:=ho.1; rw [h2] at this; simp at this; subst this
      cases vs with
      |nil => exact absurd rfl hpos
      |cons v r => simp at hlen
    · simp at hv
  |some x =>
    simp only [Option.map_some] at ha
    subst ha
    have hcells:=ho.cells
    refine ⟨⟨by simp,fun i hi=>?_,fun i hi y hy=>?_,?_,h1⟩,fun w' hw'=>?_⟩
    · have:=hcells (off+i) _ (List.getElem?_eq_getElem (by omega))
      simp only [cell,Option.bind_some] at this ⊢
      rw [zfv,this]; rfl
    · obtain rfl:=Option.some.inj hy
      rcases ho.2 with ⟨hv,_⟩|⟨g,cap,cur,hv,hbg,hg,_⟩
      · simp at hv
      · obtain ⟨rfl,rfl⟩:x=⟨g,0,none⟩/\c=cap:=by simpa using hv
        unfold World.frozen?
        rw [zaU,zaU,hg]
        simp
    · intro b hb y hy
      obtain rfl:=Option.some.inj hy
      rw [zaU]; exact hns b hb x rfl
    · obtain ⟨h2,h3⟩:=znZ vs 0 w xs off ho (by simpa using hlen)
      rw [hw']
      exact hk _ h2 h3
theorem ztu {q:Option Addr} {i:Int} {n:Nat}:pIdx q i n=q.map (·.add (i.toNat*n)):=rfl
theorem zoF {q:Option Addr} {i:Int} {n m:Nat}:pAdd (pIdx q i n) m=q.map (·.add (i.toNat*n+m)):=by
  cases q<;>simp [pAdd,pIdx,zfv]
theorem store_int {B:Nat} {w:World} {e:TypeId} {k:IntKind} {q:Option Addr} {n c:Nat} {xs:List Int} {i x:Int} {ns:List Nat} {K:World->Prop}
    (ho:Own B w e 1 q n c (xs.map (.int k))) (h0:0<=i) (hi:i<xs.length) (hns:∀ b∈ns,∀ x,q=some x->x.block≠b)
    (hk:∀ w',Own B w' e 1 q n c ((xs.set i.toNat x).map (.int k))->zco w w' q q->K w'):zao w (pIdx q i 1) [.int k x] ns K:=by
  refine zaZ ho (by rw [ztu]) (by simp; omega) (by simp) (by simp [Value.oneCell']) hns fun w' h1 h2=>hk w' ?_ h2
  simpa [zdG,List.map_set] using h1
end Go.Sx
namespace Go.Sx
open Go.RowKit
variable {P:Program}
def zgt {α:Type} (s:Nat) (enc:α->List Value) (w:World) (p:Option Addr) (xs:List α):Prop:=∀ (i:Nat) (x:α),xs[i]?=some x->∀ (j:Nat) (u:Value),(enc x)[j]?=some u->cell w p (i*s+j)=some u
theorem zgt.ext {α:Type} {s:Nat} {enc:α->List Value} {w w':World} {p:Option Addr} {xs:List α} (h:zgt s enc w p xs) (he:Ext w w'):zgt s enc w' p xs:=fun i x hx j u hu=>zaD he (h i x hx j u hu)
theorem zgt.at {α:Type} {s:Nat} {enc:α->List Value} {w:World} {p:Option Addr} {xs:List α} (h:zgt s enc w p xs) {k:Int} (h0:0<=k) {x:α} (hx:xs[k.toNat]?=some x) {j:Nat} {u:Value} (hu:(enc x)[j]?=some u):cell w (pIdx p k s) j=some u:=by
  rw [zae]; exact h _ x hx j u hu
theorem getElem?_getD {α:Type} (xs:List α) (d:α) {i:Nat} (h:i<xs.length):xs[i]?=some (xs.getD i d):=by
  simp [h,List.getD_eq_getElem?_getD]
theorem zgt.idx {α:Type} {s:Nat} {enc:α->List Value} {w:World} {p:Option Addr} {xs:List α} (h:zgt s enc w p xs) (d:α) {k:Int} (h0:0<=k) (hk:k<xs.length) {j:Nat} {u:Value} (hu:(enc (xs.getD k.toNat d))[j]?=some u):cell w (pIdx p k s) j=some u :=
  h.at h0 (getElem?_getD xs d (by omega)) hu
theorem zai {w:World} {p:Option Addr} {j:Nat} {u:Value} (h:cell w p j=some u):p≠none:=by
  intro hp; subst hp; cases h
theorem zgt.ne {α:Type} {s:Nat} {enc:α->List Value} {w:World} {p:Option Addr} {xs:List α} (h:zgt s enc w p xs) {x:α} (hx:x∈xs) (he:enc x≠[]):p≠none:=by
  obtain ⟨i,hi⟩:=List.mem_iff_getElem?.1 hx
  cases hx2:enc x with
  |nil => exact absurd hx2 he
  |cons a r => exact zai (h i x hi 0 a (by rw [hx2]; rfl))
theorem zgt.lt {α:Type} {s:Nat} {enc:α->List Value} {w:World} {p:Option Addr} {xs:List α} (h:zgt s enc w p xs) {x:α} (hx:x∈xs) (he:enc x≠[]):∀ a,p=some a->a.block<w.heap.size:=by
  intro a ha
  obtain ⟨i,hi⟩:=List.mem_iff_getElem?.1 hx
  cases hx2:enc x with
  |nil => exact absurd hx2 he
  |cons b r =>
    obtain ⟨c,hc,hl,_⟩:=zdT (h i x hi 0 b (by rw [hx2]; rfl))
    rw [ha] at hc
    obtain rfl:=Option.some.inj hc
    exact hl
theorem Own.recs {α:Type} {B:Nat} {w:World} {e:TypeId} {s:Nat} {p:Option Addr} {n c:Nat} {xs:List α} {enc:α->List Value} (h:Own B w e s p n c (xs.flatMap enc)) (hs:∀ x∈xs,(enc x).length=s):zgt s enc w p xs:=by
  intro i x hx j u hu
  refine h.cells _ u ?_
  clear h
  induction xs generalizing i with
  |nil => simp at hx
  |cons a r ih =>
    have ha:=hs a (List.mem_cons_self ..)
    simp only [List.flatMap_cons]
    cases i with
    |zero =>
      simp at hx; subst hx
      rw [Nat.zero_mul,Nat.zero_add,List.getElem?_append_left (List.getElem?_eq_some_iff.1 hu).1]; exact hu
    |succ i =>
      rw [List.getElem?_append_right (by rw [Nat.add_mul]; omega)]
      have:=ih (fun x hx=>hs x (List.mem_cons_of_mem _ hx)) i (by simpa using hx)
      rw [show (i+1)*s+j-(enc a).length=i*s+j by rw [Nat.add_mul]; omega]
      exact this
theorem Own.int_at {B:Nat} {w:World} {e:TypeId} {p:Option Addr} {n c:Nat} {k:IntKind} {xs:List Int} (h:Own B w e 1 p n c (xs.map (.int k))) {i:Int} (h0:0<=i) (hi:i<xs.length):cell w (pIdx p i 1) 0=some (.int k (xs.getD i.toNat 0)) :=
  zdP.idx h.cells h0 hi
theorem Own.leni {B:Nat} {w:World} {e:TypeId} {p:Option Addr} {n c:Nat} {α:Type} {f:α->Value} {xs:List α} (h:Own B w e 1 p n c (xs.map f)):xs.length=n:=by
  have:=h.len; simpa using this
theorem Own.ne {B:Nat} {w:World} {e:TypeId} {s:Nat} {p:Option Addr} {n c:Nat} {xs:List Value} (h:Own B w e s p n c xs) (hx:xs≠[]):p≠none:=h.cells.ne hx
theorem Own.ne1 {B:Nat} {w:World} {e:TypeId} {s:Nat} {p:Option Addr} {n c:Nat} {xs:List Value} (h:Own B w e s p n c xs) (hn:0<n) (hs:0<s):p≠none:=by
  refine h.ne (fun hx=>?_)
  have h2:=Nat.mul_pos hn hs
  rw [<- h.len,hx] at h2
  simp at h2
theorem Own.free {B:Nat} {w:World} {e:TypeId} {s:Nat} {p:Option Addr} {n c:Nat} {xs:List Value} (h:Own B w e s p n c xs) {b:Nat} (hb:w.heap.size<=b):∀ b'∈[b],∀ x,p=some x->x.block≠b':=by
  intro b' hb' x hx
  simp at hb'; subst hb'
  have:=(h.lt x hx).2
  omega
theorem zGE {α:Type} (xs:List α) (d:α) (i j:Nat) (v:α) (h:i<xs.length):(xs.set i v).getD j d=if j=i then v else xs.getD j d:=by
  simp only [List.getD_eq_getElem?_getD,List.getElem?_set]
  by_cases hij:i=j
  · subst hij; simp [h]
  · simp [hij,Ne.symm hij]
theorem zzZ {t ty e:TypeId} {z:Value} {k:IntKind} {b:Nat} (he:zfW P t=some (e,1,b,z)) {B:Nat} {w:World} {p:Option Addr} {n c:Nat} {xs:List Int} {x:Int}
    {K:Option Addr->Nat->Nat->World->Prop} (ho:Own B w e 1 p n c (xs.map (.int k))) (hB:B<=w.heap.size) (hb:(n+1)*b<=140737488355328) (hm:n+1<=9223372036854775807)
    (hk:∀ p' c' w',Own B w' e 1 p' (n+1) c' ((xs++[x]).map (.int k))->zco w w' p p'->p'≠none->K p' (n+1) c' w') :
    ∀ w1,Ext w w1->Run P (.buildSlice t 1 [(0,.int k x)]) w1 fun v2 w2=>Ext w1 w2/\∃ q:Option Addr,∃ m:Nat,∃ d:Nat,v2=.slice q m d/\∀ w3,Ext w2 w3 ->
      Run P (.append #[t,t] ty [.slice p n c,.slice q m d]) w3 fun v4 w4=>∃ q':Option Addr,∃ m':Nat,∃ d':Nat,v4=.slice q' m' d'/\K q' m' d' w4 :=
  push he (by omega) ho hB rfl (by intro u hu; simp [Value.cells] at hu; subst hu; rfl) hb (by omega) hm fun p' c' w' h1 h2 h3=>hk p' c' w' (by simpa [Value.cells] using h1) h2 h3
theorem mk_ints {t e:TypeId} {b:Nat} {k:IntKind} (he:zfW P t=some (e,1,b,.int k 0)) {kl kc:IntKind} {n:Int} {w:World} {K:Value->World->Prop}
    (h0:0<=n) (hb:b*n.toNat<=281474976710656) (h63:n<=9223372036854775807)
    (hk:∀ w',(∀ B,B<=w.heap.size->Own B w' e 1 (some ⟨w.heap.size,0,none⟩) n.toNat n.toNat ((List.replicate n.toNat (0:Int)).map (.int k)))->Ext w w'->K (.slice (some ⟨w.heap.size,0,none⟩) n.toNat n.toNat) w'):Run P (.makeSlice t (.int kl n) (.int kc n)) w K :=
  zEv he h0 hb h63 fun w' h1 h2=>hk w' (fun B hB=>by have:=h1 B hB; rw [zzQ rfl] at this; simpa using this) h2
end Go.Sx
namespace Go.Sx
variable {P:Program}
end Go.Sx
namespace Go.Sx
variable {P:Program}
end Go.Sx
namespace Go.Sx
end Go.Sx
namespace Go.Sx
open Go.RowKit
theorem zaa {ns:List Nat} {w w':World} (h:zag [] ns w w'):Ext w w':=⟨h.os,h.tape,h.output,h.size,fun k hk=>h.block k hk (by simp)⟩
theorem zCu {B:Nat} {ds:List Nat} {w0 w w':World} (h:But ds w w') (hb:Below B w0 w) (hB:B<=w.heap.size) (hd:∀ d∈ds,B<=d):Below B w0 w' :=
  ⟨h.os.trans hb.os,h.tape.trans hb.tape,h.output.trans hb.output,Nat.le_trans hb.size h.size,fun k hk=>(h.block k (by omega) (fun hm=>by have:=hd k hm; omega)).trans (hb.block k hk)⟩
theorem zaw {ds ns:List Nat} {w0 w w':World} (h:zag ds ns w w') (hb:Ext w0 w) (hd:∀ d∈ds,w0.heap.size<=d):Ext w0 w':=zCu h.toBut hb hb.size hd
theorem Own.but {B:Nat} {w w':World} {e:TypeId} {s:Nat} {p:Option Addr} {n c:Nat} {xs:List Value} {ds:List Nat} (h:Own B w e s p n c xs) (hb:But ds w w') (hd:∀ d∈ds,∀ x,p=some x->x.block≠d):Own B w' e s p n c xs:=by
  refine ⟨h.1,h.2.imp id ?_⟩
  rintro ⟨g,cap,cur,h1,h2,h3,h4⟩
  refine ⟨g,cap,cur,h1,h2,?_,h4⟩
  have hlt:=(Array.getElem?_eq_some_iff.1 h3).1
  rw [hb.block g hlt (fun hm=>?_)]
  · exact h3
  · simp at h1
    exact hd g hm _ h1.1 rfl
theorem zbG {w:World} {t:TypeId} {vs:List Value} {K:Option Addr->World->Prop} (h1:∀ v∈vs,v.oneCell'=true)
    (h:∀ w',(∀ B,B<=w.heap.size->Own B w' t vs.length (some ⟨w.heap.size,0,none⟩) 1 1 vs)->Ext w w'->K (some ⟨w.heap.size,0,none⟩) w'):New w t vs K:=by
  refine ⟨h1,fun p w' hn=>?_⟩
  rw [hn.at_]
  refine h w' (fun B hB=>⟨by simp,.inr ⟨w.heap.size,1,vs.toArray,rfl,hB,hn.block,Nat.le_refl _,by simp [maxLen],by simp,by simp⟩⟩) hn.ext
theorem zfb (p:Option Addr):p=p.map (·.add 0):=by cases p<;>simp [add_zero]
theorem Own.size_lt {B:Nat} {w:World} {e:TypeId} {s:Nat} {b n c:Nat} {xs:List Value} (h:Own B w e s (some ⟨b,0,none⟩) n c xs):b<w.heap.size:=(h.lt _ rfl).2
end Go.Sx
namespace Go.Sx
open Go.RowKit
variable {P:Program}
theorem zfI {t ty e:TypeId} {z:Value} {k:IntKind} {b:Nat} (he:zfW P t=some (e,1,b,z)) {B:Nat} {w:World} {p:Option Addr} {n c:Nat} {xs:List Int} {x:Int} {ns:List Nat}
    {K:Option Addr->Nat->Nat->World->Prop} (ho:Own B w e 1 p n c (xs.map (.int k))) (hB:B<=w.heap.size) (hns:∀ b∈ns,∀ x,p=some x->x.block≠b) (hb:(n+1)*b<=140737488355328) (hm:n+1<=9223372036854775807)
    (hk:∀ p' c' w',Own B w' e 1 p' (n+1) c' ((xs++[x]).map (.int k))->zco w w' p p'->p'≠none->(∀ b∈ns,∀ x,p'=some x->x.block≠b)->K p' (n+1) c' w') :
    ∀ w1,zag [] ns w w1->Run P (.buildSlice t 1 [(0,.int k x)]) w1 fun v2 w2=>Ext w1 w2/\∃ q:Option Addr,∃ m:Nat,∃ d:Nat,v2=.slice q m d/\∀ w3,zag [] ns w2 w3 ->
      Run P (.append #[t,t] ty [.slice p n c,.slice q m d]) w3 fun v4 w4=>zbQ ns w3 w4/\∃ q':Option Addr,∃ m':Nat,∃ d':Nat,v4=.slice q' m' d'/\K q' m' d' w4:=by
  intro w1 x1
  have e1:=zaa x1
  refine zcE he [.int k x] rfl rfl (fun u hu=>by simp at hu; subst hu; rfl) (by omega) (by omega) fun w2 o2 e2=>⟨e2,_,_,_,rfl,fun w3 x3=>?_⟩
  have e3:=zaa x3
  have o2:=(o2 w1.heap.size (Nat.le_refl _)).ext e3
  have ho':=((ho.ext e1).ext e2).ext e3
  have hsz:B<=w3.heap.size:=Nat.le_trans hB (Nat.le_trans e1.size (Nat.le_trans e2.size e3.size))
  refine zna he (by omega) ho' hsz (by simp) (news:=[.int k x]) (by simp) (by simpa [Value.cells] using o2.cells) (by intro u hu; simp at hu; subst hu; rfl) hb hm fun p' c' w4 h2 h3 h4=>⟨fun b hb=>?_,_,_,_,rfl,hk p' c' w4 (by simpa using h2) ?_ ?_ ?_⟩
  · refine h3.by_.block b (x3.lt b hb) fun he=>?_
    cases p with
    |none => cases he
    |some y => simp [blk] at he; exact hns b hb y rfl he.symm
  · exact zco.of_ext e1 (zco.of_ext e2 (zco.of_ext e3 h3))
  · intro hn; have:=h4.1 hn; omega
  · intro b hb y hy heq
    rcases h3.new with hn|hn
    · subst hy
      cases p with
      |none => simp [blk] at hn
      |some z' => simp [blk] at hn; exact hns b hb z' rfl (by omega)
    · have:=hn y hy
      have:=x3.lt b hb
      omega
end Go.Sx
namespace Go.Sx
open Go.RowKit
variable {P:Program}
theorem zAb {t e:TypeId} {s b:Nat} {z:Value} (he:zfW P t=some (e,s,b,z)) {w:World} {K:Value->World->Prop}
    (hk:∀ w',(∀ B,B<=w.heap.size->Own B w' e s (some ⟨w.heap.size,0,none⟩) 0 0 [])->Ext w w'->K (.slice (some ⟨w.heap.size,0,none⟩) 0 0) w'):Run P (.buildSlice t 0 []) w K:=by
  obtain ⟨i,h1,h2,h3,rfl,rfl,h6⟩:=zd2 he
  refine ⟨_,w.alloc (.cells #[] e),?_,hk _ (fun B hB=>⟨by simp,.inr ⟨w.heap.size,0,#[],rfl,hB,heap_alloc_new w _,Nat.le_refl _,by simp [maxLen],by simp,by simp⟩⟩) ?_⟩
  · show (Instr.buildSlice t 0 #[]).run P w=_
    simp [Instr.buildSlice,run_underlying h1,sizeOf,typeInfo,zeroValue,h2,h3,newRow,Instr.fill]
    congr 2
    apply Array.eq_empty_of_size_eq_zero; simp
  · exact Below.alloc (Below.refl _ _) (Nat.le_refl _) _
theorem Own.pre {B:Nat} {w:World} {e:TypeId} {s:Nat} {p:Option Addr} {n c m:Nat} {xs:List Value} (h:Own B w e s p n c xs) (hm:m<=n):Own B w e s p m c (xs.take (m*s)):=by
  have hle:m*s<=n*s:=Nat.mul_le_mul_right _ hm
  refine ⟨by rw [List.length_take,h.1]; omega,?_⟩
  rcases h.2 with ⟨hv,hn⟩|⟨g,cap,cur,hv,hb,hg,hnc,hcm,hcs,ht⟩
  · left
    obtain ⟨rfl,_,rfl⟩:p=none/\n=0/\c=0:=by simpa using hv
    exact ⟨by rw [show m=0 by omega],by omega⟩
  · right
    obtain ⟨rfl,_,rfl⟩:p=some ⟨g,0,none⟩/\n=n/\c=cap:=by simpa using hv
    refine ⟨g,c,cur,rfl,hb,hg,by omega,hcm,hcs,?_⟩
    rw [<- ht,List.take_take,Nat.min_eq_left hle]
end Go.Sx
namespace Go.Sx
open Go.RowKit
variable {P:Program}
section flat
variable {α:Type} {enc:α->List Value} {s:Nat}
theorem zfd (hs:∀ x,(enc x).length=s) (L:List α):(L.flatMap enc).length=L.length*s:=by
  induction L with
  |nil => simp
  |cons a r ih => rw [List.flatMap_cons,List.length_append,ih,hs,List.length_cons,Nat.add_mul]; omega
theorem recs_take (hs:∀ x,(enc x).length=s) (L:List α) (m:Nat):(L.flatMap enc).take (m*s)=(L.take m).flatMap enc:=by
  induction L generalizing m with
  |nil => simp
  |cons a r ih =>
    cases m with
    |zero => simp
    |succ m => rw [List.flatMap_cons,List.take_succ_cons,List.flatMap_cons,<- ih m,show (m+1)*s=(enc a).length+m*s by rw [hs,Nat.add_mul]; omega,List.take_length_add_append]
theorem zEi (hs:∀ x,(enc x).length=s) (L:List α) (m:Nat):(L.flatMap enc).drop (m*s)=(L.drop m).flatMap enc:=by
  induction L generalizing m with
  |nil => simp
  |cons a r ih =>
    cases m with
    |zero => simp
    |succ m => rw [List.flatMap_cons,List.drop_succ_cons,<- ih m,show (m+1)*s=(enc a).length+m*s by rw [hs,Nat.add_mul]; omega,List.drop_length_add_append]
theorem zm9 (hs:∀ x,(enc x).length=s) {w:World} {p:Option Addr} {L:List α} (h:zgt s enc w p L):zav w p (L.flatMap enc):=by
  have key:∀ (L:List α) (off:Nat),(∀ (i:Nat) (x:α),L[i]?=some x->∀ (j:Nat) (u:Value),(enc x)[j]?=some u->cell w p ((off+i)*s+j)=some u)->∀ (k:Nat) (v:Value),(L.flatMap enc)[k]?=some v->cell w p (off*s+k)=some v:=by
    intro L
    induction L with
    |nil => intro off _ k v hv; simp at hv
    |cons a r ih =>
      intro off hc k v hv
      rw [List.flatMap_cons] at hv
      by_cases hk:k<s
      · rw [List.getElem?_append_left (by rw [hs]; exact hk)] at hv
        exact hc 0 a rfl k v hv
      · rw [List.getElem?_append_right (by rw [hs]; omega),hs] at hv
        have:=ih (off+1) (fun i x hx j u hu=>by
          have:=hc (i+1) x (by simpa using hx) j u hu
          rwa [show off+1+i=off+(i+1) by omega]) (k-s) v hv
        rwa [show (off+1)*s+(k-s)=off*s+k by rw [Nat.add_mul]; omega] at this
  intro k v hv
  have:=key L 0 (fun i x hx j u hu=>by rw [Nat.zero_add]; exact h i x hx j u hu) k v hv
  simpa using this
theorem zz1 (h1:∀ x,∀ u∈enc x,u.oneCell'=true) (L:List α):∀ u∈L.flatMap enc,u.oneCell'=true:=fun u hu=>by
  obtain ⟨x,_,hx⟩:=List.mem_flatMap.1 hu
  exact h1 x u hx
end flat
theorem zpa {t ty e:TypeId} {s b:Nat} {z:Value} (he:zfW P t=some (e,s,b,z)) (hs:0<s) {w:World} {q:Option Addr} {n c:Nat} {xs:List Value} {Q:Value->World->Prop}
    (hx:zav w q xs) (hl:xs.length=n*s) (h1:∀ u∈xs,u.oneCell'=true) (hb:n*b<=140737488355328) (hn:n<=9223372036854775807) (hq:q≠none)
    (hk:∀ p' c' w',Ext w w'->Own w.heap.size w' e s p' n c' xs->Q (.slice p' n c') w') :
    ∀ w0,Ext w w0->Run P (.buildSlice t 0 []) w0 fun v1 w1=>Ext w0 w1/\∃ t2:Option Addr,∃ tl3:Nat,∃ tc4:Nat,v1=(.slice t2 tl3 tc4) /\
      ∀ w5,Ext w1 w5->Run P (.append #[t,t] ty [(.slice t2 tl3 tc4),(.slice q n c)]) w5 fun v6 w6=>∃ t7:Option Addr,∃ tl8:Nat,∃ tc9:Nat,v6=(.slice t7 tl8 tc9)/\∀ w10,Ext w6 w10->Q (.slice t7 tl8 tc9) w10:=by
  intro w0 h0
  refine zAb he fun w1 o1 e1=>⟨e1,_,_,_,rfl,fun w5 h5=>?_⟩
  have o5:=(o1 w.heap.size h0.size).ext h5
  have hx5:=(h0.trans e1).trans h5
  refine zna he hs o5 hx5.size hq (news:=xs) hl (hx.ext hx5) h1 (by rw [Nat.zero_add]; exact hb) (by omega) fun p' c' w6 o6 g6 _=>⟨_,_,_,rfl,fun w10 h10=>?_⟩
  simp only [Nat.zero_add,List.nil_append] at o6 ⊢
  exact hk _ _ _ ((g6.ext hx5 o5).trans h10) (o6.ext h10)
end Go.Sx
namespace Go.Sx
theorem Own.st {B:Nat} {w w':World} {e:TypeId} {s:Nat} {p q q':Option Addr} {n c:Nat} {xs:List Value} (h:Own B w e s p n c xs) (ha:zbK p q) (hg:zco w w' q q'):Own B w' e s p n c xs:=h.grew (B':=0) ha hg
end Go.Sx
namespace Go.Sx
open Go.RowKit
variable {P:Program}
theorem zeI {w:World}:∀ {l:List (String×DataW Unit)} {ps:List MemPlace},DataW.LaidVars P w l ps->∀ x∈l,
    ∃ g t cs fuel p,P.globalNamed x.1=some g/\(P.globals[g]?).map (·.type)=some t/\w.var? P x.1=some cs/\DataW.trod (fun _=>()) P w 0 (fun _=>true) false fuel t cs.toList=some (x.2,p)
  |[],ps,_,x,hx => by cases hx
  |(n,d)::r,ps,h,x,hx => by
    obtain ⟨g,t,cs,fuel,p,q,h1,h2,h3,h4,h5,_⟩:=h
    rcases List.mem_cons.1 hx with rfl|hx
    · exact ⟨g,t,cs,fuel,p,h1,h2,h3,h4⟩
    · exact zeI h5 x hx
end Go.Sx
namespace Go.Sx
open Go.RowKit
variable {P:Program}
theorem zvP {t:TypeId} {k:IntKind} (h:P.underlying t=some (.int k)) {xs:Array Value} {off:Nat} {v:Value} (hx:xs[off]?=some v) (w:World):(part t xs off).run P w=.ok v w:=by
  simp [part,isAgg,run_underlying h,hx]
end Go.Sx
namespace Go.Sx
open Go.RowKit
variable {P:Program}
theorem zlm {k:IntKind} (xs ys:List Int) (w:World) (he:xs.length=ys.length):∀ (fs:List Field) (off:Nat),off+fs.length=xs.length ->
    fs.map (fun f => (f.name != "_", P.underlying f.type, f.offset)) = (List.range' off fs.length).map (fun i => (true, some (.int k), i)) ->
    (Op.eqFields 9999 (xs.map (Value.int k)).toArray (ys.map (Value.int k)).toArray fs).run P w=.ok (decide (xs.drop off=ys.drop off)) w
  |[],off,hl,_ => by
    simp only [List.length_nil,Nat.add_zero] at hl
    rw [List.drop_of_length_le (by omega),List.drop_of_length_le (by omega)]
    simp [Op.eqFields]
  |f::fs,off,hl,hf => by
    rw [List.length_cons,List.range'_succ,List.map_cons,List.map_cons,List.cons.injEq,Prod.mk.injEq,Prod.mk.injEq] at hf
    obtain ⟨⟨n1,u1,o1⟩,hr⟩:=hf
    have h1:off<xs.length:=by simp only [List.length_cons] at hl; omega
    have n1 : f.name ≠ "_" := by simpa using n1
    have p1:∀ zs:List Int,(h:off<zs.length)->(part f.type (zs.map (Value.int k)).toArray f.offset).run P w=.ok (.int k zs[off]) w:=fun zs h=>zvP u1 (by rw [o1]; simp [h]) w
    have q1:(Op.equalIn 9999 f.type (.int k xs[off]) (.int k (ys[off]'(he▸h1)))).run P w=.ok (xs[off]==ys[off]'(he▸h1)) w:=run_equalIn_int w 9998 _ _ _ _ _ u1
    have ih:=zlm xs ys w he fs (off+1) (by simp only [List.length_cons] at hl; omega) hr
    have d1:xs.drop off=xs[off]::xs.drop (off+1):=List.drop_eq_getElem_cons h1
    have d2:ys.drop off=ys[off]'(he▸h1)::ys.drop (off+1):=List.drop_eq_getElem_cons (he▸h1)
    simp only [Op.eqFields,n1,ne_eq,not_false_eq_true,if_true,Sem.run_bind,p1 xs h1,p1 ys (he▸h1),q1,Result.andThen_ok,Sem.run_ite,Sem.run_pure]
    have hd:decide (xs.drop off=ys.drop off)=decide (xs[off]=ys[off]'(he▸h1)/\xs.drop (off+1)=ys.drop (off+1)):=by
      rw [decide_eq_decide,d1,d2,List.cons.injEq]
    rw [hd]
    clear d1 d2 hd
    by_cases e1:xs[off]=ys[off]'(he▸h1)
    · simp [e1,ih]
    · simp [e1]
theorem znI {t:TypeId} {k:IntKind} {n:Nat} (ht:P.underlying t=some (.struct (P.fieldsOf t))) (hp:P.stoodInHeld t=false)
    (hf : (P.fieldsOf t).toList.map (fun f => (f.name != "_", P.underlying f.type, f.offset)) = (List.range' 0 n).map (fun i => (true, some (.int k), i))) (xs ys : List Int) (hx : xs.length = n) (hy : ys.length = n) (w : World) :
    (Op.equalIn 10000 t (.agg (xs.map (Value.int k)).toArray) (.agg (ys.map (Value.int k)).toArray)).run P w=.ok (decide (xs=ys)) w:=by
  have hn:(P.fieldsOf t).toList.length=n:=by simpa using congrArg List.length hf
  rw [run_equalIn_struct w 9999 t _ _ ht hp,zlm xs ys w (by omega) _ 0 (by omega) (by rw [hn]; exact hf)]
  simp
theorem zK1 {t:TypeId} {k:IntKind} {n:Nat} (ht:P.underlying t=some (.struct (P.fieldsOf t))) (hp:P.stoodInHeld t=false) (hm:P.eqGuardType P.depth t=false)
    (hf : (P.fieldsOf t).toList.map (fun f => (f.name != "_", P.underlying f.type, f.offset)) = (List.range' 0 n).map (fun i => (true, some (.int k), i))) (xs ys : List Int) (hx : xs.length = n) (hy : ys.length = n)
    {cx cy:Bool} {w:World} {K:Value->World->Prop} (hk:K (.bool (decide (xs=ys))) w):Run P (.eq .eql t cx cy (.agg (xs.map (Value.int k)).toArray) (.agg (ys.map (Value.int k)).toArray)) w K:=by
  refine ⟨_,w,?_,hk⟩
  show (do eqGuard .eql t _ _ (.agg (xs.map (Value.int k)).toArray) (.agg (ys.map (Value.int k)).toArray); binOp .eql t (.agg (xs.map (Value.int k)).toArray) (.agg (ys.map (Value.int k)).toArray):Sem Value).run P w=_
  rw [Sem.run_bind,run_eqGuard_agg w _ _ _ _ _ _ hm,Result.andThen_ok,run_eql_struct,znI ht hp hf xs ys hx hy]
  rfl
theorem zK3 {t:TypeId} {k:IntKind} {n:Nat} (ht:P.underlying t=some (.struct (P.fieldsOf t))) (hp:P.stoodInHeld t=false) (hm:P.eqGuardType P.depth t=false)
    (hf : (P.fieldsOf t).toList.map (fun f => (f.name != "_", P.underlying f.type, f.offset)) = (List.range' 0 n).map (fun i => (true, some (.int k), i))) (xs ys : List Int) (hx : xs.length = n) (hy : ys.length = n)
    {cx cy:Bool} {w:World} {K:Value->World->Prop} (hk:K (.bool (!decide (xs=ys))) w):Run P (.eq .neq t cx cy (.agg (xs.map (Value.int k)).toArray) (.agg (ys.map (Value.int k)).toArray)) w K:=by
  refine ⟨_,w,?_,hk⟩
  show (do eqGuard .neq t _ _ (.agg (xs.map (Value.int k)).toArray) (.agg (ys.map (Value.int k)).toArray); binOp .neq t (.agg (xs.map (Value.int k)).toArray) (.agg (ys.map (Value.int k)).toArray):Sem Value).run P w=_
  rw [Sem.run_bind,run_eqGuard_agg w _ _ _ _ _ _ hm,Result.andThen_ok,run_neq_struct,znI ht hp hf xs ys hx hy]
  rfl
end Go.Sx
namespace Go.Sx
def zdH:Nat->(Nat->Int)->Int
  |0,_ => 0
  |n+1,f => zdH n f+f n
theorem zfm {f g:Nat->Int}:∀ {n:Nat},(∀ i,i<n->f i=g i)->zdH n f=zdH n g
  |0,_ => rfl
  |n+1,h => by simp only [zdH]; rw [zfm (n:=n) (fun i hi => h i (by omega)),h n (by omega)]
theorem zqg {f g:Nat->Int}:∀ {n:Nat},(∀ i,i<n->f i<=g i)->zdH n f<=zdH n g
  |0,_ => Int.le_refl _
  |n+1,h => by
    simp only [zdH]
    have:=zqg (n:=n) (fun i hi=>h i (by omega))
    have:=h n (by omega)
    omega
theorem zoM (f g:Nat->Int):∀ n:Nat,zdH n (fun i=>f i+g i)=zdH n f+zdH n g
  |0 => rfl
  |n+1 => by simp only [zdH]; rw [zoM f g n]; omega
theorem zjn:∀ n:Nat,zdH n (fun _=>0)=0
  |0 => rfl
  |n+1 => by simp only [zdH]; rw [zjn n]; rfl
theorem zqh {f:Nat->Int} {n:Nat} (h:∀ i,i<n->0<=f i):0<=zdH n f:=by
  have:=zqg (f:=fun _=>0) (g:=f) h
  rw [zjn] at this; exact this
theorem zh5 (k:Nat) (c:Int):∀ n:Nat,zdH n (fun i=>if i=k then c else 0)=if k<n then c else 0
  |0 => by simp [zdH]
  |n+1 => by
    simp only [zdH]; rw [zh5 k c n]
    by_cases h:k<n
    · rw [if_pos h,if_neg (by omega),if_pos (by omega)]; omega
    · by_cases h2:n=k
      · rw [if_neg h,if_pos h2,if_pos (by omega)]; omega
      · rw [if_neg h,if_neg h2,if_neg (by omega)]; rfl
theorem zyq {f g:Nat->Int} {n k:Nat} (hk:k<n) (h:∀ i,i<n->f i<=g i) (hlt:f k<g k):zdH n f<zdH n g:=by
  have h1:zdH n (fun i=>f i+if i=k then 1 else 0)<=zdH n g:=zqg fun i hi=>by
    by_cases hik:i=k
    · subst hik; simp; omega
    · simp [hik]; exact h i hi
  rw [zoM,zh5,if_pos hk] at h1
  omega
def cnt (x:Int):List Int->Int
  |[] => 0
  |y::r => cnt x r+if y=x then 1 else 0
theorem zjF (x:Int):∀ l r:List Int,cnt x (l++r)=cnt x l+cnt x r
  |[],r => by simp [cnt]
  |y::l,r => by simp only [List.cons_append,cnt]; rw [zjF x l r]; omega
theorem zzg {x:Int}:∀ {l:List Int},(∀ y∈l,y≠x)->cnt x l=0
  |[],_ => rfl
  |y::l,h => by simp only [cnt]; rw [zzg (fun z hz => h z (List.mem_cons_of_mem _ hz)),if_neg (h y (List.mem_cons_self ..))]; rfl
theorem zw8 {x:Int} {l:List Int} (h:0<cnt x l):x∈l:=by
  apply Classical.byContradiction
  intro hn
  have:=zzg (x:=x) (l:=l) (fun y hy he=>hn (he▸hy))
  omega
theorem zrQ (S:Nat->Bool) (n:Nat):∀ l:List Int,(∀ y∈l,∃ i:Nat,y=i/\i<n/\S i=true)->zdH n (fun i=>if S i then cnt i l else 0)=l.length
  |[],_ => by
    have:zdH n (fun i=>if S i then cnt i [] else 0)=zdH n (fun _=>0):=zfm fun i _=>by simp [cnt]
    rw [this,zjn]; simp
  |y::l,h => by
    have ih:=zrQ S n l (fun z hz=>h z (List.mem_cons_of_mem _ hz))
    obtain ⟨k,rfl,hk,hS⟩:=h y (List.mem_cons_self ..)
    have:zdH n (fun i=>if S i then cnt i ((k:Int)::l) else 0)=zdH n (fun i=>(if S i then cnt i l else 0)+if i=k then 1 else 0):=zfm fun i _=>by
      simp only [cnt]
      by_cases hik:i=k
      · subst hik; simp [hS]
      · have:¬ ((k:Int)=(i:Int)):=by omega
        simp only [this,hik,if_false]
        split<;>simp
    rw [this,zoM,zh5,if_pos hk,ih]
    simp
end Go.Sx
namespace Go.Sx
end Go.Sx
namespace Go.Sx
theorem zap {α:Type} (l:List α) (d:α) {i:Nat} (h:i<l.length):l.getD i d∈l:=by
  rw [List.getD_eq_getElem?_getD]; simp [h]
end Go.Sx
namespace Go.Sx
theorem ztL (n:Nat):zdH n (fun _=>1)=n:=by
  induction n with
  |zero => rfl
  |succ n ih => simp only [zdH]; rw [ih]; omega
theorem zpc {n:Nat} {l:List Int} (h:∀ y∈l,∃ i:Nat,y=i/\i<n):zdH n (fun i=>cnt i l)=l.length:=by
  have:=zrQ (fun _=>true) n l (fun y hy=>by obtain ⟨i,h1,h2⟩:=h y hy; exact ⟨i,h1,h2,rfl⟩)
  simpa using this
end Go.Sx
namespace Go.Sx
abbrev U (x:Int):Prop:=InR .u64 x
theorem zfR {x:Int}:U x↔0<=x/\x<18446744073709551616:=by
  unfold U InR; simp [IntKind.min,IntKind.max,IntKind.signed,IntKind.bits]; omega
def bv (x:Int):BitVec 64:=BitVec.ofInt 64 x
def tb (x:Int) (i:Nat):Bool:=(bv x).getLsbD i
theorem zLk {n:Nat} (h:n<18446744073709551616):IntKind.wrap .u64 (n:Int)=n:=by
  simp [IntKind.wrap,IntKind.signed,IntKind.bits]; omega
theorem zw5 (v:BitVec 64):bv (IntKind.wrap .u64 (v.toNat:Int))=v:=by
  have hlt:=v.isLt
  rw [zLk (by omega)]
  unfold bv
  apply BitVec.eq_of_toNat_eq
  rw [BitVec.toNat_ofInt]
  have:((v.toNat:Int)%(2^64:Nat)).toNat=v.toNat:=by
    rw [Int.emod_eq_of_lt (by omega) (by omega)]; simp
  exact this
theorem zCe (v:BitVec 64):U (IntKind.wrap .u64 (v.toNat:Int)):=by
  have hlt:=v.isLt
  rw [zLk (by omega),zfR]; omega
theorem zCv {x:Int} (h:U x):(bv x).toNat=x.toNat:=by
  rw [zfR] at h
  unfold bv
  rw [BitVec.toNat_ofInt,Int.emod_eq_of_lt (by omega) (by omega)]
theorem zfL {x:Int} (h:U x) (i:Nat):tb x i=x.toNat.testBit i:=by
  unfold tb; rw [<- BitVec.testBit_toNat,zCv h]
theorem zHP {x:Int} {i:Nat} (h:tb x i=true):i<64:=by
  unfold tb at h
  exact BitVec.lt_of_getLsbD h
theorem zCd {x y:Int} (hx:U x) (hy:U y) (h:∀ i,i<64->tb x i=tb y i):x=y:=by
  have:bv x=bv y:=BitVec.eq_of_getLsbD_eq fun i hi=>h i hi
  have h2:=congrArg BitVec.toNat this
  rw [zCv hx,zCv hy] at h2
  rw [zfR] at hx hy
  omega
theorem zdu (i:Nat):tb 0 i=false:=by
  rw [zfL (by rw [zfR]; omega)]; simp
theorem zsL {x:Int} (hx:U x):x=0↔∀ i,i<64->tb x i=false:=by
  constructor
  · rintro rfl i _; exact zdu i
  · intro h; exact zCd hx (by rw [zfR]; omega) fun i hi=>by rw [h i hi,zdu]
theorem zDN {x:Int} (hx:U x):x≠0↔∃ i,tb x i=true:=by
  rw [ne_eq,zsL hx]
  constructor
  · intro h
    apply Classical.byContradiction
    intro hn
    exact h fun i _=>by
      cases hb:tb x i
      · rfl
      · exact absurd ⟨i,hb⟩ hn
  · rintro ⟨i,hi⟩ h
    rw [h i (zHP hi)] at hi; cases hi
theorem zyr (x y:Int) (i:Nat):tb (zan .or .u64 x y) i=(tb x i||tb y i):=by
  unfold tb zan
  have:=zw5 (bv x ||| bv y)
  unfold bv at this ⊢
  rw [show IntKind.bits .u64=64 from rfl,this]; simp
theorem zAk (x y:Int) (i:Nat):tb (zan .and .u64 x y) i=(tb x i&&tb y i):=by
  unfold tb zan
  have:=zw5 (bv x &&& bv y)
  unfold bv at this ⊢
  rw [show IntKind.bits .u64=64 from rfl,this]; simp
theorem zqj (x y:Int) (i:Nat):tb (zan .andNot .u64 x y) i=(tb x i&&!tb y i):=by
  unfold tb zan
  have:=zw5 (bv x &&& ~~~ bv y)
  unfold bv at this ⊢
  rw [show IntKind.bits .u64=64 from rfl,this]
  by_cases h:i<64
  · simp [h]
  · have h1:(BitVec.ofInt 64 x).getLsbD i=false:=BitVec.getLsbD_of_ge _ _ (by omega)
    simp [h1]
theorem U_or (x y:Int):U (zan .or .u64 x y):=zCe (bv x ||| bv y)
theorem zFN (x y:Int):U (zan .and .u64 x y):=zCe (bv x &&& bv y)
theorem zst (x y:Int):U (zan .andNot .u64 x y):=zCe (bv x &&& ~~~ bv y)
theorem ztH {i:Int} (h0:0<=i) (h1:i<64):zan .shl .u64 1 i=((2^i.toNat:Nat):Int):=by
  have hm:min i.toNat (IntKind.bits .u64)=i.toNat:=by rw [show IntKind.bits .u64=64 from rfl]; omega
  simp only [zan,hm]
  have hp:2^i.toNat<18446744073709551616:=by
    have:2^i.toNat<2^64:=Nat.pow_lt_pow_right (by omega) (by omega)
    simpa using this
  rw [show (1:Int)*2^i.toNat=((2^i.toNat:Nat):Int) by simp]
  exact zLk hp
theorem U_pow {i:Nat} (h:i<64):U ((2^i:Nat):Int):=by
  have:2^i<2^64:=Nat.pow_lt_pow_right (by omega) h
  rw [zfR]
  generalize 2^i=p at this ⊢
  omega
theorem zwb {i:Int} (h0:0<=i) (h1:i<64) (j:Nat):tb (zan .shl .u64 1 i) j=decide (j=i.toNat):=by
  rw [ztH h0 h1,zfL (U_pow (by omega)),Int.toNat_natCast,Nat.testBit_two_pow]
  by_cases h:i.toNat=j
  · subst h; simp
  · simp [h,Ne.symm h]
theorem full {n:Int} (h0:0<=n) (h1:n<64):U (zan .shl .u64 1 n-1)/\∀ j,tb (zan .shl .u64 1 n-1) j=decide (j<n.toNat):=by
  have hp:2^n.toNat<2^64:=Nat.pow_lt_pow_right (by omega) (by omega)
  have hpos:0<2^n.toNat:=Nat.pow_pos (by omega)
  have hU:U (zan .shl .u64 1 n-1):=by rw [ztH h0 h1,zfR]; omega
  refine ⟨hU,fun j=>?_⟩
  rw [zfL hU,ztH h0 h1]
  rw [show (((2^n.toNat:Nat):Int)-1).toNat=2^n.toNat-1 by omega]
  rw [Nat.testBit_two_pow_sub_one]
theorem zEB {x i:Int} (hx:U x) (h0:0<=i) (h1:i<64):zan .and .u64 (zan .shr .u64 x i) 1=if tb x i.toNat then 1 else 0:=by
  have hm:min i.toNat (IntKind.bits .u64)=i.toNat:=by rw [show IntKind.bits .u64=64 from rfl]; omega
  have hx':=zfR.1 hx
  have hs:zan .shr .u64 x i=((x.toNat >>> i.toNat:Nat):Int):=by
    simp only [zan,hm]
    rw [Int.fdiv_eq_ediv_of_nonneg _ (by exact_mod_cast Nat.zero_le (2^i.toNat)),Nat.shiftRight_eq_div_pow]
    rw [Int.natCast_ediv,Int.toNat_of_nonneg hx'.1]
    simp
  have hlt:x.toNat >>> i.toNat<18446744073709551616:=by
    rw [Nat.shiftRight_eq_div_pow]
    exact Nat.lt_of_le_of_lt (Nat.div_le_self _ _) (by omega)
  have hUs:U (zan .shr .u64 x i):=by
    rw [hs,zfR]
    generalize x.toNat >>> i.toNat=p at hlt ⊢
    omega
  have h1U:U 1:=by rw [zfR]; omega
  have hone:∀ j,tb 1 j=decide (j=0):=by
    intro j
    rw [zfL h1U,show (1:Int).toNat=2^0 from rfl,Nat.testBit_two_pow]
    by_cases h:0=j
    · subst h; simp
    · simp [h,Ne.symm h]
  have hbit:∀ j,tb (zan .and .u64 (zan .shr .u64 x i) 1) j=(decide (j=0)&&tb x i.toNat):=by
    intro j
    rw [zAk,hone,zfL hUs,hs,Int.toNat_natCast,Nat.testBit_shiftRight,zfL hx]
    by_cases h:j=0
    · subst h; simp
    · simp [h]
  split
  · rename_i hb
    refine zCd (zFN _ _) h1U fun j _=>?_
    rw [hbit,hb,hone]; simp
  · rename_i hb
    refine zCd (zFN _ _) (by rw [zfR]; omega) fun j _=>?_
    rw [hbit,zdu]
    simp [hb]
end Go.Sx
namespace Go.Sx
end Go.Sx
namespace Go.Proofs.YtcceeahmcecbnaaGreatDoor
open Go.Sx Go.RowKit
abbrev zdo:FuncId:=66
abbrev zcV:FuncId:=80
abbrev zbC:FuncId:=90
abbrev zbk:FuncId:=92
abbrev zbT:FuncId:=94
abbrev zbi:FuncId:=109
abbrev zhm:FuncId:=127
abbrev zeg:FuncId:=128
abbrev zdO:FuncId:=149
abbrev zeF:FuncId:=158
abbrev zhv:FuncId:=171
abbrev zbf:FuncId:=173
abbrev zfr:FuncId:=176
abbrev zeh:FuncId:=228
abbrev zdd:TypeId:=2
abbrev zd8:TypeId:=3
abbrev zug:TypeId:=4
abbrev zaQ:TypeId:=5
abbrev zay:TypeId:=9
abbrev zio:TypeId:=44
abbrev zck:TypeId:=45
abbrev zdQ:TypeId:=47
abbrev zjC:TypeId:=48
abbrev zAE:TypeId:=57
abbrev ziT:TypeId:=60
abbrev zB0:TypeId:=68
abbrev zAD:TypeId:=74
abbrev zdR:TypeId:=76
abbrev zfu:TypeId:=80
abbrev zH3:TypeId:=85
abbrev zoo:TypeId:=102
abbrev zmp:TypeId:=113
abbrev zdq:TypeId:=128
abbrev zH4:TypeId:=145
abbrev zB5:TypeId:=153
abbrev zwS:TypeId:=192
abbrev zel:TypeId:=199
abbrev zgu:TypeId:=211
abbrev zem:TypeId:=213
abbrev zlc:TypeId:=215
abbrev zbb:TypeId:=218
abbrev zal:TypeId:=220
abbrev zb5:TypeId:=222
abbrev zuf:TypeId:=348
theorem zbX:zfW Tryz.prog 22=some (9,1,16,(.string (⟨#[]⟩:ByteArray))):=by kernel_rfl
theorem zgc:zfW Tryz.prog 34=some (76,8,88,(.agg #[(.string (⟨#[]⟩:ByteArray)),(.slice none 0 0),(.int .i64 0),(.int .i64 0),(.int .i64 0),(.int .i64 0),(.int .i64 0),(.int .i64 0)])):=by kernel_rfl
theorem zfz:zfW Tryz.prog 45=some (47,5,72,(.agg #[(.int .i64 0),(.string (⟨#[]⟩:ByteArray)),(.string (⟨#[]⟩:ByteArray)),(.int .i64 0),(.slice none 0 0)])):=by kernel_rfl
theorem zds:zfW Tryz.prog 48=some (3,1,8,(.int .i64 0)):=by kernel_rfl
theorem zsI:zfW Tryz.prog 54=some (68,2,16,(.agg #[(.int .i64 0),(.int .i64 0)])):=by kernel_rfl
theorem zlk:zfW Tryz.prog 74=some (113,2,32,(.agg #[(.string (⟨#[]⟩:ByteArray)),(.string (⟨#[]⟩:ByteArray))])):=by kernel_rfl
theorem zux:zfW Tryz.prog 83=some (85,2,16,(.agg #[(.int .i64 0),(.int .i64 0)])):=by kernel_rfl
theorem zuy:zfW Tryz.prog 153=some (44,3,24,(.agg #[(.int .i64 0),(.int .i64 0),(.int .i64 0)])):=by kernel_rfl
theorem zqN:zfW Tryz.prog 157=some (102,1,8,(.int .u64 0)):=by kernel_rfl
theorem zhH:zfW Tryz.prog 212=some (218,1,8,(.pointer none)):=by kernel_rfl
theorem zmz:zfW Tryz.prog 271=some (275,2,24,(.agg #[(.string (⟨#[]⟩:ByteArray)),(.pointer none)])):=by kernel_rfl
def zrr (e:ByteArray) (f k l m n:Int) (o p:ByteArray) (q:Int) (t:Option Addr) (r u:Nat) (v:Option Addr) (s w:Nat) (b:World) (g:Value->World->Prop):Prop:=
 ∀ h:Nat,b.heap.size<=h->((((e=(⟨#[]⟩:ByteArray))/\(f=0))->∀ a,Ext b a->Run Tryz.prog (.eq .eql 44 false false (.agg #[(.int .i64 k),(.int .i64 l),(.int .i64 m)]) (.agg #[(.int .i64 0),(.int .i64 0),(.int .i64 0)])) a fun i j=>Ext a j/\∃ c,i=(.bool c)/\∀ d,Ext b d->g (.bool ((((((c&&(decide ((s:Int)=0)))&&(decide (n=0)))&&(decide (o=(⟨#[]⟩:ByteArray))))&&(decide (p=(⟨#[]⟩:ByteArray))))&&(decide (q=0)))&&(decide ((r:Int)=0)))) d))/\(((e≠(⟨#[]⟩:ByteArray))\/(f≠0))->∀ a,Ext b a->g (.bool false) a)
theorem zqZ (a:ByteArray) (b c d e f:Int) (g i:ByteArray) (j:Int) (k:Option Addr) (l m:Nat) (n:Option Addr) (o p:Nat) (q:World) (r:Value->World->Prop) (h:zrr a b c d e f g i j k l m n o p q r):FnP Tryz.prog zhm #[(.agg #[(.string a),(.int .i64 b),(.int .i64 c),(.int .i64 d),(.int .i64 e),(.int .i64 f),(.string g),(.string i),(.int .i64 j),(.slice k l m),(.slice n o p)])] q r:=
 zab (Eq.mp (by kernel_rfl:_=Runs Tryz.prog r ({N:=54}:Cfg) Tryz.f127 (Tryz.f127.body.getD .skip) [.agg [.str a,.int .i64 b,.int .i64 c,.int .i64 d,.int .i64 e,.int .i64 f,.str g,.str i,.int .i64 j,.slc k l m,.slc n o p]] q) h) Tryz.func127 (by kernel_rfl) (fun a w=>Tryz.call127 a w) (by kernel_rfl) (by kernel_rfl) rfl rfl
def zrq (a:Int) (l:ByteArray) (m n o p q:Int) (r s:ByteArray) (t:Int) (u:Option Addr) (v w:Nat) (x:Option Addr) (y z:Nat) (e f:Int) (i:Bool) (d:World) (g:Value->World->Prop):Prop:=
 ∀ C:Nat,d.heap.size<=C->(((a<1)\/(5<a))->∀ b,Ext d b->g (.int .i64 1) b)/\(((1<=a)/\(a<=5))->(((a≠1)->∀ b,Ext d b->FnP Tryz.prog zhm #[(.agg #[(.string l),(.int .i64 m),(.int .i64 n),(.int .i64 o),(.int .i64 p),(.int .i64 q),(.string r),(.string s),(.int .i64 t),(.slice u v w),(.slice x y z)])] b fun j k=>Ext b k/\∃ h,j=(.bool h)/\((((((h=false)\/((a≠2)/\(e≠0)))\/(((a≠4)/\(a≠5))/\(f≠0)))\/((a≠4)/\(i=true)))->∀ c,Ext d c->g (.int .i64 1) c))/\(((((h=true)/\((a=2)\/(e=0)))/\(((a=4)\/(a=5))\/(f=0)))/\((a=4)\/(i=false)))->(((a=1)->∀ c,Ext d c->FnP Tryz.prog zdo #[(.agg #[(.string l),(.int .i64 m),(.int .i64 n),(.int .i64 o),(.int .i64 p),(.int .i64 q),(.string r),(.string s),(.int .i64 t),(.slice u v w),(.slice x y z)])] c fun D E=>Ext c E/\∃ A,D=(.int .i64 A)/\∀ B,Ext d B->g (.int .i64 A) B))/\((a≠1)->(((((e<0)\/(1000000000<e))\/(f<0))\/(65535<f))->∀ c,Ext d c->g (.int .i64 4) c)/\(((((0<=e)/\(e<=1000000000))/\(0<=f))/\(f<=65535))->∀ c,Ext d c->g (.int .i64 0) c)))))/\((a=1)->((((((a≠2)/\(e≠0))\/(((a≠4)/\(a≠5))/\(f≠0)))\/((a≠4)/\(i=true)))->∀ b,Ext d b->g (.int .i64 1) b))/\(((((a=2)\/(e=0))/\(((a=4)\/(a=5))\/(f=0)))/\((a=4)\/(i=false)))->(((a=1)->∀ b,Ext d b->FnP Tryz.prog zdo #[(.agg #[(.string l),(.int .i64 m),(.int .i64 n),(.int .i64 o),(.int .i64 p),(.int .i64 q),(.string r),(.string s),(.int .i64 t),(.slice u v w),(.slice x y z)])] b fun j k=>Ext b k/\∃ h,j=(.int .i64 h)/\∀ c,Ext d c->g (.int .i64 h) c))/\((a≠1)->(((((e<0)\/(1000000000<e))\/(f<0))\/(65535<f))->∀ b,Ext d b->g (.int .i64 4) b)/\(((((0<=e)/\(e<=1000000000))/\(0<=f))/\(f<=65535))->∀ b,Ext d b->g (.int .i64 0) b)))))
theorem zkg (a:Int) (b:ByteArray) (c d e f g:Int) (i j:ByteArray) (k:Int) (l:Option Addr) (m n:Nat) (o:Option Addr) (p q:Nat) (r s:Int) (t:Bool) (u:World) (v:Value->World->Prop) (h:zrq a b c d e f g i j k l m n o p q r s t u v):FnP Tryz.prog zcV #[(.agg #[(.int .i64 a),(.string b),(.int .i64 c),(.int .i64 d),(.int .i64 e),(.int .i64 f),(.int .i64 g),(.string i),(.string j),(.int .i64 k),(.slice l m n),(.slice o p q),(.int .i64 r),(.int .i64 s),(.bool t)])] u v:=
 zab (Eq.mp (by kernel_rfl:_=Runs Tryz.prog v ({N:=88}:Cfg) Tryz.f80 (Tryz.f80.body.getD .skip) [.agg [.int .i64 a,.str b,.int .i64 c,.int .i64 d,.int .i64 e,.int .i64 f,.int .i64 g,.str i,.str j,.int .i64 k,.slc l m n,.slc o p q,.int .i64 r,.int .i64 s,.bool (.atom true t)]] u) h) Tryz.func80 (by kernel_rfl) (fun a w=>Tryz.call80 a w) (by kernel_rfl) (by kernel_rfl) rfl rfl
def zt2 (a:Option Addr) (i:World) (j:Value->World->Prop):Prop:=
 a≠none/\a≠none/\a≠none/\a≠none/\a≠none/\a≠none/\∀ b,Ext i b->Run Tryz.prog (.buildSlice 271 3 [(0,(.agg #[(.string (⟨#[99,112,117]⟩:ByteArray)),(.pointer (pAdd a 0))])),(1,(.agg #[(.string (⟨#[109,101,109]⟩:ByteArray)),(.pointer (pAdd a 1))])),(2,(.agg #[(.string (⟨#[103,112,117]⟩:ByteArray)),(.pointer (pAdd a 2))]))]) b fun h g=>Ext b g/\∃ c d e,h=(.slice c d e)/\∀ f,Ext g f->j (.slice c d e) f
theorem ztp (a:Option Addr) (b:World) (c:Value->World->Prop) (h:zt2 a b c):FnP Tryz.prog zeF #[(.pointer a)] b c:=
 zab (Eq.mp (by kernel_rfl:_=Runs Tryz.prog c ({N:=16}:Cfg) Tryz.f158 (Tryz.f158.body.getD .skip) [.sc (.ptr a)] b) h) Tryz.func158 (by kernel_rfl) (fun a w=>Tryz.call158 a w) (by kernel_rfl) (by kernel_rfl) rfl rfl
def zt1 (w x y:Int) (z:World) (j:Value->World->Prop):Prop:=
 ∀ k,Ext z k->New k 44 [(.int .i64 w),(.int .i64 x),(.int .i64 y)] fun t u=>∀ g,Ext u g->FnP Tryz.prog zeF #[(.pointer t)] g fun v o=>Ext g o/\∃ c e q,v=(.slice c e q)/\∃ (i:Int->World->Prop) (p:Int->World->Nat),i 0 o/\∀ (a:Int) (b:World),i a b->(((a<(e:Int))->c≠none/\(0:Int)<=a/\(a:Int)<(e:Int)/\(pIdx c a 2)≠none/\∃ r,cell b (pIdx c a 2) 0=some (.string r)/\∃ d,cell b (pIdx c a 2) 1=some (.pointer d)/\∀ s:Nat,b.heap.size<=s->d≠none/\∃ f,cell b d 0=some (.int .i64 f)/\((0<=f)->d≠none)/\((f<0)->∀ l,Ext b l->j (.int .i64 4) l)/\((0<=f)->∃ h,cell b d 0=some (.int .i64 h)/\((1099511627776<h)->∀ m,Ext b m->j (.int .i64 4) m)/\((h<=1099511627776)->InR .i64 (a+1)/\(i (a+1) b/\p (a+1) b<p a b)))))/\(((e:Int)<=a)->∀ n,Ext b n->j (.int .i64 0) n)
theorem zto (a b c:Int) (d:World) (e:Value->World->Prop) (h:zt1 a b c d e):FnP Tryz.prog zbi #[(.agg #[(.int .i64 a),(.int .i64 b),(.int .i64 c)])] d e:=
 zab (Eq.mp (by kernel_rfl:_=Runs Tryz.prog e ({N:=24,pub:=[1]}:Cfg) Tryz.f109 (Tryz.f109.body.getD .skip) [.agg [.int .i64 a,.int .i64 b,.int .i64 c]] d) h) Tryz.func109 (by kernel_rfl) (fun a w=>Tryz.call109 a w) (by kernel_rfl) (by kernel_rfl) rfl rfl
def zww (g h i:Int) (b:World) (j:Value->World->Prop):Prop:=
 ∀ k:Nat,b.heap.size<=k->∀ d,Ext b d->FnP Tryz.prog zbi #[(.agg #[(.int .i64 g),(.int .i64 h),(.int .i64 i)])] d fun l m=>Ext d m/\∃ c,l=(.int .i64 c)/\((c≠0)->∀ a,Ext b a->j (.tuple #[(.string (⟨#[]⟩:ByteArray)),(.int .i64 c)]) a)/\((c=0)->∀ a,Ext b a->FnP Tryz.prog zeh #[(.agg #[(.int .i64 g),(.int .i64 h),(.int .i64 i)])] a fun n o=>Ext a o/\∃ e,n=(.string e)/\∀ f,Ext b f->j (.tuple #[(.string e),(.int .i64 0)]) f)
theorem zvD (a b c:Int) (d:World) (e:Value->World->Prop) (h:zww a b c d e):FnP Tryz.prog zhv #[(.agg #[(.int .i64 a),(.int .i64 b),(.int .i64 c)])] d e:=
 zab (Eq.mp (by kernel_rfl:_=Runs Tryz.prog e ({N:=12}:Cfg) Tryz.f171 (Tryz.f171.body.getD .skip) [.agg [.int .i64 a,.int .i64 b,.int .i64 c]] d) h) Tryz.func171 (by kernel_rfl) (fun a w=>Tryz.call171 a w) (by kernel_rfl) (by kernel_rfl) rfl rfl
def zwy (S T U:Int) (V:World) (G:Value->World->Prop):Prop:=
 ∀ x,Ext V x->New x 44 [(.int .i64 S),(.int .i64 T),(.int .i64 U)] fun I J=>∀ n,Ext J n->FnP Tryz.prog zeF #[(.pointer I)] n fun K E=>Ext n E/\∃ g i H,K=(.slice g i H)/\∃ (l:Option Addr->Nat->Nat->Int->World->Prop) (m:Option Addr->Nat->Nat->Int->World->Nat),l none 0 0 0 E/\∀ (c:Option Addr) (d:Nat) (e:Nat) (a:Int) (b:World),l c d e a b->(((a<(i:Int))->g≠none/\(0:Int)<=a/\(a:Int)<(i:Int)/\(pIdx g a 2)≠none/\∃ j,cell b (pIdx g a 2) 0=some (.string j)/\∃ h,cell b (pIdx g a 2) 1=some (.pointer h)/\∀ k:Nat,b.heap.size<=k->h≠none/\∃ o,cell b h 0=some (.int .i64 o)/\(((o≠0)->zdl j (⟨#[61]⟩:ByteArray)/\h≠none/\∃ y,cell b h 0=some (.int .i64 y)/\∀ p,Ext b p->FnP Tryz.prog zbC #[(.int .i64 y),(.int .i64 10)] p fun L M=>Ext p M/\∃ q,L=(.string q)/\zdl (j++(⟨#[61]⟩:ByteArray)) q/\∀ r,zag [] [k] b r->Run Tryz.prog (.buildSlice 22 1 [(0,(.string ((j++(⟨#[61]⟩:ByteArray))++q)))]) r fun N F=>Ext r F/\∃ z A B,N=(.slice z A B)/\∀ s,zag [] [k] F s->Run Tryz.prog (.append #[22,22] 22 [(.slice c d e),(.slice z A B)]) s fun O w=>zbQ [k] s w/\∃ t u v,O=(.slice t u v)/\InR .i64 (a+1)/\(l t u v (a+1) w/\m t u v (a+1) w<m c d e a b)))/\((o=0)->InR .i64 (a+1)/\(l c d e (a+1) b/\m c d e (a+1) b<m c d e a b))))/\(((i:Int)<=a)->((c=none)->∀ f,Ext b f->G (.string (⟨#[45]⟩:ByteArray)) f)/\((c≠none)->∀ f,Ext b f->FnP Tryz.prog zbf #[(.slice c d e),(.string (⟨#[44]⟩:ByteArray))] f fun P R=>Ext f R/\∃ C,P=(.string C)/\∀ D,Ext b D->G (.string C) D))
theorem zvF (a b c:Int) (d:World) (e:Value->World->Prop) (h:zwy a b c d e):FnP Tryz.prog zeh #[(.agg #[(.int .i64 a),(.int .i64 b),(.int .i64 c)])] d e:=
 zab (Eq.mp (by kernel_rfl:_=Runs Tryz.prog e ({N:=34,pub:=[1]}:Cfg) Tryz.f228 (Tryz.f228.body.getD .skip) [.agg [.int .i64 a,.int .i64 b,.int .i64 c]] d) h) Tryz.func228 (by kernel_rfl) (fun a w=>Tryz.call228 a w) (by kernel_rfl) (by kernel_rfl) rfl rfl
def zwv (n:ByteArray) (ah:World) (o:Value->World->Prop):Prop:=
 ∀ e:Nat,ah.heap.size<=e->∀ N,zag [] [e] ah N->New N 44 [(.int .i64 0),(.int .i64 0),(.int .i64 0)] fun a d=>(((n≠(⟨#[45]⟩:ByteArray))->∀ D,zag [] [e] d D->FnP Tryz.prog zbk #[(.string n),(.string (⟨#[44]⟩:ByteArray))] D fun ak ad=>Ext D ad/\∃ p x ai,ak=(.slice p x ai)/\∃ (M:Int->World->Prop) (ag:Int->World->Nat),M 0 ad/\∀ (g:Int) (b:World),M g b->(((g<(x:Int))->p≠none/\(0:Int)<=g/\(g:Int)<(x:Int)/\∃ h,cell b (pIdx p g 1) 0=some (.string h)/\∀ k,Ext b k->FnP Tryz.prog zdO #[(.string h),(.string (⟨#[61]⟩:ByteArray))] k fun K L=>Ext k L/\∃ i t j,K=(.tuple #[(.string i),(.string t),(.bool j)])/\∀ q,zag [] [e] b q->FnP Tryz.prog zbT #[(.string t),(.int .i64 10),(.int .i64 64)] q fun al m=>Ext q m/\∃ l O,al=(.tuple #[(.int .i64 l),O])/\∀ u,Ext m u->Run Tryz.prog (.eq .neq 175 false true O .nilIface) u fun am an=>Ext u an/\∃ r,am=(.bool r)/\(((r=true)\/(l<=0))->∀ s,zag [e] [] m s->o (.tuple #[(.agg #[(.int .i64 0),(.int .i64 0),(.int .i64 0)]),(.int .i64 3)]) s)/\(((r=false)/\(0<l))->∀ s,zag [] [e] m s->FnP Tryz.prog zeF #[(.pointer a)] s fun ao ae=>Ext s ae/\∃ v y aj,ao=(.slice v y aj)/\∃ (B:Int->World->Prop) (C:Int->World->Nat),B 0 ae/\∀ (c:Int) (f:World),B c f->(((c<(y:Int))->v≠none/\(0:Int)<=c/\(c:Int)<(y:Int)/\(pIdx v c 2)≠none/\∃ E,cell f (pIdx v c 2) 0=some (.string E)/\∃ F,cell f (pIdx v c 2) 1=some (.pointer F)/\∀ P:Nat,f.heap.size<=P->(((E=i)->F≠none/\zao f F [(.int .i64 l)] [e,P] fun af=>InR .i64 (c+1)/\(B (c+1) af/\C (c+1) af<C c f)))/\((E≠i)->InR .i64 (c+1)/\(B (c+1) f/\C (c+1) f<C c f))))/\(((y:Int)<=c)->InR .i64 (g+1)/\(M (g+1) f/\ag (g+1) f<ag g b)))))/\(((x:Int)<=g)->a≠none/\∃ h,cell b a 0=some (.int .i64 h)/\∃ R,cell b a 1=some (.int .i64 R)/\∃ S,cell b a 2=some (.int .i64 S)/\∀ G,Ext b G->FnP Tryz.prog zeh #[(.agg #[(.int .i64 h),(.int .i64 R),(.int .i64 S)])] G fun ap A=>Ext G A/\∃ j,ap=(.string j)/\((j≠n)->∀ q,zag [e] [] b q->o (.tuple #[(.agg #[(.int .i64 0),(.int .i64 0),(.int .i64 0)]),(.int .i64 3)]) q)/\((j=n)->a≠none/\∃ w,cell b a 0=some (.int .i64 w)/\∃ T,cell b a 1=some (.int .i64 T)/\∃ l,cell b a 2=some (.int .i64 l)/\∀ H,Ext b H->FnP Tryz.prog zbi #[(.agg #[(.int .i64 w),(.int .i64 T),(.int .i64 l)])] H fun aq u=>Ext H u/\∃ z,aq=(.int .i64 z)/\((z≠0)->∀ U,zag [e] [] b U->o (.tuple #[(.agg #[(.int .i64 0),(.int .i64 0),(.int .i64 0)]),(.int .i64 z)]) U)/\((z=0)->a≠none/\∃ r,cell b a 0=some (.int .i64 r)/\∃ V,cell b a 1=some (.int .i64 V)/\∃ W,cell b a 2=some (.int .i64 W)/\∀ X,zag [e] [] b X->o (.tuple #[(.agg #[(.int .i64 r),(.int .i64 V),(.int .i64 W)]),(.int .i64 0)]) X)))))/\((n=(⟨#[45]⟩:ByteArray))->a≠none/\∃ Y,cell d a 0=some (.int .i64 Y)/\∃ Z,cell d a 1=some (.int .i64 Z)/\∃ p,cell d a 2=some (.int .i64 p)/\∀ I,Ext d I->FnP Tryz.prog zeh #[(.agg #[(.int .i64 Y),(.int .i64 Z),(.int .i64 p)])] I fun ar au=>Ext I au/\∃ J,ar=(.string J)/\((J≠n)->∀ aa,zag [e] [] d aa->o (.tuple #[(.agg #[(.int .i64 0),(.int .i64 0),(.int .i64 0)]),(.int .i64 3)]) aa)/\((J=n)->a≠none/\∃ ab,cell d a 0=some (.int .i64 ab)/\∃ ac,cell d a 1=some (.int .i64 ac)/\∃ h,cell d a 2=some (.int .i64 h)/\∀ k,Ext d k->FnP Tryz.prog zbi #[(.agg #[(.int .i64 ab),(.int .i64 ac),(.int .i64 h)])] k fun K L=>Ext k L/\∃ i,K=(.int .i64 i)/\((i≠0)->∀ A,zag [e] [] d A->o (.tuple #[(.agg #[(.int .i64 0),(.int .i64 0),(.int .i64 0)]),(.int .i64 i)]) A)/\((i=0)->a≠none/\∃ t,cell d a 0=some (.int .i64 t)/\∃ j,cell d a 1=some (.int .i64 j)/\∃ w,cell d a 2=some (.int .i64 w)/\∀ m,zag [e] [] d m->o (.tuple #[(.agg #[(.int .i64 t),(.int .i64 j),(.int .i64 w)]),(.int .i64 0)]) m)))
theorem znQ (a:ByteArray) (b:World) (c:Value->World->Prop) (h:zwv a b c):FnP Tryz.prog zfr #[(.string a)] b c:=
 zab (Eq.mp (by kernel_rfl:_=Runs Tryz.prog c ({N:=70,pub:=[4]}:Cfg) Tryz.f176 (Tryz.f176.body.getD .skip) [.sc (.str a)] b) h) Tryz.func176 (by kernel_rfl) (fun a w=>Tryz.call176 a w) (by kernel_rfl) (by kernel_rfl) rfl rfl
abbrev zbo:FuncId:=96
abbrev zee:FuncId:=113
abbrev zhj:FuncId:=159
abbrev zhi:FuncId:=160
abbrev zjw:FuncId:=172
abbrev zmj:FuncId:=226
abbrev zdx:FuncId:=229
abbrev zaf:FuncId:=258
abbrev zbx:FuncId:=259
abbrev zf6:FuncId:=275
def zwh (a:ByteArray) (n:World) (i:Value->World->Prop):Prop:=
 ((((a≠(⟨#[]⟩:ByteArray))/\((a.size:Int)<=20))->(0:Int)<=0))/\((((a≠(⟨#[]⟩:ByteArray))/\((a.size:Int)<=20))->(0:Int)<(a.size:Int)))/\(((((a≠(⟨#[]⟩:ByteArray))/\((a.size:Int)<=20))/\(97<=(sAt a 0)))->(0:Int)<=0))/\(((((a≠(⟨#[]⟩:ByteArray))/\((a.size:Int)<=20))/\(97<=(sAt a 0)))->(0:Int)<(a.size:Int)))/\(((((a=(⟨#[]⟩:ByteArray))\/(20<(a.size:Int)))\/((sAt a 0)<97))\/(122<(sAt a 0)))->∀ e,Ext n e->i (.bool false) e)/\(((((a≠(⟨#[]⟩:ByteArray))/\((a.size:Int)<=20))/\(97<=(sAt a 0)))/\((sAt a 0)<=122))->∀ e,Ext n e->Run Tryz.prog (.convert 9 93 (.string a)) e fun p l=>Ext e l/\∃ g f o,p=(.slice g f o)/\∃ (h:Int->World->Prop) (m:Int->World->Nat),h 0 l/\∀ (c:Int) (d:World),h c d->(((c<(f:Int))->g≠none/\(0:Int)<=c/\(c:Int)<(f:Int)/\∃ b,cell d (pIdx g c 1) 0=some (.int .u8 b)/\((((((b<97)\/(122<b))/\((b<48)\/(57<b)))/\(b≠45))->∀ j,Ext d j->i (.bool false) j))/\(((((97<=b)/\(b<=122))\/((48<=b)/\(b<=57)))\/(b=45))->InR .i64 (c+1)/\(h (c+1) d/\m (c+1) d<m c d))))/\(((f:Int)<=c)->∀ k,Ext d k->i (.bool true) k))
theorem zvq (a:ByteArray) (b:World) (c:Value->World->Prop) (h:zwh a b c):FnP Tryz.prog zbo #[(.string a)] b c:=
 zab (Eq.mp (by kernel_rfl:_=Runs Tryz.prog c ({N:=48}:Cfg) Tryz.f96 (Tryz.f96.body.getD .skip) [.sc (.str a)] b) h) Tryz.func96 (by kernel_rfl) (fun a w=>Tryz.call96 a w) (by kernel_rfl) (by kernel_rfl) rfl rfl
def zwj (x:Int) (y z:ByteArray) (A:Int) (c:Option Addr) (h B:Nat) (r:World) (w:Value->World->Prop):Prop:=
 ∀ s:Nat,r.heap.size<=s->∃ (g:Int->Int->World->Prop) (q:Int->Int->World->Nat),g 1 0 r/\∀ (d:Int) (a:Int) (b:World),g d a b->(((a<(h:Int))->c≠none/\(0:Int)<=a/\(a:Int)<(h:Int)/\(pIdx c a 5)≠none/\∃ i,cell b (pIdx c a 5) 0=some (.int .i64 i)/\∃ j,cell b (pIdx c a 5) 1=some (.string j)/\∃ k,cell b (pIdx c a 5) 2=some (.string k)/\∃ l,cell b (pIdx c a 5) 3=some (.int .i64 l)/\∃ m n o,cell b (pIdx c a 5) 4=some (.slice m n o)/\∀ t:Nat,b.heap.size<=t->∀ e,Ext b e->FnP Tryz.prog zhj #[(.agg #[(.int .i64 i),(.string j),(.string k),(.int .i64 l),(.slice m n o)])] e fun u v=>Ext e v/\∃ f,u=(.int .i64 f)/\InR .i64 (a+1)/\(g (IntKind.wrap .i64 (d+f)) (a+1) b/\q (IntKind.wrap .i64 (d+f)) (a+1) b<q d a b)))/\(((h:Int)<=a)->∀ p,Ext b p->w (.int .i64 d) p)
theorem zvs (a:Int) (b c:ByteArray) (d:Int) (e:Option Addr) (f g:Nat) (i:World) (j:Value->World->Prop) (h:zwj a b c d e f g i j):FnP Tryz.prog zhj #[(.agg #[(.int .i64 a),(.string b),(.string c),(.int .i64 d),(.slice e f g)])] i j:=
 zab (Eq.mp (by kernel_rfl:_=Runs Tryz.prog j ({N:=19,wrap:=[16]}:Cfg) Tryz.f159 (Tryz.f159.body.getD .skip) [.agg [.int .i64 a,.str b,.str c,.int .i64 d,.slc e f g]] i) h) Tryz.func159 (by kernel_rfl) (fun a w=>Tryz.call159 a w) (by kernel_rfl) (by kernel_rfl) rfl rfl
def zwf (g:Int) (h i:ByteArray) (j:Int) (k:Option Addr) (l m:Nat) (b:World) (n:Value->World->Prop):Prop:=
 ∀ o:Nat,b.heap.size<=o->∀ c,Ext b c->FnP Tryz.prog zhj #[(.agg #[(.int .i64 g),(.string h),(.string i),(.int .i64 j),(.slice k l m)])] c fun p q=>Ext c q/\∃ d,p=(.int .i64 d)/\((60<d)->∀ a,Ext b a->n (.int .i64 2) a)/\((d<=60)->∀ a,Ext b a->FnP Tryz.prog zhi #[(.agg #[(.int .i64 g),(.string h),(.string i),(.int .i64 j),(.slice k l m)])] a fun r s=>Ext a s/\∃ e,r=(.int .i64 e)/\∀ f,Ext b f->n (.int .i64 e) f)
theorem zvo (a:Int) (b c:ByteArray) (d:Int) (e:Option Addr) (f g:Nat) (i:World) (j:Value->World->Prop) (h:zwf a b c d e f g i j):FnP Tryz.prog zee #[(.agg #[(.int .i64 a),(.string b),(.string c),(.int .i64 d),(.slice e f g)])] i j:=
 zab (Eq.mp (by kernel_rfl:_=Runs Tryz.prog j ({N:=8}:Cfg) Tryz.f113 (Tryz.f113.body.getD .skip) [.agg [.int .i64 a,.str b,.str c,.int .i64 d,.slc e f g]] i) h) Tryz.func113 (by kernel_rfl) (fun a w=>Tryz.call113 a w) (by kernel_rfl) (by kernel_rfl) rfl rfl
def zyy (a:ByteArray) (c:World) (d:Value->World->Prop):Prop:=
 ∀ b,Ext c b->d (.bool (((decide (a=(⟨#[99,112,117]⟩:ByteArray)))||(decide (a=(⟨#[109,101,109]⟩:ByteArray))))||(decide (a=(⟨#[103,112,117]⟩:ByteArray))))) b
theorem zxQ (a:ByteArray) (b:World) (c:Value->World->Prop) (h:zyy a b c):FnP Tryz.prog zmj #[(.string a)] b c:=
 zab (Eq.mp (by kernel_rfl:_=Runs Tryz.prog c ({N:=13}:Cfg) Tryz.f226 (Tryz.f226.body.getD .skip) [.sc (.str a)] b) h) Tryz.func226 (by kernel_rfl) (fun a w=>Tryz.call226 a w) (by kernel_rfl) (by kernel_rfl) rfl rfl
def zwi (d:Int) (v p:ByteArray) (a:Int) (o:Option Addr) (w U:Nat) (m:World) (f:Value->World->Prop):Prop:=
 ∀ N:Nat,m.heap.size<=N->(((d<1)\/(6<d))->∀ D,Ext m D->f (.int .i64 1) D)/\(((1<=d)/\(d<=6))->∃ (n:Int->Bool->World->Prop),((((d=5)->(((d=5)->InR .i64 (0+1)/\InR .i64 ((0+1)+1)/\n ((0+1)+1) false m))/\((d≠5)->(((d=4)->InR .i64 (0+1)/\n (0+1) false m))/\((d≠4)->n 0 true m))))/\((d≠5)->(((d=6)->InR .i64 (0+1)/\InR .i64 ((0+1)+1)/\n ((0+1)+1) false m))/\((d≠6)->(((d=4)->InR .i64 (0+1)/\n (0+1) false m))/\((d≠4)->n 0 true m))))/\∀ (A:Int) (B:Bool) (c:World),n A B c->(((((((w:Int)≠A)\/((B=false)/\(v≠(⟨#[]⟩:ByteArray))))\/((d≠2)/\(p≠(⟨#[]⟩:ByteArray))))\/((d≠3)/\(a≠0)))->∀ E,Ext c E->f (.int .i64 1) E))/\((((((w:Int)=A)/\((B=true)\/(v=(⟨#[]⟩:ByteArray))))/\((d=2)\/(p=(⟨#[]⟩:ByteArray))))/\((d=3)\/(a=0)))->∃ (l:World->Prop),((((d=3)->∀ j,Ext c j->FnP Tryz.prog zmj #[(.string v)] j fun r s=>Ext j s/\∃ h,r=(.bool h)/\(((h=false)->((h=false)->∀ b,Ext c b->f (.int .i64 3) b)/\((h=true)->(((a<0)\/(1099511627776<a))->∀ b,Ext c b->f (.int .i64 4) b)/\(((0<=a)/\(a<=1099511627776))->l  c))))/\((h=true)->((((d=1)\/(d=2))->∀ b,Ext c b->FnP Tryz.prog zbo #[(.string v)] b fun t u=>Ext b u/\∃ g,t=(.bool g)/\(((g=false)->((g=false)->∀ e,Ext c e->f (.int .i64 3) e)/\((g=true)->(((a<0)\/(1099511627776<a))->∀ e,Ext c e->f (.int .i64 4) e)/\(((0<=a)/\(a<=1099511627776))->l  c))))/\((g=true)->(((d=2)->∀ e,Ext c e->FnP Tryz.prog zbo #[(.string p)] e fun P R=>Ext e R/\∃ y,P=(.bool y)/\((y=false)->∀ q,Ext c q->f (.int .i64 3) q)/\((y=true)->(((a<0)\/(1099511627776<a))->∀ q,Ext c q->f (.int .i64 4) q)/\(((0<=a)/\(a<=1099511627776))->l  c))))/\((d≠2)->(((a<0)\/(1099511627776<a))->∀ e,Ext c e->f (.int .i64 4) e)/\(((0<=a)/\(a<=1099511627776))->l  c)))))/\(((d≠1)/\(d≠2))->(((d=2)->∀ b,Ext c b->FnP Tryz.prog zbo #[(.string p)] b fun t u=>Ext b u/\∃ g,t=(.bool g)/\((g=false)->∀ e,Ext c e->f (.int .i64 3) e)/\((g=true)->(((a<0)\/(1099511627776<a))->∀ e,Ext c e->f (.int .i64 4) e)/\(((0<=a)/\(a<=1099511627776))->l  c))))/\((d≠2)->(((a<0)\/(1099511627776<a))->∀ b,Ext c b->f (.int .i64 4) b)/\(((0<=a)/\(a<=1099511627776))->l  c))))))/\((d≠3)->((((d=1)\/(d=2))->∀ j,Ext c j->FnP Tryz.prog zbo #[(.string v)] j fun r s=>Ext j s/\∃ h,r=(.bool h)/\(((h=false)->((h=false)->∀ b,Ext c b->f (.int .i64 3) b)/\((h=true)->(((a<0)\/(1099511627776<a))->∀ b,Ext c b->f (.int .i64 4) b)/\(((0<=a)/\(a<=1099511627776))->l  c))))/\((h=true)->(((d=2)->∀ b,Ext c b->FnP Tryz.prog zbo #[(.string p)] b fun t u=>Ext b u/\∃ g,t=(.bool g)/\((g=false)->∀ e,Ext c e->f (.int .i64 3) e)/\((g=true)->(((a<0)\/(1099511627776<a))->∀ e,Ext c e->f (.int .i64 4) e)/\(((0<=a)/\(a<=1099511627776))->l  c))))/\((d≠2)->(((a<0)\/(1099511627776<a))->∀ b,Ext c b->f (.int .i64 4) b)/\(((0<=a)/\(a<=1099511627776))->l  c)))))/\(((d≠1)/\(d≠2))->(((d=2)->∀ j,Ext c j->FnP Tryz.prog zbo #[(.string p)] j fun r s=>Ext j s/\∃ h,r=(.bool h)/\((h=false)->∀ b,Ext c b->f (.int .i64 3) b)/\((h=true)->(((a<0)\/(1099511627776<a))->∀ b,Ext c b->f (.int .i64 4) b)/\(((0<=a)/\(a<=1099511627776))->l  c))))/\((d≠2)->(((a<0)\/(1099511627776<a))->∀ j,Ext c j->f (.int .i64 4) j)/\(((0<=a)/\(a<=1099511627776))->l  c)))))/\∀  (w6:World),l  w6->∃ (C:Int->World->Prop) (M:Int->World->Nat),C 0 w6/\∀ (i:Int) (k:World),C i k->(((i<(w:Int))->o≠none/\(0:Int)<=i/\(i:Int)<(w:Int)/\(pIdx o i 5)≠none/\∃ F,cell k (pIdx o i 5) 0=some (.int .i64 F)/\∃ G,cell k (pIdx o i 5) 1=some (.string G)/\∃ g,cell k (pIdx o i 5) 2=some (.string g)/\∃ H,cell k (pIdx o i 5) 3=some (.int .i64 H)/\∃ I J K,cell k (pIdx o i 5) 4=some (.slice I J K)/\∀ O:Nat,k.heap.size<=O->∀ z,Ext k z->FnP Tryz.prog zhi #[(.agg #[(.int .i64 F),(.string G),(.string g),(.int .i64 H),(.slice I J K)])] z fun S T=>Ext z T/\∃ x,S=(.int .i64 x)/\((x≠0)->∀ L,Ext k L->f (.int .i64 x) L)/\((x=0)->InR .i64 (i+1)/\(C (i+1) k/\M (i+1) k<M i k))))/\(((w:Int)<=i)->∀ b,Ext k b->f (.int .i64 0) b)))
theorem zvr (a:Int) (b c:ByteArray) (d:Int) (e:Option Addr) (f g:Nat) (i:World) (j:Value->World->Prop) (h:zwi a b c d e f g i j):FnP Tryz.prog zhi #[(.agg #[(.int .i64 a),(.string b),(.string c),(.int .i64 d),(.slice e f g)])] i j:=
 zab (Eq.mp (by kernel_rfl:_=Runs Tryz.prog j ({N:=115,joins:=[(0,[3,4]),(4,[])]}:Cfg) Tryz.f160 (Tryz.f160.body.getD .skip) [.agg [.int .i64 a,.str b,.str c,.int .i64 d,.slc e f g]] i) h) Tryz.func160 (by kernel_rfl) (fun a w=>Tryz.call160 a w) (by kernel_rfl) (by kernel_rfl) rfl rfl
def zyx (e:Int) (o H:ByteArray) (N:Int) (b:Option Addr) (z O:Nat) (a:World) (r:Value->World->Prop):Prop:=
 ∀ I:Nat,a.heap.size<=I->(((e=1)->zdl (⟨#[63]⟩:ByteArray) o/\∀ f,Ext a f->r (.string ((⟨#[63]⟩:ByteArray)++o)) f))/\((e≠1)->(((e=2)->zdl o (⟨#[61]⟩:ByteArray)/\zdl (o++(⟨#[61]⟩:ByteArray)) H/\∀ f,Ext a f->r (.string ((o++(⟨#[61]⟩:ByteArray))++H)) f))/\((e≠2)->(((e=3)->zdl o (⟨#[62,61]⟩:ByteArray)/\∀ f,Ext a f->FnP Tryz.prog zbC #[(.int .i64 N),(.int .i64 10)] f fun J K=>Ext f K/\∃ d,J=(.string d)/\zdl (o++(⟨#[62,61]⟩:ByteArray)) d/\∀ F,Ext a F->r (.string ((o++(⟨#[62,61]⟩:ByteArray))++d)) F))/\((e≠3)->(((e=4)->b≠none/\(0:Int)<=0/\(0:Int)<(z:Int)/\(pIdx b 0 5)≠none/\∃ i,cell a (pIdx b 0 5) 0=some (.int .i64 i)/\∃ j,cell a (pIdx b 0 5) 1=some (.string j)/\∃ d,cell a (pIdx b 0 5) 2=some (.string d)/\∃ k,cell a (pIdx b 0 5) 3=some (.int .i64 k)/\∃ l m n,cell a (pIdx b 0 5) 4=some (.slice l m n)/\∀ A,Ext a A->FnP Tryz.prog zdx #[(.agg #[(.int .i64 i),(.string j),(.string d),(.int .i64 k),(.slice l m n)])] A fun L M=>Ext A M/\∃ g,L=(.string g)/\zdl (⟨#[33]⟩:ByteArray) g/\∀ G,Ext a G->r (.string ((⟨#[33]⟩:ByteArray)++g)) G))/\((e≠4)->(((e=5)->b≠none/\(0:Int)<=0/\(0:Int)<(z:Int)/\(pIdx b 0 5)≠none/\∃ i,cell a (pIdx b 0 5) 0=some (.int .i64 i)/\∃ j,cell a (pIdx b 0 5) 1=some (.string j)/\∃ d,cell a (pIdx b 0 5) 2=some (.string d)/\∃ k,cell a (pIdx b 0 5) 3=some (.int .i64 k)/\∃ l m n,cell a (pIdx b 0 5) 4=some (.slice l m n)/\b≠none/\(0:Int)<=1/\(1:Int)<(z:Int)/\(pIdx b 1 5)≠none/\∃ s,cell a (pIdx b 1 5) 0=some (.int .i64 s)/\∃ t,cell a (pIdx b 1 5) 1=some (.string t)/\∃ g,cell a (pIdx b 1 5) 2=some (.string g)/\∃ u,cell a (pIdx b 1 5) 3=some (.int .i64 u)/\∃ v w x,cell a (pIdx b 1 5) 4=some (.slice v w x)/\∀ p,Ext a p->FnP Tryz.prog zdx #[(.agg #[(.int .i64 i),(.string j),(.string d),(.int .i64 k),(.slice l m n)])] p fun B C=>Ext p C/\∃ c,B=(.string c)/\zdl (⟨#[40]⟩:ByteArray) c/\zdl ((⟨#[40]⟩:ByteArray)++c) (⟨#[38]⟩:ByteArray)/\∀ q,Ext a q->FnP Tryz.prog zdx #[(.agg #[(.int .i64 s),(.string t),(.string g),(.int .i64 u),(.slice v w x)])] q fun D E=>Ext q E/\∃ h,D=(.string h)/\zdl (((⟨#[40]⟩:ByteArray)++c)++(⟨#[38]⟩:ByteArray)) h/\zdl ((((⟨#[40]⟩:ByteArray)++c)++(⟨#[38]⟩:ByteArray))++h) (⟨#[41]⟩:ByteArray)/\∀ y,Ext a y->r (.string (((((⟨#[40]⟩:ByteArray)++c)++(⟨#[38]⟩:ByteArray))++h)++(⟨#[41]⟩:ByteArray))) y))/\((e≠5)->b≠none/\(0:Int)<=0/\(0:Int)<(z:Int)/\(pIdx b 0 5)≠none/\∃ i,cell a (pIdx b 0 5) 0=some (.int .i64 i)/\∃ j,cell a (pIdx b 0 5) 1=some (.string j)/\∃ d,cell a (pIdx b 0 5) 2=some (.string d)/\∃ k,cell a (pIdx b 0 5) 3=some (.int .i64 k)/\∃ l m n,cell a (pIdx b 0 5) 4=some (.slice l m n)/\b≠none/\(0:Int)<=1/\(1:Int)<(z:Int)/\(pIdx b 1 5)≠none/\∃ s,cell a (pIdx b 1 5) 0=some (.int .i64 s)/\∃ t,cell a (pIdx b 1 5) 1=some (.string t)/\∃ g,cell a (pIdx b 1 5) 2=some (.string g)/\∃ u,cell a (pIdx b 1 5) 3=some (.int .i64 u)/\∃ v w x,cell a (pIdx b 1 5) 4=some (.slice v w x)/\∀ p,Ext a p->FnP Tryz.prog zdx #[(.agg #[(.int .i64 i),(.string j),(.string d),(.int .i64 k),(.slice l m n)])] p fun B C=>Ext p C/\∃ c,B=(.string c)/\zdl (⟨#[40]⟩:ByteArray) c/\zdl ((⟨#[40]⟩:ByteArray)++c) (⟨#[124]⟩:ByteArray)/\∀ q,Ext a q->FnP Tryz.prog zdx #[(.agg #[(.int .i64 s),(.string t),(.string g),(.int .i64 u),(.slice v w x)])] q fun D E=>Ext q E/\∃ h,D=(.string h)/\zdl (((⟨#[40]⟩:ByteArray)++c)++(⟨#[124]⟩:ByteArray)) h/\zdl ((((⟨#[40]⟩:ByteArray)++c)++(⟨#[124]⟩:ByteArray))++h) (⟨#[41]⟩:ByteArray)/\∀ y,Ext a y->r (.string (((((⟨#[40]⟩:ByteArray)++c)++(⟨#[124]⟩:ByteArray))++h)++(⟨#[41]⟩:ByteArray))) y)))))
theorem zxP (a:Int) (b c:ByteArray) (d:Int) (e:Option Addr) (f g:Nat) (i:World) (j:Value->World->Prop) (h:zyx a b c d e f g i j):FnP Tryz.prog zdx #[(.agg #[(.int .i64 a),(.string b),(.string c),(.int .i64 d),(.slice e f g)])] i j:=
 zab (Eq.mp (by kernel_rfl:_=Runs Tryz.prog j ({N:=65}:Cfg) Tryz.f229 (Tryz.f229.body.getD .skip) [.agg [.int .i64 a,.str b,.str c,.int .i64 d,.slc e f g]] i) h) Tryz.func229 (by kernel_rfl) (fun a w=>Tryz.call229 a w) (by kernel_rfl) (by kernel_rfl) rfl rfl
def zyw (g:Int) (h i:ByteArray) (j:Int) (k:Option Addr) (l m:Nat) (b:World) (n:Value->World->Prop):Prop:=
 ∀ o:Nat,b.heap.size<=o->∀ d,Ext b d->FnP Tryz.prog zee #[(.agg #[(.int .i64 g),(.string h),(.string i),(.int .i64 j),(.slice k l m)])] d fun p q=>Ext d q/\∃ c,p=(.int .i64 c)/\((c≠0)->∀ a,Ext b a->n (.tuple #[(.string (⟨#[]⟩:ByteArray)),(.int .i64 c)]) a)/\((c=0)->∀ a,Ext b a->FnP Tryz.prog zdx #[(.agg #[(.int .i64 g),(.string h),(.string i),(.int .i64 j),(.slice k l m)])] a fun r s=>Ext a s/\∃ e,r=(.string e)/\∀ f,Ext b f->n (.tuple #[(.string e),(.int .i64 0)]) f)
theorem zxO (a:Int) (b c:ByteArray) (d:Int) (e:Option Addr) (f g:Nat) (i:World) (j:Value->World->Prop) (h:zyw a b c d e f g i j):FnP Tryz.prog zjw #[(.agg #[(.int .i64 a),(.string b),(.string c),(.int .i64 d),(.slice e f g)])] i j:=
 zab (Eq.mp (by kernel_rfl:_=Runs Tryz.prog j ({N:=12}:Cfg) Tryz.f172 (Tryz.f172.body.getD .skip) [.agg [.int .i64 a,.str b,.str c,.int .i64 d,.slc e f g]] i) h) Tryz.func172 (by kernel_rfl) (fun a w=>Tryz.call172 a w) (by kernel_rfl) (by kernel_rfl) rfl rfl
def zl4 (a:Option Addr) (j:Int) (c:World) (f:Value->World->Prop):Prop:=
 a≠none/\a≠none/\∃ d,cell c (pAdd a 0) 0=some (.string d)/\((d≠(⟨#[]⟩:ByteArray))->a≠none)/\((d≠(⟨#[]⟩:ByteArray))->a≠none)/\((d=(⟨#[]⟩:ByteArray))->∀ g,Ext c g->f (.bool false) g)/\((d≠(⟨#[]⟩:ByteArray))->∃ e,cell c (pAdd a 0) 0=some (.string e)/\(0:Int)<=0/\(0:Int)<(e.size:Int)/\(((sAt e 0)≠j)->∀ h,Ext c h->f (.bool false) h)/\(((sAt e 0)=j)->a≠none/\a≠none/\∃ b,cell c (pAdd a 0) 0=some (.string b)/\(0:Int)<=1/\(1:Int)<=(b.size:Int)/\((b.size:Int):Int)<=(b.size:Int)/\a≠none/\a≠none/\zao c (pAdd a 0) [(.string (b.extract (1:Int).toNat (b.size:Int).toNat))] [] fun k=>∀ i,Ext k i->f (.bool true) i))
theorem zgi (a:Option Addr) (b:Int) (c:World) (d:Value->World->Prop) (h:zl4 a b c d):FnP Tryz.prog zaf #[(.pointer a),(.int .u8 b)] c d:=
 zab (Eq.mp (by kernel_rfl:_=Runs Tryz.prog d ({N:=27}:Cfg) Tryz.f258 (Tryz.f258.body.getD .skip) [.sc (.ptr a),.sc (.int .u8 b)] c) h) Tryz.func258 (by kernel_rfl) (fun a w=>Tryz.call258 a w) (by kernel_rfl) (by kernel_rfl) rfl rfl
def zl5 (a:Option Addr) (e:World) (k:Value->World->Prop):Prop:=
 a≠none/\a≠none/\∃ i,cell e (pAdd a 0) 0=some (.string i)/\∀ h,Ext e h->FnP Tryz.prog zf6 #[(.string i),(.string (⟨#[63,61,62,33,40,41,38,124]⟩:ByteArray))] h fun l m=>Ext h m/\∃ d,l=(.int .i64 d)/\(((d<0)->a≠none/\a≠none/\∃ b,cell e (pAdd a 0) 0=some (.string b)/\a≠none/\a≠none/\∃ c,cell e (pAdd a 0) 0=some (.string c)/\(0:Int)<=0/\(0:Int)<=(b.size:Int)/\((b.size:Int):Int)<=(c.size:Int)/\a≠none/\a≠none/\∃ f,cell e (pAdd a 0) 0=some (.string f)/\(0:Int)<=(b.size:Int)/\((b.size:Int):Int)<=(f.size:Int)/\((f.size:Int):Int)<=(f.size:Int)/\a≠none/\a≠none/\zao e (pAdd a 0) [(.string (f.extract (b.size:Int).toNat (f.size:Int).toNat))] [] fun g=>∀ j,Ext g j->k (.string (c.extract (0:Int).toNat (b.size:Int).toNat)) j))/\((0<=d)->a≠none/\a≠none/\∃ b,cell e (pAdd a 0) 0=some (.string b)/\(0:Int)<=0/\(0:Int)<=d/\(d:Int)<=(b.size:Int)/\a≠none/\a≠none/\∃ c,cell e (pAdd a 0) 0=some (.string c)/\(0:Int)<=d/\(d:Int)<=(c.size:Int)/\((c.size:Int):Int)<=(c.size:Int)/\a≠none/\a≠none/\zao e (pAdd a 0) [(.string (c.extract d.toNat (c.size:Int).toNat))] [] fun n=>∀ g,Ext n g->k (.string (b.extract (0:Int).toNat d.toNat)) g)
theorem zlK (a:Option Addr) (b:World) (c:Value->World->Prop) (h:zl5 a b c):FnP Tryz.prog zbx #[(.pointer a)] b c:=
 zab (Eq.mp (by kernel_rfl:_=Runs Tryz.prog c ({N:=33}:Cfg) Tryz.f259 (Tryz.f259.body.getD .skip) [.sc (.ptr a)] b) h) Tryz.func259 (by kernel_rfl) (fun a w=>Tryz.call259 a w) (by kernel_rfl) (by kernel_rfl) rfl rfl
abbrev zjv:FuncId:=177
abbrev za6:FuncId:=231
abbrev zeQ:FuncId:=260
def znn (b:Option Addr) (u:World) (h:Value->World->Prop):Prop:=
 ∀ a:Nat,u.heap.size<=a->b≠none/\b≠none/\∃ w,cell u (pAdd b 1) 0=some (.int .i64 w)/\((w=0)->∀ R,Ext u R->h (.tuple #[(.agg #[(.int .i64 0),(.string (⟨#[]⟩:ByteArray)),(.string (⟨#[]⟩:ByteArray)),(.int .i64 0),(.slice none 0 0)]),(.bool false)]) R)/\((w≠0)->b≠none/\b≠none/\∃ x,cell u (pAdd b 1) 0=some (.int .i64 x)/\InR .i64 (x-1)/\b≠none/\b≠none/\zao u (pAdd b 1) [(.int .i64 (x-1))] [a] fun ax=>∀ y,zag [] [a] ax y->FnP Tryz.prog zaf #[(.pointer b),(.int .u8 63)] y fun ay G=>zbQ [a] y G/\∃ z,ay=(.bool z)/\(((z=true)->∀ i,zag [] [a] G i->FnP Tryz.prog zbx #[(.pointer b)] i fun H q=>zbQ [a] i q/\∃ o,H=(.string o)/\∀ d,zag [a] [] q d->h (.tuple #[(.agg #[(.int .i64 1),(.string o),(.string (⟨#[]⟩:ByteArray)),(.int .i64 0),(.slice none 0 0)]),(.bool true)]) d))/\((z=false)->∀ i,zag [] [a] G i->FnP Tryz.prog zaf #[(.pointer b),(.int .u8 33)] i fun H q=>zbQ [a] i q/\∃ o,H=(.bool o)/\(((o=true)->∀ d,zag [] [a] q d->FnP Tryz.prog za6 #[(.pointer b)] d fun I m=>zbQ [a] d m/\∃ S T U V W X Y Z,I=(.tuple #[(.agg #[(.int .i64 S),(.string T),(.string U),(.int .i64 V),(.slice W X Y)]),(.bool Z)])/\∀ aa:Nat,m.heap.size<=aa->∀ A,zag [] [a,aa] m A->Run Tryz.prog (.buildSlice 45 1 [(0,(.agg #[(.int .i64 S),(.string T),(.string U),(.int .i64 V),(.slice W X Y)]))]) A fun az c=>Ext A c/\∃ ab ac ad,az=(.slice ab ac ad)/\∀ f,zag [a] [] c f->h (.tuple #[(.agg #[(.int .i64 4),(.string (⟨#[]⟩:ByteArray)),(.string (⟨#[]⟩:ByteArray)),(.int .i64 0),(.slice ab ac ad)]),(.bool Z)]) f))/\((o=false)->∀ d,zag [] [a] q d->FnP Tryz.prog zaf #[(.pointer b),(.int .u8 40)] d fun I m=>zbQ [a] d m/\∃ B,I=(.bool B)/\(((B=true)->∀ j,zag [] [a] m j->FnP Tryz.prog zeQ #[(.pointer b)] j fun J t=>zbQ [a] j t/\∃ ae af ag ah ai aj ak al,J=(.tuple #[(.agg #[(.int .i64 ae),(.string af),(.string ag),(.int .i64 ah),(.slice ai aj ak)]),(.bool al)])/\∀ g,zag [a] [] t g->h (.tuple #[(.agg #[(.int .i64 ae),(.string af),(.string ag),(.int .i64 ah),(.slice ai aj ak)]),(.bool al)]) g))/\((B=false)->∀ j,zag [] [a] m j->FnP Tryz.prog zbx #[(.pointer b)] j fun J t=>zbQ [a] j t/\∃ v,J=(.string v)/\∀ C,zag [] [a] t C->FnP Tryz.prog zaf #[(.pointer b),(.int .u8 62)] C fun aA K=>zbQ [a] C K/\∃ D,aA=(.bool D)/\(((D=true)->∀ k,zag [] [a] K k->FnP Tryz.prog zaf #[(.pointer b),(.int .u8 61)] k fun L n=>zbQ [a] k n/\∃ l,L=(.bool l)/\((l=false)->∀ c,zag [a] [] n c->h (.tuple #[(.agg #[(.int .i64 0),(.string (⟨#[]⟩:ByteArray)),(.string (⟨#[]⟩:ByteArray)),(.int .i64 0),(.slice none 0 0)]),(.bool false)]) c)/\((l=true)->∀ c,zag [] [a] n c->FnP Tryz.prog zbx #[(.pointer b)] c fun M g=>zbQ [a] c g/\∃ r,M=(.string r)/\∀ p,zag [] [a] g p->FnP Tryz.prog zbT #[(.string r),(.int .i64 10),(.int .i64 64)] p fun aB f=>Ext p f/\∃ E F,aB=(.tuple #[(.int .i64 E),F])/\∃ (P:Bool->Int->ByteArray->ByteArray->Int->Option Addr->Nat->Nat->World->Prop),((∀ e,Ext f e->Run Tryz.prog (.eq .eql 175 false true F .nilIface) e fun N O=>Ext e O/\∃ s,N=(.bool s)/\P s 3 v (⟨#[]⟩:ByteArray) E none 0 0 f)/\∀ e,zag [a] [] f e->Run Tryz.prog (.eq .eql 175 false true F .nilIface) e fun N O=>Ext e O/\∃ s,N=(.bool s)/\P s 3 v (⟨#[]⟩:ByteArray) E none 0 0 f)/\∀ (am:Bool) (an:Int) (ao:ByteArray) (ap:ByteArray) (aq:Int) (ar:Option Addr) (au:Nat) (av:Nat) (aw:World),P am an ao ap aq ar au av aw->∀ e,zag [a] [] aw e->h (.tuple #[(.agg #[(.int .i64 an),(.string ao),(.string ap),(.int .i64 aq),(.slice ar au av)]),(.bool am)]) e)))/\((D=false)->∀ k,zag [] [a] K k->FnP Tryz.prog zaf #[(.pointer b),(.int .u8 61)] k fun L n=>zbQ [a] k n/\∃ l,L=(.bool l)/\((l=false)->∀ c,zag [a] [] n c->h (.tuple #[(.agg #[(.int .i64 0),(.string (⟨#[]⟩:ByteArray)),(.string (⟨#[]⟩:ByteArray)),(.int .i64 0),(.slice none 0 0)]),(.bool false)]) c)/\((l=true)->∀ c,zag [] [a] n c->FnP Tryz.prog zbx #[(.pointer b)] c fun M g=>zbQ [a] c g/\∃ r,M=(.string r)/\∀ p,zag [a] [] g p->h (.tuple #[(.agg #[(.int .i64 2),(.string v),(.string r),(.int .i64 0),(.slice none 0 0)]),(.bool true)]) p))))))
theorem zg4 (a:Option Addr) (b:World) (c:Value->World->Prop) (h:znn a b c):FnP Tryz.prog za6 #[(.pointer a)] b c:=
 zab (Eq.mp (by kernel_rfl:_=Runs Tryz.prog c ({N:=74,muts:=[258,259,231,260]}:Cfg) Tryz.f231 (Tryz.f231.body.getD .skip) [.sc (.ptr a)] b) h) Tryz.func231 (by kernel_rfl) (fun a w=>Tryz.call231 a w) (by kernel_rfl) (by kernel_rfl) rfl rfl
def zno (y:Option Addr) (aJ:World) (ak:Value->World->Prop):Prop:=
 ∀ b:Nat,aJ.heap.size<=b->∀ al,zag [] [b] aJ al->FnP Tryz.prog za6 #[(.pointer y)] al fun aK aj=>zbQ [b] al aj/\∃ n o p q r s t am,aK=(.tuple #[(.agg #[(.int .i64 n),(.string o),(.string p),(.int .i64 q),(.slice r s t)]),(.bool am)])/\∀ c:Nat,aj.heap.size<=c->((am=false)->∀ ac,zag [b] [] aj ac->ak (.tuple #[(.agg #[(.int .i64 0),(.string (⟨#[]⟩:ByteArray)),(.string (⟨#[]⟩:ByteArray)),(.int .i64 0),(.slice none 0 0)]),(.bool false)]) ac)/\((am=true)->∀ ac,zag [] [b,c] aj ac->FnP Tryz.prog zaf #[(.pointer y),(.int .u8 124)] ac fun aL ap=>zbQ [b,c] ac ap/\∃ an,aL=(.bool an)/\(((an=true)->∀ Z,zag [] [b,c] ap Z->FnP Tryz.prog za6 #[(.pointer y)] Z fun aq z=>zbQ [b,c] Z z/\∃ J K L M N O P A,aq=(.tuple #[(.agg #[(.int .i64 J),(.string K),(.string L),(.int .i64 M),(.slice N O P)]),(.bool A)])/\∀ l:Nat,z.heap.size<=l->∃ (C:Bool->Int->ByteArray->ByteArray->Int->Option Addr->Nat->Nat->World->Prop),((((∀ f,zag [] [b,c,l] z f->Run Tryz.prog (.buildSlice 45 2 [(0,(.agg #[(.int .i64 n),(.string o),(.string p),(.int .i64 q),(.slice r s t)])),(1,(.agg #[(.int .i64 J),(.string K),(.string L),(.int .i64 M),(.slice N O P)]))]) f fun v j=>Ext f j/\∃ g w x,v=(.slice g w x)/\(((A=true)->∀ aa,zag [] [b,c,l] j aa->FnP Tryz.prog zaf #[(.pointer y),(.int .u8 41)] aa fun ar u=>zbQ [b,c,l] aa u/\∃ ae,ar=(.bool ae)/\C ae 6 (⟨#[]⟩:ByteArray) (⟨#[]⟩:ByteArray) 0 g w x u))/\((A=false)->C false 6 (⟨#[]⟩:ByteArray) (⟨#[]⟩:ByteArray) 0 g w x j))/\(((A=true)->∀ f,zag [] [b,c,l] z f->FnP Tryz.prog zaf #[(.pointer y),(.int .u8 41)] f fun v j=>zbQ [b,c,l] f j/\∃ g,v=(.bool g)/\∀ a,zag [] [b,c,l] j a->Run Tryz.prog (.buildSlice 45 2 [(0,(.agg #[(.int .i64 n),(.string o),(.string p),(.int .i64 q),(.slice r s t)])),(1,(.agg #[(.int .i64 J),(.string K),(.string L),(.int .i64 M),(.slice N O P)]))]) a fun k e=>Ext a e/\∃ d h i,k=(.slice d h i)/\C g 6 (⟨#[]⟩:ByteArray) (⟨#[]⟩:ByteArray) 0 d h i e))/\((A=false)->∀ f,zag [] [b,c,l] z f->Run Tryz.prog (.buildSlice 45 2 [(0,(.agg #[(.int .i64 n),(.string o),(.string p),(.int .i64 q),(.slice r s t)])),(1,(.agg #[(.int .i64 J),(.string K),(.string L),(.int .i64 M),(.slice N O P)]))]) f fun v j=>Ext f j/\∃ g w x,v=(.slice g w x)/\C false 6 (⟨#[]⟩:ByteArray) (⟨#[]⟩:ByteArray) 0 g w x j))/\(((A=true)->∀ f,zag [] [b,c,l] z f->FnP Tryz.prog zaf #[(.pointer y),(.int .u8 41)] f fun v j=>zbQ [b,c,l] f j/\∃ g,v=(.bool g)/\∀ a,zag [] [b,c,l] j a->Run Tryz.prog (.buildSlice 45 2 [(0,(.agg #[(.int .i64 n),(.string o),(.string p),(.int .i64 q),(.slice r s t)])),(1,(.agg #[(.int .i64 J),(.string K),(.string L),(.int .i64 M),(.slice N O P)]))]) a fun k e=>Ext a e/\∃ d h i,k=(.slice d h i)/\C g 6 (⟨#[]⟩:ByteArray) (⟨#[]⟩:ByteArray) 0 d h i e))/\((A=false)->∀ f,zag [] [b,c,l] z f->Run Tryz.prog (.buildSlice 45 2 [(0,(.agg #[(.int .i64 n),(.string o),(.string p),(.int .i64 q),(.slice r s t)])),(1,(.agg #[(.int .i64 J),(.string K),(.string L),(.int .i64 M),(.slice N O P)]))]) f fun v j=>Ext f j/\∃ g w x,v=(.slice g w x)/\C false 6 (⟨#[]⟩:ByteArray) (⟨#[]⟩:ByteArray) 0 g w x j))/\(((∀ f,zag [] [b,c,l] z f->Run Tryz.prog (.buildSlice 45 2 [(0,(.agg #[(.int .i64 n),(.string o),(.string p),(.int .i64 q),(.slice r s t)])),(1,(.agg #[(.int .i64 J),(.string K),(.string L),(.int .i64 M),(.slice N O P)]))]) f fun v j=>Ext f j/\∃ g w x,v=(.slice g w x)/\(((A=true)->∀ aa,zag [] [b,c,l] j aa->FnP Tryz.prog zaf #[(.pointer y),(.int .u8 41)] aa fun ar u=>zbQ [b,c,l] aa u/\∃ ae,ar=(.bool ae)/\C ae 6 (⟨#[]⟩:ByteArray) (⟨#[]⟩:ByteArray) 0 g w x u))/\((A=false)->C false 6 (⟨#[]⟩:ByteArray) (⟨#[]⟩:ByteArray) 0 g w x j))/\(((A=true)->∀ f,zag [] [b,c,l] z f->FnP Tryz.prog zaf #[(.pointer y),(.int .u8 41)] f fun v j=>zbQ [b,c,l] f j/\∃ g,v=(.bool g)/\∀ a,zag [] [b,c,l] j a->Run Tryz.prog (.buildSlice 45 2 [(0,(.agg #[(.int .i64 n),(.string o),(.string p),(.int .i64 q),(.slice r s t)])),(1,(.agg #[(.int .i64 J),(.string K),(.string L),(.int .i64 M),(.slice N O P)]))]) a fun k e=>Ext a e/\∃ d h i,k=(.slice d h i)/\C g 6 (⟨#[]⟩:ByteArray) (⟨#[]⟩:ByteArray) 0 d h i e))/\((A=false)->∀ f,zag [] [b,c,l] z f->Run Tryz.prog (.buildSlice 45 2 [(0,(.agg #[(.int .i64 n),(.string o),(.string p),(.int .i64 q),(.slice r s t)])),(1,(.agg #[(.int .i64 J),(.string K),(.string L),(.int .i64 M),(.slice N O P)]))]) f fun v j=>Ext f j/\∃ g w x,v=(.slice g w x)/\C false 6 (⟨#[]⟩:ByteArray) (⟨#[]⟩:ByteArray) 0 g w x j))/\(((A=true)->∀ f,zag [] [b,c,l] z f->FnP Tryz.prog zaf #[(.pointer y),(.int .u8 41)] f fun v j=>zbQ [b,c,l] f j/\∃ g,v=(.bool g)/\∀ a,zag [] [b,c,l] j a->Run Tryz.prog (.buildSlice 45 2 [(0,(.agg #[(.int .i64 n),(.string o),(.string p),(.int .i64 q),(.slice r s t)])),(1,(.agg #[(.int .i64 J),(.string K),(.string L),(.int .i64 M),(.slice N O P)]))]) a fun k e=>Ext a e/\∃ d h i,k=(.slice d h i)/\C g 6 (⟨#[]⟩:ByteArray) (⟨#[]⟩:ByteArray) 0 d h i e))/\((A=false)->∀ f,zag [] [b,c,l] z f->Run Tryz.prog (.buildSlice 45 2 [(0,(.agg #[(.int .i64 n),(.string o),(.string p),(.int .i64 q),(.slice r s t)])),(1,(.agg #[(.int .i64 J),(.string K),(.string L),(.int .i64 M),(.slice N O P)]))]) f fun v j=>Ext f j/\∃ g w x,v=(.slice g w x)/\C false 6 (⟨#[]⟩:ByteArray) (⟨#[]⟩:ByteArray) 0 g w x j))/\(((A=true)->∀ f,zag [] [b,c,l] z f->FnP Tryz.prog zaf #[(.pointer y),(.int .u8 41)] f fun v j=>zbQ [b,c,l] f j/\∃ g,v=(.bool g)/\∀ a,zag [] [b,c,l] j a->Run Tryz.prog (.buildSlice 45 2 [(0,(.agg #[(.int .i64 n),(.string o),(.string p),(.int .i64 q),(.slice r s t)])),(1,(.agg #[(.int .i64 J),(.string K),(.string L),(.int .i64 M),(.slice N O P)]))]) a fun k e=>Ext a e/\∃ d h i,k=(.slice d h i)/\C g 6 (⟨#[]⟩:ByteArray) (⟨#[]⟩:ByteArray) 0 d h i e))/\((A=false)->∀ f,zag [] [b,c,l] z f->Run Tryz.prog (.buildSlice 45 2 [(0,(.agg #[(.int .i64 n),(.string o),(.string p),(.int .i64 q),(.slice r s t)])),(1,(.agg #[(.int .i64 J),(.string K),(.string L),(.int .i64 M),(.slice N O P)]))]) f fun v j=>Ext f j/\∃ g w x,v=(.slice g w x)/\C false 6 (⟨#[]⟩:ByteArray) (⟨#[]⟩:ByteArray) 0 g w x j))/\∀ (av:Bool) (aw:Int) (ax:ByteArray) (ay:ByteArray) (ah:Int) (ai:Option Addr) (az:Nat) (aA:Nat) (aB:World),C av aw ax ay ah ai az aA aB->∀ f,zag [b] [] aB f->ak (.tuple #[(.agg #[(.int .i64 aw),(.string ax),(.string ay),(.int .i64 ah),(.slice ai az aA)]),(.bool av)]) f))/\((an=false)->∀ Z,zag [] [b,c] ap Z->FnP Tryz.prog zaf #[(.pointer y),(.int .u8 38)] Z fun aq z=>zbQ [b,c] Z z/\∃ ao,aq=(.bool ao)/\((ao=false)->∀ ad,zag [b] [] z ad->ak (.tuple #[(.agg #[(.int .i64 0),(.string (⟨#[]⟩:ByteArray)),(.string (⟨#[]⟩:ByteArray)),(.int .i64 0),(.slice none 0 0)]),(.bool false)]) ad)/\((ao=true)->∀ ad,zag [] [b,c] z ad->FnP Tryz.prog za6 #[(.pointer y)] ad fun aM H=>zbQ [b,c] ad H/\∃ R S T U V W X B,aM=(.tuple #[(.agg #[(.int .i64 R),(.string S),(.string T),(.int .i64 U),(.slice V W X)]),(.bool B)])/\∀ m:Nat,H.heap.size<=m->∃ (D:Bool->Int->ByteArray->ByteArray->Int->Option Addr->Nat->Nat->World->Prop),((((∀ a,zag [] [b,c,m] H a->Run Tryz.prog (.buildSlice 45 2 [(0,(.agg #[(.int .i64 n),(.string o),(.string p),(.int .i64 q),(.slice r s t)])),(1,(.agg #[(.int .i64 R),(.string S),(.string T),(.int .i64 U),(.slice V W X)]))]) a fun k e=>Ext a e/\∃ d h i,k=(.slice d h i)/\(((B=true)->∀ ab,zag [] [b,c,m] e ab->FnP Tryz.prog zaf #[(.pointer y),(.int .u8 41)] ab fun au ag=>zbQ [b,c,m] ab ag/\∃ af,au=(.bool af)/\D af 5 (⟨#[]⟩:ByteArray) (⟨#[]⟩:ByteArray) 0 d h i ag))/\((B=false)->D false 5 (⟨#[]⟩:ByteArray) (⟨#[]⟩:ByteArray) 0 d h i e))/\(((B=true)->∀ a,zag [] [b,c,m] H a->FnP Tryz.prog zaf #[(.pointer y),(.int .u8 41)] a fun k e=>zbQ [b,c,m] a e/\∃ d,k=(.bool d)/\∀ u,zag [] [b,c,m] e u->Run Tryz.prog (.buildSlice 45 2 [(0,(.agg #[(.int .i64 n),(.string o),(.string p),(.int .i64 q),(.slice r s t)])),(1,(.agg #[(.int .i64 R),(.string S),(.string T),(.int .i64 U),(.slice V W X)]))]) u fun Y I=>Ext u I/\∃ E F G,Y=(.slice E F G)/\D d 5 (⟨#[]⟩:ByteArray) (⟨#[]⟩:ByteArray) 0 E F G I))/\((B=false)->∀ a,zag [] [b,c,m] H a->Run Tryz.prog (.buildSlice 45 2 [(0,(.agg #[(.int .i64 n),(.string o),(.string p),(.int .i64 q),(.slice r s t)])),(1,(.agg #[(.int .i64 R),(.string S),(.string T),(.int .i64 U),(.slice V W X)]))]) a fun k e=>Ext a e/\∃ d h i,k=(.slice d h i)/\D false 5 (⟨#[]⟩:ByteArray) (⟨#[]⟩:ByteArray) 0 d h i e))/\(((B=true)->∀ a,zag [] [b,c,m] H a->FnP Tryz.prog zaf #[(.pointer y),(.int .u8 41)] a fun k e=>zbQ [b,c,m] a e/\∃ d,k=(.bool d)/\∀ u,zag [] [b,c,m] e u->Run Tryz.prog (.buildSlice 45 2 [(0,(.agg #[(.int .i64 n),(.string o),(.string p),(.int .i64 q),(.slice r s t)])),(1,(.agg #[(.int .i64 R),(.string S),(.string T),(.int .i64 U),(.slice V W X)]))]) u fun Y I=>Ext u I/\∃ E F G,Y=(.slice E F G)/\D d 5 (⟨#[]⟩:ByteArray) (⟨#[]⟩:ByteArray) 0 E F G I))/\((B=false)->∀ a,zag [] [b,c,m] H a->Run Tryz.prog (.buildSlice 45 2 [(0,(.agg #[(.int .i64 n),(.string o),(.string p),(.int .i64 q),(.slice r s t)])),(1,(.agg #[(.int .i64 R),(.string S),(.string T),(.int .i64 U),(.slice V W X)]))]) a fun k e=>Ext a e/\∃ d h i,k=(.slice d h i)/\D false 5 (⟨#[]⟩:ByteArray) (⟨#[]⟩:ByteArray) 0 d h i e))/\(((∀ a,zag [] [b,c,m] H a->Run Tryz.prog (.buildSlice 45 2 [(0,(.agg #[(.int .i64 n),(.string o),(.string p),(.int .i64 q),(.slice r s t)])),(1,(.agg #[(.int .i64 R),(.string S),(.string T),(.int .i64 U),(.slice V W X)]))]) a fun k e=>Ext a e/\∃ d h i,k=(.slice d h i)/\(((B=true)->∀ ab,zag [] [b,c,m] e ab->FnP Tryz.prog zaf #[(.pointer y),(.int .u8 41)] ab fun au ag=>zbQ [b,c,m] ab ag/\∃ af,au=(.bool af)/\D af 5 (⟨#[]⟩:ByteArray) (⟨#[]⟩:ByteArray) 0 d h i ag))/\((B=false)->D false 5 (⟨#[]⟩:ByteArray) (⟨#[]⟩:ByteArray) 0 d h i e))/\(((B=true)->∀ a,zag [] [b,c,m] H a->FnP Tryz.prog zaf #[(.pointer y),(.int .u8 41)] a fun k e=>zbQ [b,c,m] a e/\∃ d,k=(.bool d)/\∀ u,zag [] [b,c,m] e u->Run Tryz.prog (.buildSlice 45 2 [(0,(.agg #[(.int .i64 n),(.string o),(.string p),(.int .i64 q),(.slice r s t)])),(1,(.agg #[(.int .i64 R),(.string S),(.string T),(.int .i64 U),(.slice V W X)]))]) u fun Y I=>Ext u I/\∃ E F G,Y=(.slice E F G)/\D d 5 (⟨#[]⟩:ByteArray) (⟨#[]⟩:ByteArray) 0 E F G I))/\((B=false)->∀ a,zag [] [b,c,m] H a->Run Tryz.prog (.buildSlice 45 2 [(0,(.agg #[(.int .i64 n),(.string o),(.string p),(.int .i64 q),(.slice r s t)])),(1,(.agg #[(.int .i64 R),(.string S),(.string T),(.int .i64 U),(.slice V W X)]))]) a fun k e=>Ext a e/\∃ d h i,k=(.slice d h i)/\D false 5 (⟨#[]⟩:ByteArray) (⟨#[]⟩:ByteArray) 0 d h i e))/\(((B=true)->∀ a,zag [] [b,c,m] H a->FnP Tryz.prog zaf #[(.pointer y),(.int .u8 41)] a fun k e=>zbQ [b,c,m] a e/\∃ d,k=(.bool d)/\∀ u,zag [] [b,c,m] e u->Run Tryz.prog (.buildSlice 45 2 [(0,(.agg #[(.int .i64 n),(.string o),(.string p),(.int .i64 q),(.slice r s t)])),(1,(.agg #[(.int .i64 R),(.string S),(.string T),(.int .i64 U),(.slice V W X)]))]) u fun Y I=>Ext u I/\∃ E F G,Y=(.slice E F G)/\D d 5 (⟨#[]⟩:ByteArray) (⟨#[]⟩:ByteArray) 0 E F G I))/\((B=false)->∀ a,zag [] [b,c,m] H a->Run Tryz.prog (.buildSlice 45 2 [(0,(.agg #[(.int .i64 n),(.string o),(.string p),(.int .i64 q),(.slice r s t)])),(1,(.agg #[(.int .i64 R),(.string S),(.string T),(.int .i64 U),(.slice V W X)]))]) a fun k e=>Ext a e/\∃ d h i,k=(.slice d h i)/\D false 5 (⟨#[]⟩:ByteArray) (⟨#[]⟩:ByteArray) 0 d h i e))/\(((B=true)->∀ a,zag [] [b,c,m] H a->FnP Tryz.prog zaf #[(.pointer y),(.int .u8 41)] a fun k e=>zbQ [b,c,m] a e/\∃ d,k=(.bool d)/\∀ u,zag [] [b,c,m] e u->Run Tryz.prog (.buildSlice 45 2 [(0,(.agg #[(.int .i64 n),(.string o),(.string p),(.int .i64 q),(.slice r s t)])),(1,(.agg #[(.int .i64 R),(.string S),(.string T),(.int .i64 U),(.slice V W X)]))]) u fun Y I=>Ext u I/\∃ E F G,Y=(.slice E F G)/\D d 5 (⟨#[]⟩:ByteArray) (⟨#[]⟩:ByteArray) 0 E F G I))/\((B=false)->∀ a,zag [] [b,c,m] H a->Run Tryz.prog (.buildSlice 45 2 [(0,(.agg #[(.int .i64 n),(.string o),(.string p),(.int .i64 q),(.slice r s t)])),(1,(.agg #[(.int .i64 R),(.string S),(.string T),(.int .i64 U),(.slice V W X)]))]) a fun k e=>Ext a e/\∃ d h i,k=(.slice d h i)/\D false 5 (⟨#[]⟩:ByteArray) (⟨#[]⟩:ByteArray) 0 d h i e))/\∀ (aC:Bool) (ah:Int) (ai:ByteArray) (aD:ByteArray) (aE:Int) (aF:Option Addr) (aG:Nat) (aH:Nat) (aI:World),D aC ah ai aD aE aF aG aH aI->∀ a,zag [b] [] aI a->ak (.tuple #[(.agg #[(.int .i64 ah),(.string ai),(.string aD),(.int .i64 aE),(.slice aF aG aH)]),(.bool aC)]) a)))
theorem zmQ (a:Option Addr) (b:World) (c:Value->World->Prop) (h:zno a b c):FnP Tryz.prog zeQ #[(.pointer a)] b c:=
 zab (Eq.mp (by kernel_rfl:_=Runs Tryz.prog c ({N:=36,muts:=[258,259,231,260]}:Cfg) Tryz.f260 (Tryz.f260.body.getD .skip) [.sc (.ptr a)] b) h) Tryz.func260 (by kernel_rfl) (fun a w=>Tryz.call260 a w) (by kernel_rfl) (by kernel_rfl) rfl rfl
def zyv (f:ByteArray) (s:World) (g:Value->World->Prop):Prop:=
 ∀ a:Nat,s.heap.size<=a->((2000<(f.size:Int))->∀ d,Ext s d->g (.tuple #[(.agg #[(.int .i64 0),(.string (⟨#[]⟩:ByteArray)),(.string (⟨#[]⟩:ByteArray)),(.int .i64 0),(.slice none 0 0)]),(.int .i64 2)]) d)/\(((f.size:Int)<=2000)->∀ d,zag [] [a] s d->New d 348 [(.string f),(.int .i64 60)] fun u v=>∀ h,zag [] [a] v h->FnP Tryz.prog za6 #[(.pointer u)] h fun w c=>zbQ [a] h c/\∃ i j k l m n o p,w=(.tuple #[(.agg #[(.int .i64 i),(.string j),(.string k),(.int .i64 l),(.slice m n o)]),(.bool p)])/\∀ t:Nat,c.heap.size<=t->((p=false)->∀ b,zag [a] [] c b->g (.tuple #[(.agg #[(.int .i64 0),(.string (⟨#[]⟩:ByteArray)),(.string (⟨#[]⟩:ByteArray)),(.int .i64 0),(.slice none 0 0)]),(.int .i64 3)]) b)/\((p=true)->∀ b,Ext c b->FnP Tryz.prog zjw #[(.agg #[(.int .i64 i),(.string j),(.string k),(.int .i64 l),(.slice m n o)])] b fun x y=>Ext b y/\∃ q r,x=(.tuple #[(.string q),(.int .i64 r)])/\(((r≠0)\/(q≠f))->∀ e,zag [a] [] c e->g (.tuple #[(.agg #[(.int .i64 0),(.string (⟨#[]⟩:ByteArray)),(.string (⟨#[]⟩:ByteArray)),(.int .i64 0),(.slice none 0 0)]),(.int .i64 3)]) e)/\(((r=0)/\(q=f))->∀ e,zag [a] [] c e->g (.tuple #[(.agg #[(.int .i64 i),(.string j),(.string k),(.int .i64 l),(.slice m n o)]),(.int .i64 0)]) e)))
theorem zxN (a:ByteArray) (b:World) (c:Value->World->Prop) (h:zyv a b c):FnP Tryz.prog zjv #[(.string a)] b c:=
 zab (Eq.mp (by kernel_rfl:_=Runs Tryz.prog c ({N:=38,pub:=[15],muts:=[231]}:Cfg) Tryz.f177 (Tryz.f177.body.getD .skip) [.sc (.str a)] b) h) Tryz.func177 (by kernel_rfl) (fun a w=>Tryz.call177 a w) (by kernel_rfl) (by kernel_rfl) rfl rfl
abbrev zbw:FuncId:=105
abbrev zgT:FuncId:=130
abbrev zkq:FuncId:=174
abbrev zdg:FuncId:=175
def zws (B:ByteArray) (n C D E F:Int) (G H:ByteArray) (I:Int) (J:Option Addr) (K L:Nat) (t:Option Addr) (j M:Nat) (b:World) (f:Value->World->Prop):Prop:=
 ∀ u:Nat,b.heap.size<=u->∀ o,Ext b o->FnP Tryz.prog zbo #[(.string B)] o fun v w=>Ext o w/\∃ p,v=(.bool p)/\((p=false)->∀ c,Ext b c->f (.int .i64 3) c)/\((p=true)->(((n<(-1000))\/(1000<n))->∀ c,Ext b c->f (.int .i64 4) c)/\((((-1000)<=n)/\(n<=1000))->∀ c,Ext b c->FnP Tryz.prog zbi #[(.agg #[(.int .i64 C),(.int .i64 D),(.int .i64 E)])] c fun x y=>Ext c y/\∃ k,x=(.int .i64 k)/\((k≠0)->∀ g,Ext b g->f (.int .i64 k) g)/\((k=0)->∀ g,Ext b g->FnP Tryz.prog zee #[(.agg #[(.int .i64 F),(.string G),(.string H),(.int .i64 I),(.slice J K L)])] g fun z A=>Ext g A/\∃ l,z=(.int .i64 l)/\((l≠0)->∀ h,Ext b h->f (.int .i64 l) h)/\((l=0)->((8<(j:Int))->∀ h,Ext b h->f (.int .i64 2) h)/\(((j:Int)<=8)->∃ (q:Int->Int->World->Prop) (s:Int->Int->World->Nat),q 0 0 b/\∀ (m:Int) (a:Int) (e:World),q m a e->(((a<(j:Int))->t≠none/\(0:Int)<=a/\(a:Int)<(j:Int)/\∃ d,cell e (pIdx t a 1) 0=some (.int .i64 d)/\(((d<1)\/(60<d))->∀ i,Ext e i->f (.int .i64 4) i)/\(((1<=d)/\(d<=60))->((d<=m)->∀ i,Ext e i->f (.int .i64 6) i)/\((m<d)->InR .i64 (a+1)/\(q d (a+1) e/\s d (a+1) e<s m a e)))))/\(((j:Int)<=a)->∀ r,Ext e r->f (.int .i64 0) r))))))
theorem znP (a:ByteArray) (b c d e f:Int) (g i:ByteArray) (j:Int) (k:Option Addr) (l m:Nat) (n:Option Addr) (o p:Nat) (q:World) (r:Value->World->Prop) (h:zws a b c d e f g i j k l m n o p q r):FnP Tryz.prog zdo #[(.agg #[(.string a),(.int .i64 b),(.int .i64 c),(.int .i64 d),(.int .i64 e),(.int .i64 f),(.string g),(.string i),(.int .i64 j),(.slice k l m),(.slice n o p)])] q r:=
 zab (Eq.mp (by kernel_rfl:_=Runs Tryz.prog r ({N:=58}:Cfg) Tryz.f66 (Tryz.f66.body.getD .skip) [.agg [.str a,.int .i64 b,.int .i64 c,.int .i64 d,.int .i64 e,.int .i64 f,.str g,.str i,.int .i64 j,.slc k l m,.slc n o p]] q) h) Tryz.func66 (by kernel_rfl) (fun a w=>Tryz.call66 a w) (by kernel_rfl) (by kernel_rfl) rfl rfl
def zwt (z:Option Addr) (d H:Nat) (A:World) (B:Value->World->Prop):Prop:=
 (((d:Int)=0)->∀ n,Ext A n->B (.string (⟨#[45]⟩:ByteArray)) n)/\(((d:Int)≠0)->∃ (m:Option Addr->Nat->Nat->Int->World->Prop) (y:Option Addr->Nat->Nat->Int->World->Nat),m none 0 0 0 A/\∀ (e:Option Addr) (f:Nat) (g:Nat) (a:Int) (b:World),m e f g a b->(((a<(d:Int))->z≠none/\(0:Int)<=a/\(a:Int)<(d:Int)/\∃ o,cell b (pIdx z a 1) 0=some (.int .i64 o)/\∀ c,Ext b c->FnP Tryz.prog zbw #[(.int .i64 o)] c fun C D=>Ext c D/\∃ p,C=(.string p)/\∀ h,Ext b h->Run Tryz.prog (.buildSlice 22 1 [(0,(.string p))]) h fun E w=>Ext h w/\∃ q r s,E=(.slice q r s)/\∀ t,Ext w t->Run Tryz.prog (.append #[22,22] 22 [(.slice e f g),(.slice q r s)]) t fun F x=>∃ i j k,F=(.slice i j k)/\InR .i64 (a+1)/\(m i j k (a+1) x/\y i j k (a+1) x<y e f g a b)))/\(((d:Int)<=a)->∀ l,Ext b l->FnP Tryz.prog zbf #[(.slice e f g),(.string (⟨#[44]⟩:ByteArray))] l fun G c=>Ext l c/\∃ u,G=(.string u)/\∀ v,Ext b v->B (.string u) v))
theorem zvB (a:Option Addr) (b c:Nat) (d:World) (e:Value->World->Prop) (h:zwt a b c d e):FnP Tryz.prog zkq #[(.slice a b c)] d e:=
 zab (Eq.mp (by kernel_rfl:_=Runs Tryz.prog e ({N:=23}:Cfg) Tryz.f174 (Tryz.f174.body.getD .skip) [.sc (.slc a b c)] d) h) Tryz.func174 (by kernel_rfl) (fun a w=>Tryz.call174 a w) (by kernel_rfl) (by kernel_rfl) rfl rfl
def zyG (u:ByteArray) (v w x y z:Int) (A B:ByteArray) (C:Int) (D:Option Addr) (E F:Nat) (G:Option Addr) (H I:Nat) (a:World) (J:Value->World->Prop):Prop:=
 ∀ k:Nat,a.heap.size<=k->∀ d,Ext a d->FnP Tryz.prog zdo #[(.agg #[(.string u),(.int .i64 v),(.int .i64 w),(.int .i64 x),(.int .i64 y),(.int .i64 z),(.string A),(.string B),(.int .i64 C),(.slice D E F),(.slice G H I)])] d fun M N=>Ext d N/\∃ c,M=(.int .i64 c)/\((c≠0)->∀ b,Ext a b->J (.tuple #[(.string (⟨#[]⟩:ByteArray)),(.int .i64 c)]) b)/\((c=0)->∀ b,Ext a b->FnP Tryz.prog zhv #[(.agg #[(.int .i64 w),(.int .i64 x),(.int .i64 y)])] b fun O P=>Ext b P/\∃ l K,O=(.tuple #[(.string l),(.int .i64 K)])/\∀ e,Ext a e->FnP Tryz.prog zjw #[(.agg #[(.int .i64 z),(.string A),(.string B),(.int .i64 C),(.slice D E F)])] e fun R S=>Ext e S/\∃ m L,R=(.tuple #[(.string m),(.int .i64 L)])/\∀ f,Ext a f->FnP Tryz.prog zbw #[(.int .i64 v)] f fun T U=>Ext f U/\∃ n,T=(.string n)/\∀ g,Ext a g->FnP Tryz.prog zkq #[(.slice G H I)] g fun V W=>Ext g W/\∃ o,V=(.string o)/\∀ h,zag [] [k] a h->Run Tryz.prog (.buildSlice 22 5 [(0,(.string u)),(1,(.string n)),(2,(.string l)),(3,(.string o)),(4,(.string m))]) h fun X j=>Ext h j/\∃ p q r,X=(.slice p q r)/\∀ i,Ext j i->FnP Tryz.prog zbf #[(.slice p q r),(.string (⟨#[32]⟩:ByteArray))] i fun Y Z=>Ext i Z/\∃ s,Y=(.string s)/\∀ t,Ext j t->J (.tuple #[(.string s),(.int .i64 0)]) t)
theorem zxZ (a:ByteArray) (b c d e f:Int) (g i:ByteArray) (j:Int) (k:Option Addr) (l m:Nat) (n:Option Addr) (o p:Nat) (q:World) (r:Value->World->Prop) (h:zyG a b c d e f g i j k l m n o p q r):FnP Tryz.prog zeg #[(.agg #[(.string a),(.int .i64 b),(.int .i64 c),(.int .i64 d),(.int .i64 e),(.int .i64 f),(.string g),(.string i),(.int .i64 j),(.slice k l m),(.slice n o p)])] q r:=
 zab (Eq.mp (by kernel_rfl:_=Runs Tryz.prog r ({N:=38}:Cfg) Tryz.f128 (Tryz.f128.body.getD .skip) [.agg [.str a,.int .i64 b,.int .i64 c,.int .i64 d,.int .i64 e,.int .i64 f,.str g,.str i,.int .i64 j,.slc k l m,.slc n o p]] q) h) Tryz.func128 (by kernel_rfl) (fun a w=>Tryz.call128 a w) (by kernel_rfl) (by kernel_rfl) rfl rfl
def zyF (j:ByteArray) (ar:World) (h:Value->World->Prop):Prop:=
 ∀ c:Nat,ar.heap.size<=c->((3000<(j.size:Int))->∀ k,Ext ar k->h (.tuple #[(.agg #[(.string (⟨#[]⟩:ByteArray)),(.int .i64 0),(.int .i64 0),(.int .i64 0),(.int .i64 0),(.int .i64 0),(.string (⟨#[]⟩:ByteArray)),(.string (⟨#[]⟩:ByteArray)),(.int .i64 0),(.slice none 0 0),(.slice none 0 0)]),(.int .i64 2)]) k)/\(((j.size:Int)<=3000)->∀ k,zag [] [c] ar k->FnP Tryz.prog zbk #[(.string j),(.string (⟨#[32]⟩:ByteArray))] k fun aL n=>Ext k n/\∃ b e aJ,aL=(.slice b e aJ)/\(((e:Int)≠5)->∀ au,zag [c] [] n au->h (.tuple #[(.agg #[(.string (⟨#[]⟩:ByteArray)),(.int .i64 0),(.int .i64 0),(.int .i64 0),(.int .i64 0),(.int .i64 0),(.string (⟨#[]⟩:ByteArray)),(.string (⟨#[]⟩:ByteArray)),(.int .i64 0),(.slice none 0 0),(.slice none 0 0)]),(.int .i64 3)]) au)/\(((e:Int)=5)->b≠none/\(0:Int)<=0/\(0:Int)<(e:Int)/\∃ I,cell n (pIdx b 0 1) 0=some (.string I)/\∀ a:Nat,n.heap.size<=a->b≠none/\(0:Int)<=1/\(1:Int)<(e:Int)/\∃ av,cell n (pIdx b 1 1) 0=some (.string av)/\∀ X,zag [] [c,a] n X->FnP Tryz.prog zdg #[(.string av)] X fun aM E=>Ext X E/\∃ J aw,aM=(.tuple #[(.int .i64 J),aw])/\b≠none/\(0:Int)<=2/\(2:Int)<(e:Int)/\∃ ax,((cell E (pIdx b 2 1) 0=some (.string ax)/\zwB [a] (pIdx b 2 1)))/\∀ Y,zag [a] [] E Y->FnP Tryz.prog zfr #[(.string ax)] Y fun aN aO=>Ext Y aO/\∃ K L M Z,aN=(.tuple #[(.agg #[(.int .i64 K),(.int .i64 L),(.int .i64 M)]),(.int .i64 Z)])/\b≠none/\(0:Int)<=4/\(4:Int)<(e:Int)/\∃ ay,((cell E (pIdx b 4 1) 0=some (.string ay)/\zwB [a] (pIdx b 4 1)))/\∀ aa,zag [a] [c,a] E aa->FnP Tryz.prog zjv #[(.string ay)] aa fun aP f=>Ext aa f/\∃ N O P R S T U ab,aP=(.tuple #[(.agg #[(.int .i64 N),(.string O),(.string P),(.int .i64 R),(.slice S T U)]),(.int .i64 ab)])/\∀ ac,zag [a] [] f ac->Run Tryz.prog (.eq .neq 175 false true aw .nilIface) ac fun aQ aR=>Ext ac aR/\∃ ad,aQ=(.bool ad)/\((((ad=true)\/(Z≠0))\/(ab≠0))->∀ az,zag [c,a] [] f az->h (.tuple #[(.agg #[(.string (⟨#[]⟩:ByteArray)),(.int .i64 0),(.int .i64 0),(.int .i64 0),(.int .i64 0),(.int .i64 0),(.string (⟨#[]⟩:ByteArray)),(.string (⟨#[]⟩:ByteArray)),(.int .i64 0),(.slice none 0 0),(.slice none 0 0)]),(.int .i64 3)]) az)/\((((ad=false)/\(Z=0))/\(ab=0))->b≠none/\(0:Int)<=3/\(3:Int)<(e:Int)/\∃ ae,((cell f (pIdx b 3 1) 0=some (.string ae)/\zwB [a] (pIdx b 3 1)))/\(((ae≠(⟨#[45]⟩:ByteArray))->b≠none/\(0:Int)<=3/\(3:Int)<(e:Int)/\∃ aA,((cell f (pIdx b 3 1) 0=some (.string aA)/\zwB [a] (pIdx b 3 1)))/\∀ A,zag [a] [c,a] f A->FnP Tryz.prog zbk #[(.string aA),(.string (⟨#[44]⟩:ByteArray))] A fun aS aG=>Ext A aG/\∃ g V aK,aS=(.slice g V aK)/\∃ (aq:Int->ByteArray->Int->Int->Int->Int->Int->ByteArray->ByteArray->Int->Option Addr->Nat->Nat->Option Addr->Nat->Nat->World->Prop) (aI:Int->ByteArray->Int->Int->Int->Int->Int->ByteArray->ByteArray->Int->Option Addr->Nat->Nat->Option Addr->Nat->Nat->World->Nat),aq 0 I J K L M N O P R S T U none 0 0 aG/\∀ (d:Int) (o:ByteArray) (p:Int) (q:Int) (r:Int) (s:Int) (t:Int) (u:ByteArray) (v:ByteArray) (w:Int) (x:Option Addr) (y:Nat) (z:Nat) (F:Option Addr) (G:Nat) (H:Nat) (i:World),aq d o p q r s t u v w x y z F G H i->(((d<(V:Int))->g≠none/\(0:Int)<=d/\(d:Int)<(V:Int)/\∃ aB,((cell i (pIdx g d 1) 0=some (.string aB)/\zwB [a] (pIdx g d 1)))/\∀ B,zag [a] [c,a] i B->FnP Tryz.prog zdg #[(.string aB)] B fun aT W=>Ext B W/\∃ l aC,aT=(.tuple #[(.int .i64 l),aC])/\∀ af,Ext W af->Run Tryz.prog (.eq .neq 175 false true aC .nilIface) af fun aU aV=>Ext af aV/\∃ ag,aU=(.bool ag)/\((ag=true)->∀ m,zag [c] [] W m->h (.tuple #[(.agg #[(.string (⟨#[]⟩:ByteArray)),(.int .i64 0),(.int .i64 0),(.int .i64 0),(.int .i64 0),(.int .i64 0),(.string (⟨#[]⟩:ByteArray)),(.string (⟨#[]⟩:ByteArray)),(.int .i64 0),(.slice none 0 0),(.slice none 0 0)]),(.int .i64 3)]) m)/\((ag=false)->∀ m,zag [] [c,a] W m->Run Tryz.prog (.buildSlice 48 1 [(0,(.int .i64 l))]) m fun aW aH=>Ext m aH/\∃ aD aE aF,aW=(.slice aD aE aF)/\∀ ah,zag [] [c,a] aH ah->Run Tryz.prog (.append #[48,48] 48 [(.slice F G H),(.slice aD aE aF)]) ah fun aX ap=>zbQ [c,a] ah ap/\∃ ai aj ak,aX=(.slice ai aj ak)/\InR .i64 (d+1)/\(aq (d+1) o p q r s t u v w x y z ai aj ak ap/\aI (d+1) o p q r s t u v w x y z ai aj ak ap<aI d o p q r s t u v w x y z F G H i))))/\(((V:Int)<=d)->∀ al,zag [a] [] i al->FnP Tryz.prog zeg #[(.agg #[(.string o),(.int .i64 p),(.int .i64 q),(.int .i64 r),(.int .i64 s),(.int .i64 t),(.string u),(.string v),(.int .i64 w),(.slice x y z),(.slice F G H)])] al fun aY B=>Ext al B/\∃ am l,aY=(.tuple #[(.string am),(.int .i64 l)])/\(((l≠0)\/(am≠j))->∀ C,zag [c,a] [] i C->h (.tuple #[(.agg #[(.string (⟨#[]⟩:ByteArray)),(.int .i64 0),(.int .i64 0),(.int .i64 0),(.int .i64 0),(.int .i64 0),(.string (⟨#[]⟩:ByteArray)),(.string (⟨#[]⟩:ByteArray)),(.int .i64 0),(.slice none 0 0),(.slice none 0 0)]),(.int .i64 3)]) C)/\(((l=0)/\(am=j))->∀ C,zag [c,a] [] i C->h (.tuple #[(.agg #[(.string o),(.int .i64 p),(.int .i64 q),(.int .i64 r),(.int .i64 s),(.int .i64 t),(.string u),(.string v),(.int .i64 w),(.slice x y z),(.slice F G H)]),(.int .i64 0)]) C))))/\((ae=(⟨#[45]⟩:ByteArray))->∀ an,zag [a] [] f an->FnP Tryz.prog zeg #[(.agg #[(.string I),(.int .i64 J),(.int .i64 K),(.int .i64 L),(.int .i64 M),(.int .i64 N),(.string O),(.string P),(.int .i64 R),(.slice S T U),(.slice none 0 0)])] an fun aZ A=>Ext an A/\∃ ao g,aZ=(.tuple #[(.string ao),(.int .i64 g)])/\(((g≠0)\/(ao≠j))->∀ D,zag [c,a] [] f D->h (.tuple #[(.agg #[(.string (⟨#[]⟩:ByteArray)),(.int .i64 0),(.int .i64 0),(.int .i64 0),(.int .i64 0),(.int .i64 0),(.string (⟨#[]⟩:ByteArray)),(.string (⟨#[]⟩:ByteArray)),(.int .i64 0),(.slice none 0 0),(.slice none 0 0)]),(.int .i64 3)]) D)/\(((g=0)/\(ao=j))->∀ D,zag [c,a] [] f D->h (.tuple #[(.agg #[(.string I),(.int .i64 J),(.int .i64 K),(.int .i64 L),(.int .i64 M),(.int .i64 N),(.string O),(.string P),(.int .i64 R),(.slice S T U),(.slice none 0 0)]),(.int .i64 0)]) D)))))
theorem zpV (a:ByteArray) (b:World) (c:Value->World->Prop) (h:zyF a b c):FnP Tryz.prog zgT #[(.string a)] b c:=
 zab (Eq.mp (by kernel_rfl:_=Runs Tryz.prog c ({N:=106}:Cfg) Tryz.f130 (Tryz.f130.body.getD .skip) [.sc (.str a)] b) h) Tryz.func130 (by kernel_rfl) (fun a w=>Tryz.call130 a w) (by kernel_rfl) (by kernel_rfl) rfl rfl
abbrev zcw:FuncId:=61
abbrev zci:FuncId:=78
abbrev zjz:FuncId:=79
abbrev zhu:FuncId:=108
abbrev zhw:FuncId:=115
def zrB (c:Option Addr) (g s:Nat) (r:World) (n:Value->World->Prop):Prop:=
 ∃ (f:Int->World->Prop) (m:Int->World->Nat),f 0 r/\∀ (a:Int) (b:World),f a b->(((a<(g:Int))->c≠none/\(0:Int)<=a/\(a:Int)<(g:Int)/\(pIdx c a 3)≠none/\∃ h,cell b (pIdx c a 3) 0=some (.int .i64 h)/\∃ i,cell b (pIdx c a 3) 1=some (.int .i64 i)/\∃ j,cell b (pIdx c a 3) 2=some (.int .i64 j)/\∀ o:Nat,b.heap.size<=o->∀ e,Ext b e->FnP Tryz.prog zbi #[(.agg #[(.int .i64 h),(.int .i64 i),(.int .i64 j)])] e fun p q=>Ext e q/\∃ d,p=(.int .i64 d)/\((d≠0)->∀ k,Ext b k->n (.int .i64 d) k)/\((d=0)->InR .i64 (a+1)/\(f (a+1) b/\m (a+1) b<m a b))))/\(((g:Int)<=a)->∀ l,Ext b l->n (.int .i64 0) l)
theorem zra (a:Option Addr) (b c:Nat) (d:World) (e:Value->World->Prop) (h:zrB a b c d e):FnP Tryz.prog zci #[(.slice a b c)] d e:=
 zab (Eq.mp (by kernel_rfl:_=Runs Tryz.prog e ({N:=18}:Cfg) Tryz.f78 (Tryz.f78.body.getD .skip) [.sc (.slc a b c)] d) h) Tryz.func78 (by kernel_rfl) (fun a w=>Tryz.call78 a w) (by kernel_rfl) (by kernel_rfl) rfl rfl
def zwx (e f g h i j:Int) (a:World) (k:Value->World->Prop):Prop:=
 ∀ c:Nat,a.heap.size<=c->∀ d:Nat,a.heap.size<=d->∀ b,Ext a b->k (.bool (((decide (e<=h))&&(decide (f<=i)))&&(decide (g<=j)))) b
theorem zvE (a b c d e f:Int) (g:World) (i:Value->World->Prop) (h:zwx a b c d e f g i):FnP Tryz.prog zhw #[(.agg #[(.int .i64 a),(.int .i64 b),(.int .i64 c)]),(.agg #[(.int .i64 d),(.int .i64 e),(.int .i64 f)])] g i:=
 zab (Eq.mp (by kernel_rfl:_=Runs Tryz.prog i ({N:=24}:Cfg) Tryz.f115 (Tryz.f115.body.getD .skip) [.agg [.int .i64 a,.int .i64 b,.int .i64 c],.agg [.int .i64 d,.int .i64 e,.int .i64 f]] g) h) Tryz.func115 (by kernel_rfl) (fun a w=>Tryz.call115 a w) (by kernel_rfl) (by kernel_rfl) rfl rfl
def zwu (n o p q r s:Int) (f:World) (t:Value->World->Prop):Prop:=
 ∀ g:Nat,f.heap.size<=g->∀ h:Nat,f.heap.size<=h->∀ d,zag [] [g,h] f d->Run Tryz.prog (.buildSlice 153 2 [(0,(.agg #[(.int .i64 n),(.int .i64 o),(.int .i64 p)])),(1,(.agg #[(.int .i64 q),(.int .i64 r),(.int .i64 s)]))]) d fun u b=>Ext d b/\∃ i j k,u=(.slice i j k)/\∀ e,Ext b e->FnP Tryz.prog zci #[(.slice i j k)] e fun v w=>Ext e w/\∃ c,v=(.int .i64 c)/\((c≠0)->∀ a,Ext b a->t (.tuple #[(.bool false),(.int .i64 c)]) a)/\((c=0)->∀ a,Ext b a->FnP Tryz.prog zhw #[(.agg #[(.int .i64 n),(.int .i64 o),(.int .i64 p)]),(.agg #[(.int .i64 q),(.int .i64 r),(.int .i64 s)])] a fun x y=>Ext a y/\∃ l,x=(.bool l)/\∀ m,Ext b m->t (.tuple #[(.bool l),(.int .i64 0)]) m)
theorem zvC (a b c d e f:Int) (g:World) (i:Value->World->Prop) (h:zwu a b c d e f g i):FnP Tryz.prog zhu #[(.agg #[(.int .i64 a),(.int .i64 b),(.int .i64 c)]),(.agg #[(.int .i64 d),(.int .i64 e),(.int .i64 f)])] g i:=
 zab (Eq.mp (by kernel_rfl:_=Runs Tryz.prog i ({N:=17}:Cfg) Tryz.f108 (Tryz.f108.body.getD .skip) [.agg [.int .i64 a,.int .i64 b,.int .i64 c],.agg [.int .i64 d,.int .i64 e,.int .i64 f]] g) h) Tryz.func108 (by kernel_rfl) (fun a w=>Tryz.call108 a w) (by kernel_rfl) (by kernel_rfl) rfl rfl
def zyH (e f g h i j:Int) (k:World) (p:Value->World->Prop):Prop:=
 ∀ q:Nat,k.heap.size<=q->∀ r:Nat,k.heap.size<=r->∀ b:Nat,k.heap.size<=b->∀ l,zag [] [q,r,b] k l->Run Tryz.prog (.buildSlice 153 2 [(0,(.agg #[(.int .i64 e),(.int .i64 f),(.int .i64 g)])),(1,(.agg #[(.int .i64 h),(.int .i64 i),(.int .i64 j)]))]) l fun x a=>Ext l a/\∃ s t u,x=(.slice s t u)/\∀ m,Ext a m->FnP Tryz.prog zci #[(.slice s t u)] m fun y z=>Ext m z/\∃ d,y=(.int .i64 d)/\((d≠0)->∀ v,zag [b] [] a v->p (.tuple #[(.agg #[(.int .i64 0),(.int .i64 0),(.int .i64 0)]),(.int .i64 d)]) v)/\((d=0)->InR .i64 (e+h)/\InR .i64 (f+i)/\InR .i64 (g+j)/\∀ w:Nat,a.heap.size<=w->∀ n,Ext a n->FnP Tryz.prog zbi #[(.agg #[(.int .i64 (e+h)),(.int .i64 (f+i)),(.int .i64 (g+j))])] n fun A B=>Ext n B/\∃ o,A=(.int .i64 o)/\((o≠0)->∀ c,zag [b] [] a c->p (.tuple #[(.agg #[(.int .i64 0),(.int .i64 0),(.int .i64 0)]),(.int .i64 2)]) c)/\((o=0)->∀ c,zag [b] [] a c->p (.tuple #[(.agg #[(.int .i64 (e+h)),(.int .i64 (f+i)),(.int .i64 (g+j))]),(.int .i64 0)]) c))
theorem zx0 (a b c d e f:Int) (g:World) (i:Value->World->Prop) (h:zyH a b c d e f g i):FnP Tryz.prog zjz #[(.agg #[(.int .i64 a),(.int .i64 b),(.int .i64 c)]),(.agg #[(.int .i64 d),(.int .i64 e),(.int .i64 f)])] g i:=
 zab (Eq.mp (by kernel_rfl:_=Runs Tryz.prog i ({N:=37}:Cfg) Tryz.f79 (Tryz.f79.body.getD .skip) [.agg [.int .i64 a,.int .i64 b,.int .i64 c],.agg [.int .i64 d,.int .i64 e,.int .i64 f]] g) h) Tryz.func79 (by kernel_rfl) (fun a w=>Tryz.call79 a w) (by kernel_rfl) (by kernel_rfl) rfl rfl
def zyI (f g h i j k:Int) (l:World) (p:Value->World->Prop):Prop:=
 ∀ q:Nat,l.heap.size<=q->∀ r:Nat,l.heap.size<=r->∀ c:Nat,l.heap.size<=c->∀ m,zag [] [q,r,c] l m->Run Tryz.prog (.buildSlice 153 2 [(0,(.agg #[(.int .i64 f),(.int .i64 g),(.int .i64 h)])),(1,(.agg #[(.int .i64 i),(.int .i64 j),(.int .i64 k)]))]) m fun v b=>Ext m b/\∃ s t u,v=(.slice s t u)/\∀ n,Ext b n->FnP Tryz.prog zci #[(.slice s t u)] n fun w x=>Ext n x/\∃ e,w=(.int .i64 e)/\((e≠0)->∀ a,zag [c] [] b a->p (.tuple #[(.agg #[(.int .i64 0),(.int .i64 0),(.int .i64 0)]),(.int .i64 e)]) a)/\((e=0)->∀ a,Ext b a->FnP Tryz.prog zhw #[(.agg #[(.int .i64 i),(.int .i64 j),(.int .i64 k)]),(.agg #[(.int .i64 f),(.int .i64 g),(.int .i64 h)])] a fun y z=>Ext a z/\∃ o,y=(.bool o)/\((o=false)->∀ d,zag [c] [] b d->p (.tuple #[(.agg #[(.int .i64 0),(.int .i64 0),(.int .i64 0)]),(.int .i64 10)]) d)/\((o=true)->InR .i64 (f-i)/\InR .i64 (g-j)/\InR .i64 (h-k)/\∀ d,zag [c] [] b d->p (.tuple #[(.agg #[(.int .i64 (f-i)),(.int .i64 (g-j)),(.int .i64 (h-k))]),(.int .i64 0)]) d))
theorem zx1 (a b c d e f:Int) (g:World) (i:Value->World->Prop) (h:zyI a b c d e f g i):FnP Tryz.prog zcw #[(.agg #[(.int .i64 a),(.int .i64 b),(.int .i64 c)]),(.agg #[(.int .i64 d),(.int .i64 e),(.int .i64 f)])] g i:=
 zab (Eq.mp (by kernel_rfl:_=Runs Tryz.prog i ({N:=38}:Cfg) Tryz.f61 (Tryz.f61.body.getD .skip) [.agg [.int .i64 a,.int .i64 b,.int .i64 c],.agg [.int .i64 d,.int .i64 e,.int .i64 f]] g) h) Tryz.func61 (by kernel_rfl) (fun a w=>Tryz.call61 a w) (by kernel_rfl) (by kernel_rfl) rfl rfl
abbrev zkl:FuncId:=114
abbrev zcg:FuncId:=161
abbrev zhh:FuncId:=162
abbrev ziL:FuncId:=163
abbrev zaH:FuncId:=164
abbrev zfn:FuncId:=165
abbrev zbm:FuncId:=227
def ztR (f g h:Int) (b:ByteArray) (c:World) (d:Value->World->Prop):Prop:=
 ∀ e:Nat,c.heap.size<=e->((b=(⟨#[99,112,117]⟩:ByteArray))->∀ a,Ext c a->d (.int .i64 f) a)/\((b≠(⟨#[99,112,117]⟩:ByteArray))->((b=(⟨#[109,101,109]⟩:ByteArray))->∀ a,Ext c a->d (.int .i64 g) a)/\((b≠(⟨#[109,101,109]⟩:ByteArray))->∀ a,Ext c a->d (.int .i64 h) a))
theorem zth (a b c:Int) (d:ByteArray) (e:World) (f:Value->World->Prop) (h:ztR a b c d e f):FnP Tryz.prog ziL #[(.agg #[(.int .i64 a),(.int .i64 b),(.int .i64 c)]),(.string d)] e f:=
 zab (Eq.mp (by kernel_rfl:_=Runs Tryz.prog f ({N:=16}:Cfg) Tryz.f163 (Tryz.f163.body.getD .skip) [.agg [.int .i64 a,.int .i64 b,.int .i64 c],.sc (.str d)] e) h) Tryz.func163 (by kernel_rfl) (fun a w=>Tryz.call163 a w) (by kernel_rfl) (by kernel_rfl) rfl rfl
def zwk (n:Int) (J K:ByteArray) (L:Int) (b:Option Addr) (o M:Nat) (p:Value) (a:World) (q:Value->World->Prop):Prop:=
 ∀ G:Nat,a.heap.size<=G->(((n=4)->b≠none/\(0:Int)<=0/\(0:Int)<(o:Int)/\(pIdx b 0 5)≠none/\∃ f,cell a (pIdx b 0 5) 0=some (.int .i64 f)/\∃ g,cell a (pIdx b 0 5) 1=some (.string g)/\∃ d,cell a (pIdx b 0 5) 2=some (.string d)/\∃ h,cell a (pIdx b 0 5) 3=some (.int .i64 h)/\∃ i j k,cell a (pIdx b 0 5) 4=some (.slice i j k)/\∀ e,Ext a e->FnP Tryz.prog zcg #[(.agg #[(.int .i64 f),(.string g),(.string d),(.int .i64 h),(.slice i j k)]),p] e fun A B=>Ext e B/\∃ c,A=(.bool c)/\∀ l,Ext a l->q (.bool (!c)) l))/\((n≠4)->(((n=5)->b≠none/\(0:Int)<=0/\(0:Int)<(o:Int)/\(pIdx b 0 5)≠none/\∃ f,cell a (pIdx b 0 5) 0=some (.int .i64 f)/\∃ g,cell a (pIdx b 0 5) 1=some (.string g)/\∃ d,cell a (pIdx b 0 5) 2=some (.string d)/\∃ h,cell a (pIdx b 0 5) 3=some (.int .i64 h)/\∃ i j k,cell a (pIdx b 0 5) 4=some (.slice i j k)/\∀ e,Ext a e->FnP Tryz.prog zcg #[(.agg #[(.int .i64 f),(.string g),(.string d),(.int .i64 h),(.slice i j k)]),p] e fun A B=>Ext e B/\∃ c,A=(.bool c)/\((c=true)->b≠none)/\((c=true)->(0:Int)<=1)/\((c=true)->(1:Int)<(o:Int))/\(((c=true)->(pIdx b 1 5)≠none/\∃ r,cell a (pIdx b 1 5) 0=some (.int .i64 r)/\∃ s,cell a (pIdx b 1 5) 1=some (.string s)/\∃ t,cell a (pIdx b 1 5) 2=some (.string t)/\∃ u,cell a (pIdx b 1 5) 3=some (.int .i64 u)/\∃ v w x,cell a (pIdx b 1 5) 4=some (.slice v w x)/\∀ m,Ext a m->FnP Tryz.prog zcg #[(.agg #[(.int .i64 r),(.string s),(.string t),(.int .i64 u),(.slice v w x)]),p] m fun D E=>Ext m E/\∃ y,D=(.bool y)/\∀ z,Ext a z->q (.bool y) z))/\((c=false)->∀ l,Ext a l->q (.bool false) l)))/\((n≠5)->(((n=6)->b≠none/\(0:Int)<=0/\(0:Int)<(o:Int)/\(pIdx b 0 5)≠none/\∃ f,cell a (pIdx b 0 5) 0=some (.int .i64 f)/\∃ g,cell a (pIdx b 0 5) 1=some (.string g)/\∃ d,cell a (pIdx b 0 5) 2=some (.string d)/\∃ h,cell a (pIdx b 0 5) 3=some (.int .i64 h)/\∃ i j k,cell a (pIdx b 0 5) 4=some (.slice i j k)/\∀ e,Ext a e->FnP Tryz.prog zcg #[(.agg #[(.int .i64 f),(.string g),(.string d),(.int .i64 h),(.slice i j k)]),p] e fun A B=>Ext e B/\∃ c,A=(.bool c)/\((c=false)->b≠none)/\((c=false)->(0:Int)<=1)/\((c=false)->(1:Int)<(o:Int))/\((c=true)->∀ l,Ext a l->q (.bool true) l)/\((c=false)->(pIdx b 1 5)≠none/\∃ r,cell a (pIdx b 1 5) 0=some (.int .i64 r)/\∃ s,cell a (pIdx b 1 5) 1=some (.string s)/\∃ t,cell a (pIdx b 1 5) 2=some (.string t)/\∃ u,cell a (pIdx b 1 5) 3=some (.int .i64 u)/\∃ v w x,cell a (pIdx b 1 5) 4=some (.slice v w x)/\∀ m,Ext a m->FnP Tryz.prog zcg #[(.agg #[(.int .i64 r),(.string s),(.string t),(.int .i64 u),(.slice v w x)]),p] m fun D E=>Ext m E/\∃ y,D=(.bool y)/\∀ z,Ext a z->q (.bool y) z)))/\((n≠6)->∀ C,Ext a C->zin Tryz.prog p [(.agg #[(.int .i64 n),(.string J),(.string K),(.int .i64 L),(.slice b o M)])] C fun H I=>Ext C I/\∃ d,H=(.bool d)/\∀ F,Ext a F->q (.bool d) F)))
theorem zvt (a:Int) (b c:ByteArray) (d:Int) (e:Option Addr) (f g:Nat) (i:Value) (j:World) (k:Value->World->Prop) (h:zwk a b c d e f g i j k):FnP Tryz.prog zcg #[(.agg #[(.int .i64 a),(.string b),(.string c),(.int .i64 d),(.slice e f g)]),i] j k:=
 zab (Eq.mp (by kernel_rfl:_=Runs Tryz.prog k ({N:=51}:Cfg) Tryz.f161 (Tryz.f161.body.getD .skip) [.agg [.int .i64 a,.str b,.str c,.int .i64 d,.slc e f g],.sc (.val i)] j) h) Tryz.func161 (by kernel_rfl) (fun a w=>Tryz.call161 a w) (by kernel_rfl) (by kernel_rfl) rfl rfl
def zwg (i:Int) (j k:ByteArray) (l:Int) (m:Option Addr) (n o:Nat) (w:ByteArray) (x:Option Addr) (y z:Nat) (A B C D E F:Int) (p:World) (q:Value->World->Prop):Prop:=
 ∀ e:Nat,p.heap.size<=e->∀ f,zag [] [e] p f->New f 76 [(.string w),(.slice x y z),(.int .i64 A),(.int .i64 B),(.int .i64 C),(.int .i64 D),(.int .i64 E),(.int .i64 F)] fun r c=>∀ d,Ext c d->FnP Tryz.prog zee #[(.agg #[(.int .i64 i),(.string j),(.string k),(.int .i64 l),(.slice m n o)])] d fun s t=>Ext d t/\∃ b,s=(.int .i64 b)/\((b≠0)->∀ a,Ext c a->q (.tuple #[(.bool false),(.int .i64 b)]) a)/\((b=0)->∀ a,Ext c a->FnP Tryz.prog zcg #[(.agg #[(.int .i64 i),(.string j),(.string k),(.int .i64 l),(.slice m n o)]),(.func (.func 162) #[] #[(.pointer r)])] a fun u v=>Ext a v/\∃ g,u=(.bool g)/\∀ h,Ext c h->q (.tuple #[(.bool g),(.int .i64 0)]) h)
theorem zvp (a:Int) (b c:ByteArray) (d:Int) (e:Option Addr) (f g:Nat) (i:ByteArray) (j:Option Addr) (k l:Nat) (m n o p q r:Int) (s:World) (t:Value->World->Prop) (h:zwg a b c d e f g i j k l m n o p q r s t):FnP Tryz.prog zkl #[(.agg #[(.int .i64 a),(.string b),(.string c),(.int .i64 d),(.slice e f g)]),(.agg #[(.string i),(.slice j k l),(.int .i64 m),(.int .i64 n),(.int .i64 o),(.int .i64 p),(.int .i64 q),(.int .i64 r)])] s t:=
 zab (Eq.mp (by kernel_rfl:_=Runs Tryz.prog t ({N:=15,pub:=[3]}:Cfg) Tryz.f114 (Tryz.f114.body.getD .skip) [.agg [.int .i64 a,.str b,.str c,.int .i64 d,.slc e f g],.agg [.str i,.slc j k l,.int .i64 m,.int .i64 n,.int .i64 o,.int .i64 p,.int .i64 q,.int .i64 r]] s) h) Tryz.func114 (by kernel_rfl) (fun a w=>Tryz.call114 a w) (by kernel_rfl) (by kernel_rfl) rfl rfl
def zri (w:Int) (x y:ByteArray) (z:Int) (A:Option Addr) (B C:Nat) (c:Option Addr) (D:World) (s:Value->World->Prop):Prop:=
 ∀ i,Ext D i->New i 47 [(.int .i64 w),(.string x),(.string y),(.int .i64 z),(.slice A B C)] fun b a=>b≠none/\∃ f,cell a (pAdd b 0) 0=some (.int .i64 f)/\(((f=3)->c≠none/\(pAdd c 2)≠none/\∃ d,cell a (pAdd c 2) 0=some (.int .i64 d)/\∃ j,cell a (pAdd c 2) 1=some (.int .i64 j)/\∃ k,cell a (pAdd c 2) 2=some (.int .i64 k)/\b≠none/\∃ l,cell a (pAdd b 1) 0=some (.string l)/\b≠none/\∃ m,cell a (pAdd b 3) 0=some (.int .i64 m)/\∀ g,Ext a g->FnP Tryz.prog ziL #[(.agg #[(.int .i64 d),(.int .i64 j),(.int .i64 k)]),(.string l)] g fun t e=>Ext g e/\∃ n,t=(.int .i64 n)/\∀ o,Ext a o->s (.bool (decide (m<=n))) o))/\((f≠3)->c≠none/\∃ d p q,cell a (pAdd c 1) 0=some (.slice d p q)/\∀ h,Ext a h->FnP Tryz.prog zaH #[(.slice d p q),(.func (.func 165) #[] #[(.pointer b)])] h fun u v=>Ext h v/\∃ r,u=(.bool r)/\∀ e,Ext a e->s (.bool r) e)
theorem zqU (a:Int) (b c:ByteArray) (d:Int) (e:Option Addr) (f g:Nat) (i:Option Addr) (j:World) (k:Value->World->Prop) (h:zri a b c d e f g i j k):FnP Tryz.prog zhh #[(.agg #[(.int .i64 a),(.string b),(.string c),(.int .i64 d),(.slice e f g)]),(.pointer i)] j k:=
 zab (Eq.mp (by kernel_rfl:_=Runs Tryz.prog k ({N:=19,pub:=[2]}:Cfg) Tryz.f162 (Tryz.f162.body.getD .skip) [.agg [.int .i64 a,.str b,.str c,.int .i64 d,.slc e f g],.sc (.ptr i)] j) h) Tryz.func162 (by kernel_rfl) (fun a w=>Tryz.call162 a w) (by kernel_rfl) (by kernel_rfl) rfl rfl
def zof (e l:ByteArray) (b:Option Addr) (a:World) (f:Value->World->Prop):Prop:=
 ∀ k:Nat,a.heap.size<=k->b≠none/\∃ c,cell a (pAdd b 1) 0=some (.string c)/\((e=c)->b≠none)/\(((e=c)->∃ d,cell a (pAdd b 0) 0=some (.int .i64 d)/\((d≠1)->b≠none)/\((d=1)->∀ g,Ext a g->f (.bool true) g)/\((d≠1)->∃ h,cell a (pAdd b 2) 0=some (.string h)/\∀ i,Ext a i->f (.bool (decide (l=h))) i)))/\((e≠c)->∀ j,Ext a j->f (.bool false) j)
theorem zn4 (a b:ByteArray) (c:Option Addr) (d:World) (e:Value->World->Prop) (h:zof a b c d e):FnP Tryz.prog zfn #[(.agg #[(.string a),(.string b)]),(.pointer c)] d e:=
 zab (Eq.mp (by kernel_rfl:_=Runs Tryz.prog e ({N:=21}:Cfg) Tryz.f165 (Tryz.f165.body.getD .skip) [.agg [.str a,.str b],.sc (.ptr c)] d) h) Tryz.func165 (by kernel_rfl) (fun a w=>Tryz.call165 a w) (by kernel_rfl) (by kernel_rfl) rfl rfl
def zct (g:Option Addr) (h i:Nat) (j:Value) (d:World) (k:Value->World->Prop):Prop:=
 ∀ a,Ext d a->FnP Tryz.prog zbm #[(.slice g h i),j] a fun e f=>Ext a f/\∃ b,e=(.int .i64 b)/\∀ c,Ext d c->k (.bool (decide (0<=b))) c
theorem zcp (a:Option Addr) (b c:Nat) (d:Value) (e:World) (f:Value->World->Prop) (h:zct a b c d e f):FnP Tryz.prog zaH #[(.slice a b c),d] e f:=
 zab (Eq.mp (by kernel_rfl:_=Runs Tryz.prog f ({N:=9}:Cfg) Tryz.f164 (Tryz.f164.body.getD .skip) [.sc (.slc a b c),.sc (.val d)] e) h) Tryz.func164 (by kernel_rfl) (fun a w=>Tryz.call164 a w) (by kernel_rfl) (by kernel_rfl) rfl rfl
def zcR (c:Option Addr) (g r:Nat) (p:Value) (q:World) (m:Value->World->Prop):Prop:=
 ∃ (f:Int->World->Prop) (l:Int->World->Nat),f 0 q/\∀ (a:Int) (b:World),f a b->(((a<(g:Int))->c≠none/\(0:Int)<=a/\(a:Int)<(g:Int)/\(pIdx c a 2)≠none/\∃ h,cell b (pIdx c a 2) 0=some (.string h)/\∃ i,cell b (pIdx c a 2) 1=some (.string i)/\∀ d,Ext b d->zin Tryz.prog p [(.agg #[(.string h),(.string i)])] d fun n o=>Ext d o/\∃ e,n=(.bool e)/\((e=true)->∀ j,Ext b j->m (.int .i64 a) j)/\((e=false)->InR .i64 (a+1)/\(f (a+1) b/\l (a+1) b<l a b))))/\(((g:Int)<=a)->∀ k,Ext b k->m (.int .i64 (-1)) k)
theorem zcN (a:Option Addr) (b c:Nat) (d:Value) (e:World) (f:Value->World->Prop) (h:zcR a b c d e f):FnP Tryz.prog zbm #[(.slice a b c),d] e f:=
 zab (Eq.mp (by kernel_rfl:_=Runs Tryz.prog f ({N:=19}:Cfg) Tryz.f227 (Tryz.f227.body.getD .skip) [.sc (.slc a b c),.sc (.val d)] e) h) Tryz.func227 (by kernel_rfl) (fun a w=>Tryz.call227 a w) (by kernel_rfl) (by kernel_rfl) rfl rfl
end Go.Proofs.YtcceeahmcecbnaaGreatDoor
