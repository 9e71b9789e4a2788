/- The framework, the program's texts and what is shown of them: part 7. -/
import Derived.Test.YtegephkpdlopaaaGreatDoorY6
import Derived.Lib.LaidTab
import Derived.Handed
import Derived.Lib.AppendStr
import Derived.Laws.BitsLemmas
set_option linter.unusedVariables false
set_option linter.unusedSimpArgs false
namespace Go.Proofs.YtegephkpdlopaaaGreatDoor
open Go.Sx Go.RowKit Go.ChangeShapes Go.WideShapes Go.ChangeAt
section
variable {P:Program} {H:Type} {enc:TypeId × Value->H}
theorem bulk_at {w:World}:∀ {ts:List TypeId} {vs:List Value} {ds gs:List (DataW H)} {ps:List MemPlace},DataW.TrodAll enc P w 0 (fun _=>true) true ts vs ds ps ->
    ∀ (j:Nat) {t:TypeId} {v:Value},ts[j]? = some t->vs[j]? = some v->∃ d qs n,DataW.trod enc P w 0 (fun _=>true) true n t v.cells.toList = some (d,qs)/\Rows.uptoBulk d <= Rows.uptoBulkAll (ds ++ gs)
  | [],_,_,_,_,_,j,_,_,ht,_ => by simp at ht
  | _ :: _,[],_,_,_,h,_,_,_,_,hv => by simp at hv
  | _ :: _,_ :: _,[],_,_,h,_,_,_,_,_ => by simp [DataW.TrodAll] at h
  | t :: ts,v :: vs,d :: ds,gs,ps,h,j,t',v',ht,hv => by
    obtain ⟨p1,q1,h1,h2,_⟩:=h
    cases j with
    | zero =>
      simp at ht hv
      subst ht hv
      obtain ⟨n,h1⟩:=h1
      exact ⟨d,p1,n,h1,by rw [List.cons_append,Rows.uptoBulkAll]; omega⟩
    | succ j =>
      obtain ⟨e,qs,n,a,b⟩:=bulk_at (gs:=gs) h2 j (by simpa using ht) (by simpa using hv)
      exact ⟨e,qs,n,a,by rw [List.cons_append,Rows.uptoBulkAll]; omega⟩
end
section
variable {P:Program} {H:Type} {enc:TypeId × Value->H}
theorem field_bulk {w:World} {T:TypeId} (hu:P.underlying T = some (.struct (P.fieldsOf T))) {n:Nat} {cs:List Value} {d:DataW H} {ps:List MemPlace} (h:DataW.trod enc P w 0 (fun _=>true) true n T cs = some (d,ps)) {i:Nat} {F:TypeId} {o:Nat}
    (hf:((P.fieldsOf T).toList[i]?).map (fun f=>(f.type,f.offset)) = some (F,o)):∃ m d' ps',DataW.trod enc P w 0 (fun _=>true) true m F ((cs.drop o).take (P.cellsOf F)) = some (d',ps')/\Rows.uptoBulk d' <= Rows.uptoBulk d:=by
  cases n with
  | zero => cases h
  | succ n =>
    unfold DataW.trod at h
    rw [hu] at h
    simp only at h
    split at h
    · rw [Option.map_eq_some_iff] at h
      obtain ⟨xs,hxs,he⟩:=h
      injection he with he _
      subst he
      obtain ⟨f,hf1,hf2⟩:=Option.map_eq_some_iff.1 hf
      simp only [Prod.mk.injEq] at hf2
      obtain ⟨_,hget⟩:=mapM_get hxs
      obtain ⟨b,hb,hfb⟩:=hget i f hf1
      rw [hf2.1,hf2.2] at hfb
      have hmem:b.1 ∈ xs.map (·.1):=List.mem_map.2 ⟨b,List.mem_of_getElem? hb,rfl⟩
      have hle:=bulk_mem hmem
      exact ⟨n,b.1,b.2,hfb,by rw [Rows.uptoBulk]; omega⟩
    · cases h
end
theorem job_bulk {H:Type} {enc:TypeId × Value->H} {w:World} {n:Nat} {j:Jb} {pa:Option Addr} {ca:Nat} {pf:Option Addr} {cf:Nat} {d:DataW H} {ps:List MemPlace} (hT:IsT w j.ask pa ca)
    (h:DataW.trod enc Tryz.prog w 0 (fun _=>true) true n T_Job (jcs j pa ca pf cf) = some (d,ps)):nod j.ask <= Rows.uptoBulk d:=by
  obtain ⟨m,d',ps',h1,h2⟩:=field_bulk (by kernel_rfl) h (i:=3) (F:=T_Ask) (o:=5) (by kernel_rfl)
  rw [show Tryz.prog.cellsOf T_Ask = 5 by kernel_rfl] at h1
  exact Nat.le_trans (nod_bulk m j.ask pa ca d' ps' hT h1) h2
theorem job_arg {W:World} {j_0:ByteArray} (h0:j_0.size <= 9223372036854775807) {j_1:Int} (h1:InR .i64 j_1) {j_2:Int} (h2:InR .i64 j_2) {j_3:Int} (h3:InR .i64 j_3) {j_4:Int} (h4:InR .i64 j_4) {j_5:Int} (h5:InR .i64 j_5) {j_6:ByteArray} (h6:j_6.size <= 9223372036854775807) {j_7:ByteArray} (h7:j_7.size <= 9223372036854775807) {j_8:Int} (h8:InR .i64 j_8)
    {p:Option Addr} {l c:Nat} (hA:SlcArg Tryz.prog W T_Ask p l c) {q:Option Addr} {m d:Nat} (hF:SlcArg Tryz.prog W T_int q m d) :
    ∃ j:Jb,IsJ W j p c q/\WfJ j/\jcs j p c q d = [.string j_0,.int .i64 j_1,.int .i64 j_2,.int .i64 j_3,.int .i64 j_4,.int .i64 j_5,.string j_6,.string j_7,.int .i64 j_8,.slice p l c,.slice q m d]:=by
  obtain ⟨x,rfl,rfl,rfl,rfl,rfl,hT,hW⟩:=ask_arg hA h5 h6 h7 h8
  obtain ⟨xs,rfl,hx,hi⟩:=hF.ints (k:=.i64) (by kernel_rfl) (by kernel_rfl)
  refine ⟨⟨j_0,j_1,⟨j_2,j_3,j_4⟩,x,xs⟩,⟨hT,hi⟩,⟨h0,h1,fun i hi=>?_,hW,by have:=hF.le; have:=hF.max; show xs.length <= _; omega,hx⟩,rfl⟩
  match i,hi with
  | 0,_ => exact of64 h2
  | 1,_ => exact of64 h3
  | 2,_ => exact of64 h4
theorem laid_tab {P:Program} {W:World} {l:List (String × DataW Unit)} (h:laidMetH P l W) (hp:(l.all fun x=>x.2.handleName?.isNone) = true) {name:String} {zs:List Int} {k:IntKind}
    (hm:(name,Lib.tabData k zs) ∈ l) {g:Nat} {t e:TypeId} {n:Nat} (hg:P.globalNamed name = some g) (hty:(P.globals[g]?).map (·.type) = some t)
    (ht:P.underlying t = some (.array n e)) (he:P.underlying e = some (.int k)) (hce:P.cellsOf e = 1) (hct:P.cellsOf t = n):Lib.TabIs P W name k zs:=by
  have hnone:(l.filter fun x=>x.2.handleName?.isSome) = []:=by
    rw [List.filter_eq_nil_iff]
    intro a ha hs
    have:=List.all_eq_true.1 hp a ha
    cases hh:a.2.handleName? <;> simp_all
  have h:laidMet P l W:=by
    unfold laidMetH at h
    rw [hnone] at h
    exact h
  obtain ⟨ps,hL,_⟩:=h
  obtain ⟨g',t',cs,fuel,p,h1,h2,h3,h4⟩:=laidVars_mem hL _ hm
  obtain rfl:=Option.some.inj (hg.symm.trans h1)
  obtain rfl:=Option.some.inj (hty.symm.trans h2)
  unfold Lib.TabIs
  rw [h3,<- Lib.cells_of_tab ht he hce hct h4]
theorem laid_ifc {P:Program} {W:World} {l:List (String × DataW Unit)} (h:laidMetH P l W) (hp:(l.all fun x=>x.2.handleName?.isNone) = true) {name:String} {d:DataW Unit}
    (hm:(name,d) ∈ l) {g:Nat} {t:TypeId} (hg:P.globalNamed name = some g) (hty:(P.globals[g]?).map (·.type) = some t) (ht:isIfc P t = true):∃ v,cell W (some (⟨g,0,none⟩:Addr)) 0 = some v/\isErr v:=by
  have hnone:(l.filter fun x=>x.2.handleName?.isSome) = []:=by
    rw [List.filter_eq_nil_iff]
    intro a ha hs
    have:=List.all_eq_true.1 hp a ha
    cases hh:a.2.handleName? <;> simp_all
  have h:laidMet P l W:=by
    unfold laidMetH at h
    rw [hnone] at h
    exact h
  obtain ⟨ps,hL,_⟩:=h
  obtain ⟨g',t',cs,fuel,p,h1,h2,h3,h4⟩:=laidVars_mem hL _ hm
  obtain rfl:=Option.some.inj (hg.symm.trans h1)
  obtain rfl:=Option.some.inj (hty.symm.trans h2)
  have h5:=World.var?_cell hg h3 0
  unfold isIfc at ht
  split at ht
  · rename_i m hu
    cases fuel with
    | zero => simp [DataW.trod] at h4
    | succ n =>
      unfold DataW.trod at h4
      rw [hu] at h4
      generalize hL':cs.toList = L at h4
      have hc:cs[0]? = L[0]?:=by rw [<- hL']; simp
      have fin:∀ v,L = [v]->isErr v->∃ v,cell W (some (⟨g,0,none⟩:Addr)) 0 = some v/\isErr v:=fun v hv he=>by
        refine ⟨v,?_,he⟩
        simp only [cell,Option.bind_some,add_zero]
        rw [h5,hc,hv]; rfl
      match L,h4,fin with
      | [],h4,_ => simp at h4
      | [.nilIface],_,fin => exact fin _ rfl (.inl rfl)
      | [.iface a b],_,fin => exact fin _ rfl (.inr ⟨a,b,rfl⟩)
      | x :: y :: r,h4,_ => simp at h4
      | [.int _ _],h4,_ | [.bool _],h4,_ | [.string _],h4,_ | [.float _ _],h4,_ | [.complex _ _ _],h4,_ | [.pointer _],h4,_ | [.slice _ _ _],h4,_ | [.agg _],h4,_ | [.tuple _],h4,_ => simp at h4
      | [x],h4,fin => cases x <;> first | exact fin _ rfl (.inl rfl) | exact fin _ rfl (.inr ⟨_,_,rfl⟩) | simp at h4
  · cases ht
theorem int_of_shape {P:Program} {w:World} {g:Nat} {t:TypeId} {k:IntKind} {zero:Array Value} (h:w.ShapedOpen P) (hg:g < P.globals.size)
    (h0:((begin P (fun _ _=>0) default).world.heap[g]?).bind Obj.row? = some (zero,t)) (hz:zero.size = 1)
    (hb:P.buildable t = true) (hc:P.cellTypes P.depth t = some [t]) (hu:P.underlying t = some (.int k)):∃ m,cell w (some (⟨g,0,none⟩:Addr)) 0 = some (.int k m):=by
  obtain ⟨cs,hh,hs,hr⟩:=h.1 g zero t hg h0
  obtain ⟨ts,hts,_,hall⟩:=hr hb
  rw [hc] at hts
  cases hts
  have h1:0 < cs.size:=by omega
  obtain ⟨u,hu',hok⟩:=hall 0 cs[0] (by simp [h1])
  have:u = t:=by simpa using hu'.symm
  subst this
  have hcell:cell w (some (⟨g,0,none⟩:Addr)) 0 = some cs[0]:=by simp [cell,add_zero,World.cell?,hh,h1]
  rw [hcell]
  unfold Cell.ok at hok
  rw [hu] at hok
  cases hv:cs[0] <;> rw [hv] at hok <;> first | (simp at hok; obtain ⟨rfl,_⟩:=hok; exact ⟨_,rfl⟩) | (simp at hok; subst hok; exact ⟨_,rfl⟩) | simp at hok
abbrev GL:=GB
theorem gb_of {W:World} {l:List (String × DataW Unit)} (h:laidMetH Tryz.prog l W) (hsp:W.ShapedOpen Tryz.prog) (hp:(l.all fun x=>x.2.handleName?.isNone) = true)
    (h2 : ("internal/strconv.uint64pow10", (Rows.laid_internal_strconv_uint64pow10 : DataW Unit)) ∈ l)
    (h3 : ("strconv.ErrRange", (Rows.laid_strconv_ErrRange : DataW Unit)) ∈ l) (h4 : ("strconv.ErrSyntax", (Rows.laid_strconv_ErrSyntax : DataW Unit)) ∈ l) : GB W :=
  ⟨laid_tab h hp (k := .u64) (zs := Lib.pow10Tab) (by exact h2) (g := (Tryz.prog.globalNamed "internal/strconv.uint64pow10").getD 0) (t := (Tryz.prog.globals[(Tryz.prog.globalNamed "internal/strconv.uint64pow10").getD 0]?).elim 0 (·.type)) (e := T_uint64) (n := 20) (by kernel_rfl) (by kernel_rfl) (by kernel_rfl) (by kernel_rfl) (by kernel_rfl) (by kernel_rfl),
    int_of_shape (zero:=#[.int .i64 0]) hsp (g:=2) (t:=(Tryz.prog.globals[2]?).elim 0 (·.type)) (of_decide_eq_true (by kernel_rfl)) (by kernel_rfl) rfl (by kernel_rfl) (by kernel_rfl) (by kernel_rfl),
    laid_ifc h hp h4 (g:=0) (t:=(Tryz.prog.globals[0]?).elim 0 (·.type)) (by kernel_rfl) (by kernel_rfl) (by kernel_rfl),
    laid_ifc h hp h3 (g:=1) (t:=(Tryz.prog.globals[1]?).elim 0 (·.type)) (by kernel_rfl) (by kernel_rfl) (by kernel_rfl)⟩
def lB : List (String × DataW Unit) := [("math/bits.deBruijn32tab", Rows.laid_math_bits_deBruijn32tab), ("math/bits.deBruijn64tab", Rows.laid_math_bits_deBruijn64tab), ("internal/strconv.uint64pow10", Rows.laid_internal_strconv_uint64pow10), ("unicode/utf8.acceptRanges", Rows.laid_unicode_utf8_acceptRanges), ("strconv.ErrRange", Rows.laid_strconv_ErrRange), ("strconv.ErrSyntax", Rows.laid_strconv_ErrSyntax), ("unicode/utf8.first", Rows.laid_unicode_utf8_first)]
theorem laid_okS {W:World} (h:laidMetH Tryz.prog lB W) (hsp:W.ShapedOpen Tryz.prog):GL W:=gb_of h hsp (by kernel_rfl) (by simp [lB]) (by simp [lB]) (by simp [lB])
end Go.Proofs.YtegephkpdlopaaaGreatDoor
set_option linter.unusedVariables false
set_option linter.unusedSimpArgs false
namespace Go.Proofs.YtegephkpdlopaaaGreatDoor
open Go.Sx Go.RowKit
theorem ext_below {w w1 w2:World} {B:Nat} (h:Ext w w1) (b:Below B w1 w2) (hB:w.heap.size <= B):Ext w w2:=Below.trans h (b.mono hB)
theorem run_appS {B:Nat} {w:World} {p:Option Addr} {n c:Nat} {a:Bs} {s:ByteArray} {K:Value->World->Prop} (ho:Own B w T_uint8 1 p n c ((bI a).map (.int .u8))) (hB:B <= w.heap.size) (hb:n + s.size <= 140737488355328)
    (hk:∀ p' c' w',Own B w' T_uint8 1 p' (n + s.size) c' ((bI (a ++ s.data.toList)).map (.int .u8))->Below B w w'->(∀ b,b < w.heap.size->(∀ x,p = some x->x.block ≠ b)->w'.heap[b]? = w.heap[b]?)->K (.slice p' (n + s.size) c') w'):Run Tryz.prog (.append #[T_sl_uint8,T_string] T_sl_uint8 [.slice p n c,.string s]) w K:=by
  obtain ⟨i,g1,g2,g3,g4,g5,g6⟩:=slEl_some elem_sl_uint8
  obtain ⟨v',w',hr,ho',hg,_⟩:=Lib.run_append_own_string (P:=Tryz.prog) w B T_sl_uint8 T_string T_sl_uint8 T_uint8 i g1 (by kernel_rfl) g2 g3 g4 g5 (.slice p n c) n _ ho s (by simp only [maxLen]; omega) hb hB
  have hst:Lib.strCells s = (bI s.data.toList).map (.int .u8):=by simp [Lib.strCells,bI]
  rw [hst,<- List.map_append,<- bI_app] at ho'
  have hbel:Below B w w':=Below.grown (Below.refl B w) hg hB fun k hk=>by
    cases p with
    | none => simp [Value.ownBlock] at hk
    | some x => simp [Value.ownBlock] at hk; have:=(ho.lt x rfl).1; omega
  have hkeep:∀ b,b < w.heap.size->(∀ x,p = some x->x.block ≠ b)->w'.heap[b]? = w.heap[b]?:=fun b hb' hp=>hg.block b hb' fun h=>by
    cases p with
    | none => simp [Value.ownBlock] at h
    | some x => simp [Value.ownBlock] at h; exact hp x rfl h.symm
  rcases ho'.2 with ⟨hv,hn⟩ | ⟨g,cap,cur,hv,hrest⟩
  · subst hv
    have:n + s.size = 0:=hn
    refine ⟨_,w',hr,?_⟩
    have:=hk none 0 w' (by rw [this]; rw [this] at ho'; exact ho') hbel hkeep
    rwa [‹n + s.size = 0›] at this
  · subst hv
    exact ⟨_,w',hr,hk (some ⟨g,0,none⟩) cap w' ho' hbel hkeep⟩
def num (n:Int) (k:Nat):Bs:=(List.range k).map fun (j:Nat)=>ub (iBit .shr .i64 n (8 * ((k:Int) - 1 - j)))
theorem num_len (n:Int) (k:Nat):(num n k).length = k:=by simp [num]
theorem number_k {B:Nat} {w:World} {p:Option Addr} {n c:Nat} {a:Bs} (x:Int) (k:Nat) (ho:Own B w T_uint8 1 p n c ((bI a).map (.int .u8))) (hB:B <= w.heap.size) (hn:n <= 1000) (hk:k <= 8) :
    FnP Tryz.prog F_event_number #[.slice p n c,.int .i64 x,.int .i64 (k:Int)] w fun v w'=>Below B w w'/\∃ p' c',v = .slice p' (n + k) c'/\Own B w' T_uint8 1 p' (n + k) c' ((bI (a ++ num x k)).map (.int .u8)):=by
  refine ok_event_number p n c x k w _ ⟨i64 (by omega),?_⟩
  refine ⟨fun out outl outc m w'=>Below B w w'/\∃ j:Nat,j <= k/\m = (k:Int) - 1 - j/\outl = n + j/\Own B w' T_uint8 1 out outl outc ((bI (a ++ (num x k).take j)).map (.int .u8)),fun _ _ _ m _=>(m + 1).toNat,⟨Below.refl _ _,0,by omega,by omega,rfl,by simpa using ho⟩,?_⟩
  rintro out outl outc m w3 ⟨h3,j,hj,rfl,rfl,o3⟩
  refine ⟨fun h0=>⟨i64 (by omega),by omega,?_⟩,fun hneg w4 h4=>?_⟩
  · rw [wrap8]
    refine push_int elem_sl_uint8 o3 (Nat.le_trans hB h3.size) (by omega) (by omega) fun p' c' w' o' g' _=>⟨i64 (by omega),⟨g'.below h3 (Nat.le_trans hB h3.size) (fun y hy=>(o3.lt y hy).1),j + 1,by omega,by omega,by omega,?_⟩,by simp only []; omega⟩
    have hget:(num x k).take (j + 1) = (num x k).take j ++ [ub (iBit .shr .i64 x (8 * ((k:Int) - 1 - j)))]:=by
      rw [List.take_succ_eq_append_getElem (by rw [num_len]; omega)]
      congr 2
      simp [num]
    rw [hget,<- List.append_assoc,bI_app (a ++ _)]
    exact o'
  · obtain rfl:j = k:=by omega
    rw [List.take_of_length_le (by rw [num_len]; exact Nat.le_refl _)] at o3
    exact ⟨h3.trans (h4.mono (Nat.le_trans hB h3.size)),out,outc,rfl,o3.ext h4⟩
structure Ev where
  kind:Int
  job:Jb
  n:Int
  id:Int
  ok:Bool
abbrev evcs (x:Ev) (pa:Option Addr) (ca:Nat) (pf:Option Addr) (cf:Nat):List Value:=[.int .i64 x.kind,.string x.job.user,.int .i64 x.job.prio,.int .i64 x.job.nd.c,.int .i64 x.job.nd.m,.int .i64 x.job.nd.g,.int .i64 x.job.ask.k,.string x.job.ask.key,.string x.job.ask.val,.int .i64 x.job.ask.n,.slice pa x.job.ask.xs.length ca,.slice pf x.job.aft.length cf,.int .i64 x.n,.int .i64 x.id,.bool x.ok]
abbrev evv (x:Ev) (pa:Option Addr) (ca:Nat) (pf:Option Addr) (cf:Nat):Value:=.agg #[.int .i64 x.kind,.string x.job.user,.int .i64 x.job.prio,.int .i64 x.job.nd.c,.int .i64 x.job.nd.m,.int .i64 x.job.nd.g,.int .i64 x.job.ask.k,.string x.job.ask.key,.string x.job.ask.val,.int .i64 x.job.ask.n,.slice pa x.job.ask.xs.length ca,.slice pf x.job.aft.length cf,.int .i64 x.n,.int .i64 x.id,.bool x.ok]
def zeroE:Ev:=⟨0,zeroJ,0,0,false⟩
theorem zeroJ_iff {j:Jb}:j = zeroJ ↔ j.user = emS/\j.prio = 0/\j.nd = zeroN/\j.aft.length = 0/\j.ask.k = 0/\j.ask.key = emS/\j.ask.val = emS/\j.ask.n = 0/\j.ask.xs.length = 0:=by
  constructor
  · rintro rfl; exact ⟨rfl,rfl,rfl,rfl,rfl,rfl,rfl,rfl,rfl⟩
  · rintro ⟨h1,h2,h3,h4,h5,h6,h7,h8,h9⟩
    obtain ⟨u,p,nd,t,af⟩:=j
    simp only at h1 h2 h3 h4 h5 h6 h7 h8 h9
    subst h1 h2 h3
    have h4':af = []:=List.eq_nil_of_length_eq_zero h4
    subst h4'
    have:t = zeroA:=by
      rw [AT.eta t,h5,h6,h7,h8,List.eq_nil_of_length_eq_zero h9]
    rw [this]; rfl
theorem plain_k (j:Jb) (pa:Option Addr) (ca:Nat) (pf:Option Addr) (cf:Nat) (w:World):FnP Tryz.prog F_event_plain #[jv j pa ca pf cf] w fun v w'=>Ext w w'/\∃ b:Bool,v = .bool b/\(b = true ↔ j = zeroJ):=by
  refine ok_event_plain j.user j.prio j.nd.c j.nd.m j.nd.g j.ask.k j.ask.key j.ask.val j.ask.n pa j.ask.xs.length ca pf j.aft.length cf w _ fun b0 hb0=>⟨fun h w1 h1=>?_,fun h w1 h1=>⟨h1,false,rfl,by simp,fun hj=>?_⟩⟩
  · refine eqN_k (a:=j.nd) (b:=zeroN) ⟨Ext.refl _,_,rfl,fun w4 h4=>⟨h4,_,rfl,?_⟩⟩
    simp only [Bool.and_eq_true,decide_eq_true_eq]
    rw [zeroJ_iff]
    constructor
    · rintro ⟨⟨⟨⟨⟨⟨a1,a2⟩,a3⟩,a4⟩,a5⟩,a6⟩,a7⟩
      exact ⟨h.1,h.2,a1,by omega,a3,a4,a5,a6,by omega⟩
    · rintro ⟨_,_,a1,a2,a3,a4,a5,a6,a7⟩
      exact ⟨⟨⟨⟨⟨⟨a1,by omega⟩,a3⟩,a4⟩,a5⟩,a6⟩,by omega⟩
  · rw [hj] at h
    rcases h with h | h <;> exact absurd rfl h
def okE (x:Ev):Prop:=(x.kind = 1/\okJ x.job/\x.n = 0/\x.id = 0/\x.ok = false)\/(x.kind = 2/\x.job = zeroJ/\(0 <= x.n/\x.n <= 1000000000)/\x.id = 0/\x.ok = false)\/(x.kind = 3/\x.job = zeroJ/\x.n = 0/\x.id = 0/\x.ok = false) \/
  (x.kind = 4/\x.job = zeroJ/\x.n = 0/\(0 <= x.id/\x.id <= 65535))\/(x.kind = 5/\x.job = zeroJ/\x.n = 0/\(0 <= x.id/\x.id <= 65535)/\x.ok = false)
theorem okE_kind {x:Ev} (h:okE x):1 <= x.kind/\x.kind <= 5:=by
  rcases h with h | h | h | h | h <;> omega
theorem eCheck_k (x:Ev) (pa:Option Addr) (ca:Nat) (pf:Option Addr) (cf:Nat) (w:World) (hJ:IsJ w x.job pa ca pf) (hW:WfJ x.job):FnP Tryz.prog F_event_Check #[evv x pa ca pf cf] w fun v w'=>Ext w w'/\∃ e:Int,v = .int .i64 e/\(e = 0 ↔ okE x):=by
  refine ok_event_Check x.kind x.job.user x.job.prio x.job.nd.c x.job.nd.m x.job.nd.g x.job.ask.k x.job.ask.key x.job.ask.val x.job.ask.n pa x.job.ask.xs.length ca pf x.job.aft.length cf x.n x.id x.ok w _ fun b0 hb0=>⟨fun hbad w1 h1=>⟨h1,1,rfl,by simp,fun h=>by have:=okE_kind h; omega⟩,fun hk=>⟨fun h1 w1 e1=>?_,fun h1=>?_⟩⟩
  · refine (plain_k x.job pa ca pf cf w1).mono fun v w2 ⟨e2,b,hv,hb⟩=>⟨e2,b,hv,fun hbad w4 h4=>⟨h4,1,rfl,by simp,fun ho=>?_⟩,fun hgd=>⟨fun h=>absurd h h1,fun _=>⟨fun hbad w4 h4=>⟨h4,4,rfl,by simp,fun ho=>?_⟩,fun hin w4 h4=>⟨h4,0,rfl,fun _=>?_,fun _=>rfl⟩⟩⟩⟩
    · exfalso
      have hz:x.job = zeroJ:=by
        rcases ho with h | h | h | h | h
        · exact absurd h.1 h1
        all_goals exact h.2.1
      rcases hbad with ((h | h) | h) | h
      · rw [hb.2 hz] at h; cases h
      · rcases ho with g | g | g | g | g
        · exact h1 g.1
        · exact h.1 g.1
        · exact h.2 g.2.2.1
        · exact h.2 g.2.2.1
        · exact h.2 g.2.2.1
      · rcases ho with g | g | g | g | g
        · exact h1 g.1
        · exact h.2 g.2.2.2.1
        · exact h.2 g.2.2.2.1
        · exact h.1.1 g.1
        · exact h.1.2 g.1
      · rcases ho with g | g | g | g | g
        · exact h1 g.1
        · rw [g.2.2.2.2] at h; cases h.2
        · rw [g.2.2.2.2] at h; cases h.2
        · exact h.1 g.1
        · rw [g.2.2.2.2] at h; cases h.2
    · exfalso
      rcases ho with g | g | g | g | g
      · exact h1 g.1
      · have:=g.2.2; omega
      · have:=g.2.2; omega
      · have:=g.2.2; omega
      · have:=g.2.2; omega
    · obtain ⟨⟨⟨a1,a2⟩,a3⟩,a4⟩:=hgd
      have hz:=hb.1 a1
      have hk5:x.kind = 2\/x.kind = 3\/x.kind = 4\/x.kind = 5:=by omega
      rcases hk5 with g | g | g | g
      · exact .inr (.inl ⟨g,hz,by omega,a3.resolve_left (by omega),a4.resolve_left (by omega)⟩)
      · exact .inr (.inr (.inl ⟨g,hz,a2.resolve_left (by omega),a3.resolve_left (by omega),a4.resolve_left (by omega)⟩))
      · exact .inr (.inr (.inr (.inl ⟨g,hz,a2.resolve_left (by omega),by omega⟩)))
      · exact .inr (.inr (.inr (.inr ⟨g,hz,a2.resolve_left (by omega),by omega,a4.resolve_left (by omega)⟩)))
  · refine ⟨fun hbad w1 e1=>⟨e1,1,rfl,by simp,fun ho=>?_⟩,fun hgd=>⟨fun _ w1 e1=>?_,fun h=>absurd h1 h⟩⟩
    · exfalso
      rcases ho with g | g | g | g | g
      · rcases hbad with (h | h) | h
        · exact h.2 g.2.2.1
        · exact h.2 g.2.2.2.1
        · rw [g.2.2.2.2] at h; cases h.2
      all_goals have:=g.1; omega
    · refine (jCheck_k x.job pa ca pf cf w1 (hJ.ext e1) hW).mono fun v w2 ⟨e2,e,hv,he⟩=>⟨e2,e,hv,fun w4 h4=>⟨h4,e,rfl,?_⟩⟩
      rw [he]
      obtain ⟨⟨a2,a3⟩,a4⟩:=hgd
      constructor
      · intro h; exact .inl ⟨h1,h,a2.resolve_left (by omega),a3.resolve_left (by omega),a4.resolve_left (by omega)⟩
      · intro h
        rcases h with g | g | g | g | g
        · exact g.2.1
        all_goals have:=g.1; omega
def enc (x:Ev):Bs:=ub x.kind :: (if x.kind = 1 then jtx x.job else if x.kind = 2 then num x.n 4 else if x.kind = 4 then num x.id 2 ++ [if x.ok = true then 1 else 0] else if x.kind = 5 then num x.id 2 else [])
theorem ub_small {x:Int} (h:0 <= x/\x <= 255):((ub x).toNat:Int) = x:=by rw [ub_nat]; omega
theorem jtx_le {j:Jb} (h:okJ j) (hn:nod j.ask <= 1048576):(jtx j).length <= 15005:=by
  have:=join_len (c:=32) (m:=3000) (jps j) (jps_len h hn)
  simp only [jps,List.length_cons,List.length_nil] at this
  exact Nat.le_trans this (by omega)
theorem eEncode_k (x:Ev) (pa:Option Addr) (ca:Nat) (pf:Option Addr) (cf:Nat) (w:World) (hJ:IsJ w x.job pa ca pf) (hW:WfJ x.job) (hn:nod x.job.ask <= 1048576) (g:GB w):FnP Tryz.prog F_event_Encode #[evv x pa ca pf cf] w fun v w'=>Ext w w'/\∃ p n c e,v = .tuple #[.slice p n c,.int .i64 e]/\(e = 0 ↔ okE x)/\(e ≠ 0->p = none/\n = 0/\c = 0)/\(e = 0->n = (enc x).length/\Own w.heap.size w' T_uint8 1 p n c ((bI (enc x)).map (.int .u8))):=by
  refine ok_event_Encode x.kind x.job.user x.job.prio x.job.nd.c x.job.nd.m x.job.nd.g x.job.ask.k x.job.ask.key x.job.ask.val x.job.ask.n pa x.job.ask.xs.length ca pf x.job.aft.length cf x.n x.id x.ok w _ fun b0 hb0 w1 h1=>(eCheck_k x pa ca pf cf w1 (hJ.ext h1) hW).mono fun v w2 ⟨e2,e,hv,he⟩=>⟨e2,e,hv,fun hne w4 h4=>⟨h4,none,0,0,e,rfl,he,fun _=>⟨rfl,rfl,rfl⟩,fun h=>absurd h hne⟩,fun hz=>?_⟩
  have ho:=he.1 hz
  have hk:=okE_kind ho
  have hub:=ub_small (x:=x.kind) (by omega)
  refine ⟨⟨by show (0:Int) <= _; omega,by show _ <= (255:Int); omega⟩,fun w4 x4=>run_litB [ub x.kind] (by simp [bI,partsOf,hub]) rfl (by omega) (by omega) fun w5 o5 e5=>⟨e5,_,_,_,rfl,?_⟩⟩
  have h4:=extB_ext x4
  have hb04:b0 < w4.heap.size:=x4.lt b0 (by simp)
  have o5:=o5 w4.heap.size (Nat.le_refl _)
  have h45:Ext w4 w5:=e5
  have hw5:Ext w w5:=h4.trans e5
  have hnb:∀ {w':World} {p:Option Addr} {n c:Nat} {xs:List Value},Own w4.heap.size w' T_uint8 1 p n c xs->∀ x,p = some x->x.block ≠ b0:=fun o x hx=>by have:=(o.lt x hx).1; omega
  have fin:∀ (p:Option Addr) (c:Nat) (w':World) (l:Bs),Own w4.heap.size w' T_uint8 1 p l.length c ((bI l).map (.int .u8))->Ext w w'->enc x = l->(Ext w w'/\∃ p' n' c' e',Value.tuple #[.slice p l.length c,.int .i64 0] = .tuple #[.slice p' n' c',.int .i64 e']/\(e' = 0 ↔ okE x)/\(e' ≠ 0->p' = none/\n' = 0/\c' = 0)/\(e' = 0->n' = (enc x).length/\Own w.heap.size w' T_uint8 1 p' n' c' ((bI (enc x)).map (.int .u8)))):=fun p c w' l o hx hl=>by
    subst hl
    exact ⟨hx,p,_,c,0,rfl,⟨fun _=>ho,fun _=>rfl⟩,fun h=>absurd rfl h,fun _=>⟨rfl,o.weak h4.size⟩⟩
  refine ⟨fun hk1 w9 h9=>?_,fun hk1=>⟨fun hk2 w9 x9=>?_,fun hk2=>⟨fun hk4 w9 x9=>?_,fun hk4=>⟨fun hk5 w9 x9=>?_,fun hk5 w9 h9=>?_⟩⟩⟩⟩
  · have hoj:okJ x.job:=by
      rcases ho with g | g | g | g | g
      · exact g.2.1
      all_goals have:=g.1; omega
    refine (jText_k x.job pa ca pf cf w9 (hJ.ext (hw5.trans h9)) hW hn (g.ext (hw5.trans h9))).mono fun v w10 ⟨e10,t,f,hv,hf,_,ht⟩=>⟨e10,t,f,hv,fun w13 x13=>?_⟩
    have ht:=ht (hf.2 hoj)
    have h13:=extB_ext x13
    have hjl:=jtx_le hoj hn
    have hts:t.size = (jtx x.job).length:=by rw [ht,ofL_size]
    have o13:=Own.ext o5 h13
    refine run_appS o13 (h45.trans h13).size (by omega) fun p' c' w14 o14 b14 _=>⟨fun b hb=>?_,p',_,c',rfl,fun w18 h18=>?_⟩
    · simp at hb; subst hb
      exact b14.block _ hb04
    · have hx14:Ext w w14:=ext_below (hw5.trans h13) b14 h4.size
      have hl:1 + t.size = (ub x.kind :: jtx x.job).length:=by rw [hts]; simp; omega
      rw [hl] at o14 ⊢
      refine fin p' c' w18 (ub x.kind :: jtx x.job) ?_ (hx14.trans h18) (by unfold enc; rw [if_pos hk1])
      have:=Own.ext o14 h18
      rw [ht,ofL_list] at this
      exact this
  · have h9:=extB_ext x9
    have o9:=Own.ext o5 h9
    refine (number_k (a:=[ub x.kind]) x.n 4 o9 (h45.trans h9).size (by omega) (by omega)).mono fun v w10 ⟨b10,p',c',hv,o10⟩=>⟨fun b hb=>by simp at hb; subst hb; exact b10.block _ hb04,p',_,c',hv,fun w14 h14=>?_⟩
    exact fin p' c' w14 (ub x.kind :: num x.n 4) (Own.ext o10 h14) ((ext_below (hw5.trans h9) b10 h4.size).trans h14) (by unfold enc; rw [if_neg hk1,if_pos hk2])
  · have h9:=extB_ext x9
    have o9:=Own.ext o5 h9
    refine (number_k (a:=[ub x.kind]) x.id 2 o9 (h45.trans h9).size (by omega) (by omega)).mono fun v w10 ⟨b10,p',c',hv,o10⟩=>⟨fun b hb=>by simp at hb; subst hb; exact b10.block _ hb04,p',_,c',hv,?_⟩
    have hw10:Ext w w10:=ext_below (hw5.trans h9) b10 h4.size
    have s10:w4.heap.size <= w10.heap.size:=Nat.le_trans (h45.trans h9).size b10.size
    have last:∀ (y:UInt8),enc x = ub x.kind :: (num x.id 2 ++ [y])->∀ w14,ExtB [] [b0] w10 w14->Run Tryz.prog (.buildSlice T_sl_uint8 1 [(0,(.int .u8 (y.toNat:Int)))]) w14 fun v15 w15=>Ext w14 w15/\∃ t16:Option Addr,∃ tl17:Nat,∃ tc18:Nat,v15 = (.slice t16 tl17 tc18) /\
        ∀ w19,ExtB [] [b0] w15 w19->Run Tryz.prog (.append #[T_sl_uint8,T_sl_uint8] T_sl_uint8 [(.slice p' (1 + 2) c'),(.slice t16 tl17 tc18)]) w19 fun v20 w20=>Kept [b0] w19 w20/\∃ t21:Option Addr,∃ tl22:Nat,∃ tc23:Nat,v20 = (.slice t21 tl22 tc23) /\
          ∀ w24,Ext w20 w24->(Ext w w24/\∃ p n c e,Value.tuple #[(.slice t21 tl22 tc23),(.int .i64 0)] = .tuple #[.slice p n c,.int .i64 e]/\(e = 0 ↔ okE x)/\(e ≠ 0->p = none/\n = 0/\c = 0)/\(e = 0->n = (enc x).length/\Own w.heap.size w24 T_uint8 1 p n c ((bI (enc x)).map (.int .u8)))):=by
      intro y hy
      refine push_intB elem_sl_uint8 o10 s10 (fun b hb z hz=>by simp at hb; subst hb; exact hnb o10 z hz) (by omega) (by omega) fun p2 c2 w20 o20 g20 _ _=>fun w24 h24=>?_
      refine fin p2 c2 w24 (ub x.kind :: (num x.id 2 ++ [y])) ?_ ((ext_below hw10 (g20.below (Below.refl w4.heap.size w10) s10 fun z hz=>(o10.lt z hz).1) h4.size).trans h24) hy
      have:bI (ub x.kind :: (num x.id 2 ++ [y])) = bI ([ub x.kind] ++ num x.id 2) ++ [(y.toNat:Int)]:=by simp [bI]
      rw [this]
      exact Own.ext o20 h24
    refine ⟨fun hok=>last 1 (by unfold enc; rw [if_neg hk1,if_neg hk2,if_pos hk4,if_pos hok]),fun hok=>last 0 (by unfold enc; rw [if_neg hk1,if_neg hk2,if_pos hk4,if_neg (by simp [hok])])⟩
  · have h9:=extB_ext x9
    have o9:=Own.ext o5 h9
    refine (number_k (a:=[ub x.kind]) x.id 2 o9 (h45.trans h9).size (by omega) (by omega)).mono fun v w10 ⟨b10,p',c',hv,o10⟩=>⟨fun b hb=>by simp at hb; subst hb; exact b10.block _ hb04,p',_,c',hv,fun w14 h14=>?_⟩
    exact fin p' c' w14 (ub x.kind :: num x.id 2) (Own.ext o10 h14) ((ext_below (hw5.trans h9) b10 h4.size).trans h14) (by unfold enc; rw [if_neg hk1,if_neg hk2,if_neg hk4,if_pos hk5])
  · exact fin _ _ w9 [ub x.kind] (Own.ext o5 h9) (hw5.trans h9) (by unfold enc; rw [if_neg hk1,if_neg hk2,if_neg hk4,if_neg hk5])
end Go.Proofs.YtegephkpdlopaaaGreatDoor
set_option linter.unusedVariables false
set_option linter.unusedSimpArgs false
namespace Go.Proofs.YtegephkpdlopaaaGreatDoor
open Go.Sx Go.RowKit
theorem wrap60 (n:Int) (h0:0 <= n) (h1:n < 2 ^ 60):IntKind.wrap .i64 n = n:=by
  have e:(2:Int) ^ 60 = 1152921504606846976:=by decide
  rw [e] at h1
  exact wrap64 (by omega)
theorem shl8 {n:Int} (h:0 <= n/\n < 1099511627776):iBit .shl .i64 n 8 = n * 256:=by
  show IntKind.wrap .i64 (n * 2 ^ (min (8:Int).toNat IntKind.i64.bits)) = _
  rw [show min (8:Int).toNat IntKind.i64.bits = 8 by decide,show (2:Int) ^ 8 = 256 by decide]
  exact wrap64 (by omega)
theorem join8 {n c:Int} (h:0 <= n/\n < 1099511627776) (hc:0 <= c/\c <= 255):iBit .or .i64 (iBit .shl .i64 n 8) c = n * 256 + c:=by
  rw [shl8 h]
  have e60:(2:Int) ^ 60 = 1152921504606846976:=by decide
  have e8:(2:Int) ^ 8 = 256:=by decide
  exact bits_join .i64 60 (by decide) wrap60 8 (n * 256) c (by omega) (by rw [e8]; omega) (by rw [e60]; omega) hc.1 (by rw [e8]; omega) (by rw [e60]; omega)
theorem mask8 {n:Int} (h:0 <= n/\n < 1099511627776):iBit .and .i64 n 255 = n % 256:=by
  have e60:(2:Int) ^ 60 = 1152921504606846976:=by decide
  have:=bits_mask .i64 60 (by decide) wrap60 8 (by decide) n h.1 (by rw [e60]; omega)
  rw [show (2:Int) ^ 8 - 1 = 255 by decide,show (2:Int) ^ 8 = 256 by decide] at this
  exact this
theorem shr_k (n:Int) (k:Nat) (hk:k <= 64):iBit .shr .i64 n (k:Int) = n / (2 ^ k:Int):=by
  show n.fdiv (2 ^ (min ((k:Int)).toNat IntKind.i64.bits)) = _
  rw [show min ((k:Int)).toNat IntKind.i64.bits = k by simp only [Int.toNat_natCast,IntKind.bits]; omega]
  exact Int.fdiv_eq_ediv_of_nonneg _ (Int.le_of_lt (Int.pow_pos (by decide)))
theorem num2 (n:Int):num n 2 = [ub (n / 256),ub n]:=by
  have a:=shr_k n 8 (by decide)
  have b:=shr_k n 0 (by decide)
  rw [show (2:Int) ^ 8 = 256 by decide] at a
  rw [show (2:Int) ^ 0 = 1 by decide,Int.ediv_one] at b
  show [ub (iBit .shr .i64 n ((8:Nat):Int)),ub (iBit .shr .i64 n ((0:Nat):Int))] = _
  rw [a,b]
theorem num4 (n:Int):num n 4 = [ub (n / 16777216),ub (n / 65536),ub (n / 256),ub n]:=by
  have a:=shr_k n 24 (by decide)
  have b:=shr_k n 16 (by decide)
  have c:=shr_k n 8 (by decide)
  have d:=shr_k n 0 (by decide)
  rw [show (2:Int) ^ 24 = 16777216 by decide] at a
  rw [show (2:Int) ^ 16 = 65536 by decide] at b
  rw [show (2:Int) ^ 8 = 256 by decide] at c
  rw [show (2:Int) ^ 0 = 1 by decide,Int.ediv_one] at d
  show [ub (iBit .shr .i64 n ((24:Nat):Int)),ub (iBit .shr .i64 n ((16:Nat):Int)),ub (iBit .shr .i64 n ((8:Nat):Int)),ub (iBit .shr .i64 n ((0:Nat):Int))] = _
  rw [a,b,c,d]
def nOf (l:Bs):Int:=l.foldl (fun n c=>iBit .or .i64 (iBit .shl .i64 n 8) (c.toNat:Int)) 0
theorem u8b (c:UInt8):0 <= (c.toNat:Int)/\(c.toNat:Int) <= 255:=by have:=c.toNat_lt; omega
theorem nOf2 (a b:UInt8):nOf [a,b] = a.toNat * 256 + b.toNat:=by
  have ha:=u8b a; have hb:=u8b b
  simp only [nOf,List.foldl_cons,List.foldl_nil]
  rw [join8 (by omega) ha,join8 (by omega) hb]
  omega
theorem nOf3 (a b c:UInt8):nOf [a,b,c] = (a.toNat * 256 + b.toNat) * 256 + c.toNat:=by
  have ha:=u8b a; have hb:=u8b b; have hc:=u8b c
  simp only [nOf,List.foldl_cons,List.foldl_nil]
  rw [join8 (by omega) ha,join8 (by omega) hb,join8 (by omega) hc]
  omega
theorem nOf4 (a b c d:UInt8):nOf [a,b,c,d] = ((a.toNat * 256 + b.toNat) * 256 + c.toNat) * 256 + d.toNat:=by
  have ha:=u8b a; have hb:=u8b b; have hc:=u8b c; have hd:=u8b d
  simp only [nOf,List.foldl_cons,List.foldl_nil]
  rw [join8 (by omega) ha,join8 (by omega) hb,join8 (by omega) hc,join8 (by omega) hd]
  omega
structure ET (bs:Bs) (x:Ev):Prop where
  ok:okE x
  nod:nod x.job.ask <= 1048576
  is:enc x = bs
  ask:x.kind = 1->(txt x.job.ask).length <= 2000
def ERes (w:World) (bs:Bs) (v:Value) (w':World):Prop:=Ext w w'/\∃ x pa ca pf cf e,v = .tuple #[evv x pa ca pf cf,.int .i64 e]/\WfJ x.job/\(∀ S:Nat->Prop,(∀ b,S b->b < w.heap.size)->∀ w'',Fr S w' w''->IsJ w'' x.job pa ca pf) /\
  ((e ≠ 0/\x = zeroE/\pa = none/\ca = 0/\pf = none/\cf = 0)\/(e = 0/\okE x/\nod x.job.ask <= 60/\enc x = bs/\(x.kind = 1->(txt x.job.ask).length <= 2000)))/\(∀ x0,ET bs x0->bs.length <= 3001->e = 0/\x = x0)
theorem eres_zero {w w':World} {bs:Bs} (x:Ext w w') {e:Int} (he:e ≠ 0) (hno:∀ x0,ET bs x0->bs.length <= 3001->False):ERes w bs (.tuple #[evv zeroE none 0 none 0,.int .i64 e]) w' :=
  ⟨x,zeroE,none,0,none,0,e,rfl,zeroJ_wf,fun _ _ _ _=>zeroJ_at _,.inl ⟨he,rfl,rfl,rfl,rfl,rfl⟩,fun x0 h hs=>(hno x0 h hs).elim⟩
theorem ints_cut {w:World} {p:Option Addr} {c j:Nat} {l:Bs} (h:Ints .u8 w p (bI l)) (hlc:l.length <= c):Ints .u8 w (pCut p c (j:Int) 1) (bI (l.drop j)):=by
  rcases Nat.lt_or_ge j l.length with hj | hj
  · intro i v hv
    rw [cell_pCut _ _ _ _ _ _ (by simp; omega)]
    simp only [Int.toNat_natCast,Nat.mul_one]
    refine h (j + i) v ?_
    simp only [bI,List.map_drop,List.map_map] at hv ⊢
    rw [List.getElem?_drop] at hv
    exact hv
  · rw [List.drop_of_length_le hj]; exact Cells.nil
theorem ints_pre {w:World} {p:Option Addr} {j:Nat} {l:Bs} (h:Ints .u8 w p (bI l)):Ints .u8 w p (bI (l.take j)):=fun i v hv=>by
  refine h i v ?_
  simp only [bI,List.map_take,List.getElem?_take] at hv ⊢
  split at hv
  · exact hv
  · cases hv
theorem ev_ext {x y:Ev} (h1:x.kind = y.kind) (h2:x.job = y.job) (h3:x.n = y.n) (h4:x.id = y.id) (h5:x.ok = y.ok):x = y:=by
  cases x; cases y; simp only at h1 h2 h3 h4 h5; subst h1 h2 h3 h4 h5; rfl
theorem Decode_k (b:Option Addr) (bc:Nat) (bs:Bs) (w:World) (hi:Ints .u8 w b (bI bs)) (hbc:bs.length <= bc) (hbm:bc <= 9223372036854775807) (g:GB w):FnP Tryz.prog F_event_Decode #[.slice b bs.length bc] w (ERes w bs):=by
  refine ok_event_Decode b bs.length bc w _ fun b0 hb0=>⟨fun hbig w1 h1=>eres_zero h1 (by decide) fun x0 _ h=>by omega,fun hle=>⟨fun h0 w1 h1=>eres_zero h1 (by decide) fun x0 hx _=>?_,fun hne=>?_⟩⟩
  · have:=congrArg List.length hx.is
    unfold enc at this
    simp at this
    omega
  obtain ⟨k0,rest,rfl⟩:∃ k0 rest,bs = k0 :: rest:=by
    cases bs with
    | nil => exact absurd rfl hne
    | cons k r => exact ⟨k,r,rfl⟩
  have hk0:=u8b k0
  have g0:Go.Sx.cell w (pIdx b 0 1) 0 = some (.int .u8 k0.toNat):=by
    rw [cell_pIdx]
    exact hi 0 _ rfl
  have hri:Ints .u8 w (pCut b bc ((1:Nat):Int) 1) (bI rest):=ints_cut (j:=1) hi hbc
  have hri:Ints .u8 w (pCut b bc 1 1) (bI rest):=hri
  have hlr:(k0 :: rest).length = rest.length + 1:=rfl
  have hkd:∀ x0,ET (k0 :: rest) x0->x0.kind = k0.toNat/\enc x0 = k0 :: rest:=fun x0 hx=>by
    have h1:=hx.is
    have hk:=okE_kind hx.ok
    refine ⟨?_,h1⟩
    unfold enc at h1
    have h2:=(List.cons.inj h1).1
    rw [<- h2,ub_small (by omega)]
  have tail:∀ (x:Ev) (pa:Option Addr) (ca:Nat) (pf:Option Addr) (cf:Nat) (w7:World),Ext w w7->WfJ x.job->nod x.job.ask <= 60->(x.kind = 1->(txt x.job.ask).length <= 2000)->(∀ S:Nat->Prop,(∀ b,S b->b < w.heap.size\/b = b0)->∀ w'',Fr S w7 w''->IsJ w'' x.job pa ca pf) ->
      (∀ x0,ET (k0 :: rest) x0->(k0 :: rest).length <= 3001->x = x0) ->
      FnP Tryz.prog F_event_Encode #[evv x pa ca pf cf] w7 fun v8 w8=>Ext w7 w8/\∃ t9:Option Addr,∃ tl10:Nat,∃ tc11:Nat,∃ t12:Int,v8 = (.tuple #[(.slice t9 tl10 tc11),(.int .i64 t12)]) /\
        ((t12 ≠ 0)->∀ w13,ExtB [b0] [] w8 w13->ERes w (k0 :: rest) (.tuple #[evv zeroE none 0 none 0,.int .i64 3]) w13) /\
        ((t12 = 0)->∀ w13,Ext w8 w13->FnP Tryz.prog F_bytes_Equal #[(.slice t9 tl10 tc11),(.slice b (k0 :: rest).length bc)] w13 fun v14 w14=>Ext w13 w14/\∃ t15:Bool,v14 = (.bool t15) /\
          ((t15 = false)->∀ w16,ExtB [b0] [] w8 w16->ERes w (k0 :: rest) (.tuple #[evv zeroE none 0 none 0,.int .i64 3]) w16) /\
          ((t15 = true)->∀ w16,ExtB [b0] [] w8 w16->ERes w (k0 :: rest) (.tuple #[evv x pa ca pf cf,.int .i64 0]) w16)):=by
    intro x pa ca pf cf w7 hw7 hW hn hask hJ hC
    refine (eEncode_k x pa ca pf cf w7 (hJ (fun _=>False) (fun _ h=>h.elim) w7 (Fr.refl _ _)) hW (by omega) (g.ext hw7)).mono fun v w8 ⟨e8,p,n,c,e,hv,heq,hz,hok⟩=>⟨e8,p,n,c,e,hv,fun hne w13 x13=>?_,fun he w13 h13=>?_⟩
    · refine eres_zero (but_ext x13 (hw7.trans e8) (by intro d hd; simp at hd; omega)) (by decide) fun x0 hx hs=>?_
      have:=hC x0 hx hs
      subst this
      exact hne (heq.2 hx.ok)
    · obtain ⟨rfl,o⟩:=hok he
      refine (Equal_k w13 rfl rfl (o.cells.ext h13) (((hi.ext hw7).ext e8).ext h13)).mono fun v w14 ⟨e14,hv⟩=>⟨e14,_,hv,fun hf w16 x16=>?_,fun ht w16 x16=>?_⟩
      · refine eres_zero (but_ext x16 (hw7.trans e8) (by intro d hd; simp at hd; omega)) (by decide) fun x0 hx hs=>?_
        have:=hC x0 hx hs
        subst this
        exact of_decide_eq_false hf hx.is
      · refine ⟨but_ext x16 (hw7.trans e8) (by intro d hd; simp at hd; omega),x,pa,ca,pf,cf,0,rfl,hW,fun S hS w'' fw=>?_,.inr ⟨rfl,heq.1 he,hn,of_decide_eq_true ht,hask⟩,fun x0 hx hs=>⟨rfl,hC x0 hx hs⟩⟩
        exact hJ (fun b=>S b\/b = b0) (fun b hb=>hb.imp (hS b) id) w'' ((fr_ext e8).tr ((fr_extB x16 (by intro d hd; simp at hd; exact .inl (.inr hd))).tr (fw.mono fun b hb=>.inl hb)))
  have zt:∀ (S:Nat->Prop) (w7 w'':World),Fr S w7 w''->IsJ w'' zeroJ none 0 none:=fun _ _ _ _=>zeroJ_at _
  have hzn:nod zeroJ.ask <= 60:=by decide
  refine ⟨fun h=>cell_p g0 (pIdx_none.2 h),by omega,by omega,_,g0,i64 (by omega),fun b2 hb2=>⟨by omega,by omega,by omega,by omega,by omega,by simp only [Int.toNat_one]; omega,?_⟩⟩
  refine ⟨fun n k w'=>w' = w/\0 <= k/\k <= min 4 (rest.length:Int)/\n = nOf ((rest.take 4).take k.toNat),fun _ k _=>(4 - k).toNat,⟨rfl,by omega,by omega,by simp [nOf]⟩,?_⟩
  rintro n k w' ⟨rfl,hk1,hk2,rfl⟩
  have hl4:(rest.take 4).length = min 4 rest.length:=List.length_take
  refine ⟨fun hlt=>?_,fun hge=>?_⟩
  · have hlt':k.toNat < min 4 rest.length:=by omega
    have hcell:Go.Sx.cell w' (pIdx (pCut (pCut b bc 1 1) (bc - (1:Int).toNat) 0 1) k 1) 0 = some (.int .u8 ((rest.take 4)[k.toNat]'(by omega)).toNat):=by
      rw [pCut_zero,cell_pIdx]
      refine hri _ _ ?_
      simp [bI,show k.toNat < rest.length by omega]
    have hb:=u8b ((rest.take 4)[k.toNat]'(by omega))
    refine ⟨fun h=>cell_p hcell (pIdx_none.2 h),hk1,hlt,_,hcell,i64 (by omega),i64 (by omega),⟨rfl,by omega,by omega,?_⟩,by simp only []; omega⟩
    have e:(rest.take 4).take (k.toNat + 1) = (rest.take 4).take k.toNat ++ [(rest.take 4)[k.toNat]'(by omega)]:=List.take_succ_eq_append_getElem (by omega)
    rw [show (k + 1).toNat = k.toNat + 1 by omega,e]
    unfold nOf
    rw [List.foldl_append]
    rfl
  have hkm:k.toNat = min 4 rest.length:=by omega
  rw [List.take_of_length_le (by rw [hl4]; omega)]
  refine ⟨fun h1 w7 h7=>?_,fun h1=>⟨fun h2 w7 x7=>?_,fun h2=>⟨fun h4 w7 x7=>?_,fun h4=>⟨fun h5 w7 x7=>?_,fun h5 w7 x7=>?_⟩⟩⟩⟩
  · -- a job
    refine run_b2s (e:=T_uint8) (bs:=rest) (by kernel_rfl) (by kernel_rfl) (by kernel_rfl) (by omega) (hri.ext h7) ⟨Ext.refl _,_,rfl,fun w10 x10=>?_⟩
    have h10:=extB_ext x10
    have hb0_10:b0 < w10.heap.size:=x10.lt b0 (by simp)
    have hb2_10:b2 < w10.heap.size:=x10.lt b2 (by simp)
    refine (jRead_k (bT rest) (by rw [bT_size]; omega) w10 (g.ext h10)).mono fun v w11 ⟨e11,j,pa,ca,pf,cf,e,hv,hWj,hTj,hor,hcomp⟩=>⟨e11,j.user,j.prio,j.nd.c,j.nd.m,j.nd.g,j.ask.k,j.ask.key,j.ask.val,j.ask.n,pa,j.ask.xs.length,ca,pf,j.aft.length,cf,e,hv,fun b28 hb28=>?_⟩
    have hw11:=h10.trans e11
    have hcj:∀ x0,ET (k0 :: rest) x0->(k0 :: rest).length <= 3001->e = 0/\(⟨1,j,0,0,false⟩:Ev) = x0:=fun x0 hx hs=>by
      obtain ⟨hk,hen⟩:=hkd x0 hx
      have hk1:x0.kind = 1:=by omega
      obtain ⟨ho,hn0,hi0,hb0'⟩:okJ x0.job/\x0.n = 0/\x0.id = 0/\x0.ok = false:=by
        rcases hx.ok with q | q | q | q | q
        · exact q.2
        all_goals (have:=q.1; omega)
      unfold enc at hen
      rw [if_pos hk1] at hen
      obtain ⟨_,hen⟩:=List.cons.inj hen
      obtain ⟨a1,a2⟩:=hcomp x0.job ⟨ho,hx.nod,by rw [<- hen]; rfl,hx.ask hk1⟩ (by rw [bT_size]; omega)
      exact ⟨a1,ev_ext hk1.symm a2 hn0.symm hi0.symm hb0'.symm⟩
    refine ⟨fun hne2 w29 x29=>?_,fun he w29 x29=>?_⟩
    · exact eres_zero (but_ext x29 hw11 (by intro d hd; simp at hd; omega)) (by decide) fun x0 hx hs=>hne2 (hcj x0 hx hs).1
    · have hw29:Ext w' w29:=but_ext x29 hw11 (by intro d hd; simp at hd; omega)
      obtain ⟨hoj,hnj,_,haj⟩:okJ j/\nod j.ask <= 60/\True/\(txt j.ask).length <= 2000:=by
        rcases hor with ⟨h,_⟩ | ⟨_,q1,q2,_,q4⟩
        · exact absurd he h
        · exact ⟨q1,q2,trivial,q4⟩
      have:=tail ⟨1,j,0,0,false⟩ pa ca pf cf w29 hw29 hWj hnj (fun _=>haj) (fun S hS w'' fw=>?_) fun x0 hx hs=>(hcj x0 hx hs).2
      · rw [h1]; exact this
      · refine hTj (fun b=>S b\/b = b2) (fun b hb=>?_) w'' ((fr_extB x29 (by intro d hd; simp at hd; exact .inl (.inr hd))).tr (fw.mono fun b hb=>.inl hb))
        have:=h10.size
        rcases hb with hb | rfl
        · rcases hS b hb with h | rfl
          · omega
          · exact hb0_10
        · exact hb2_10
  · -- time goes on
    refine tail ⟨k0.toNat,zeroJ,nOf (rest.take 4),0,false⟩ none 0 none 0 w7 (but_ext x7 (Ext.refl _) (by intro d hd; simp at hd; omega)) zeroJ_wf hzn (fun h=>absurd h h1) (fun S _ w'' fw=>zt S w7 w'' fw) fun x0 hx hs=>?_
    obtain ⟨hk,hen⟩:=hkd x0 hx
    rcases hx.ok with q | q | q | q | q
    · have:=q.1; omega
    · obtain ⟨q1,q2,q3,q4,q5⟩:=q
      unfold enc at hen
      rw [if_neg (by omega),if_pos q1,num4] at hen
      obtain ⟨_,hen⟩:=List.cons.inj hen
      refine ev_ext hk.symm q2.symm ?_ q4.symm q5.symm
      rw [<- hen]
      show nOf [_,_,_,_] = _
      rw [nOf4,ub_nat,ub_nat,ub_nat,ub_nat]
      omega
    all_goals (have:=q.1; omega)
  · -- a report
    have hl3:rest.length = 3:=by omega
    refine tail ⟨k0.toNat,zeroJ,0,iBit .shr .i64 (nOf (rest.take 4)) 8,decide (iBit .and .i64 (nOf (rest.take 4)) 255 = 1)⟩ none 0 none 0 w7 (but_ext x7 (Ext.refl _) (by intro d hd; simp at hd; omega)) zeroJ_wf hzn (fun h=>absurd h h1) (fun S _ w'' fw=>zt S w7 w'' fw) fun x0 hx hs=>?_
    obtain ⟨hk,hen⟩:=hkd x0 hx
    rcases hx.ok with q | q | q | q | q
    · have:=q.1; omega
    · have:=q.1; omega
    · have:=q.1; omega
    · obtain ⟨q1,q2,q3,q4⟩:=q
      unfold enc at hen
      rw [if_neg (by omega),if_neg (by omega),if_pos q1,num2] at hen
      obtain ⟨_,hen⟩:=List.cons.inj hen
      have hn:nOf (rest.take 4) = x0.id * 256 + (if x0.ok = true then 1 else 0):=by
        rw [<- hen]
        show nOf [_,_,_] = _
        rw [nOf3,ub_nat,ub_nat]
        cases x0.ok <;> simp <;> omega
      have hs8:=shr_k (nOf (rest.take 4)) 8 (by decide)
      rw [show (2:Int) ^ 8 = 256 by decide] at hs8
      have hm:=mask8 (n:=nOf (rest.take 4)) (by rw [hn]; split <;> omega)
      refine ev_ext hk.symm q2.symm q3.symm ?_ ?_
      · show iBit .shr .i64 _ ((8:Nat):Int) = _
        rw [hs8,hn]
        split <;> omega
      · show decide (iBit .and .i64 _ 255 = 1) = _
        rw [hm,hn]
        cases x0.ok
        · simp <;> omega
        · simp <;> omega
    · have:=q.1; omega
  · -- no more
    refine tail ⟨k0.toNat,zeroJ,0,nOf (rest.take 4),false⟩ none 0 none 0 w7 (but_ext x7 (Ext.refl _) (by intro d hd; simp at hd; omega)) zeroJ_wf hzn (fun h=>absurd h h1) (fun S _ w'' fw=>zt S w7 w'' fw) fun x0 hx hs=>?_
    obtain ⟨hk,hen⟩:=hkd x0 hx
    rcases hx.ok with q | q | q | q | q
    · have:=q.1; omega
    · have:=q.1; omega
    · have:=q.1; omega
    · have:=q.1; omega
    · obtain ⟨q1,q2,q3,q4,q5⟩:=q
      unfold enc at hen
      rw [if_neg (by omega),if_neg (by omega),if_neg (by omega),if_pos q1,num2] at hen
      obtain ⟨_,hen⟩:=List.cons.inj hen
      refine ev_ext hk.symm q2.symm q3.symm ?_ q5.symm
      rw [<- hen]
      show nOf [_,_] = _
      rw [nOf2,ub_nat,ub_nat]
      omega
  · -- a plan,or none of all
    refine tail ⟨k0.toNat,zeroJ,0,0,false⟩ none 0 none 0 w7 (extB_ext x7) zeroJ_wf hzn (fun h=>absurd h h1) (fun S _ w'' fw=>zt S w7 w'' fw) fun x0 hx hs=>?_
    obtain ⟨hk,hen⟩:=hkd x0 hx
    rcases hx.ok with q | q | q | q | q
    · have:=q.1; omega
    · have:=q.1; omega
    · exact ev_ext hk.symm q.2.1.symm q.2.2.1.symm q.2.2.2.1.symm q.2.2.2.2.symm
    · exfalso
      unfold enc at hen
      rw [if_neg (by omega),if_neg (by omega),if_pos q.1,num2] at hen
      have:=congrArg List.length hen
      simp at this
      omega
    · have:=q.1; omega
end Go.Proofs.YtegephkpdlopaaaGreatDoor
set_option linter.unusedVariables false
set_option linter.unusedSimpArgs false
namespace Go.Proofs.YtegephkpdlopaaaGreatDoor
open Go.Sx Go.RowKit
theorem enc_len {x:Ev} (h:okE x) (hn:nod x.job.ask <= 1048576):(enc x).length <= 15006:=by
  unfold enc
  rw [List.length_cons]
  split
  · rename_i hk
    have hoj:okJ x.job:=by
      rcases h with q | q | q | q | q
      · exact q.2.1
      all_goals (have:=q.1; omega)
    have:=jtx_le hoj hn
    omega
  · split
    · rw [num_len]; omega
    · split
      · rw [List.length_append,num_len]; simp
      · split
        · rw [num_len]; omega
        · simp
theorem eFrame_k (x:Ev) (pa:Option Addr) (ca:Nat) (pf:Option Addr) (cf:Nat) (w:World) (hJ:IsJ w x.job pa ca pf) (hW:WfJ x.job) (hn:nod x.job.ask <= 1048576) (g:GB w):FnP Tryz.prog F_journal_Frame #[evv x pa ca pf cf] w fun v w'=>Ext w w'/\∃ p n c e,v = .tuple #[.slice p n c,.int .i64 e]/\(e = 0 ↔ okE x)/\(e ≠ 0->p = none/\n = 0/\c = 0)/\(e = 0->n = (fr (enc x)).length/\Own w.heap.size w' T_uint8 1 p n c ((bI (fr (enc x))).map (.int .u8))):=by
  refine ok_journal_Frame x.kind x.job.user x.job.prio x.job.nd.c x.job.nd.m x.job.nd.g x.job.ask.k x.job.ask.key x.job.ask.val x.job.ask.n pa x.job.ask.xs.length ca pf x.job.aft.length cf x.n x.id x.ok w _ fun b0 hb0 w1 x1=>?_
  have e1:=extB_ext x1
  refine (eEncode_k x pa ca pf cf w1 (hJ.ext e1) hW hn (g.ext e1)).mono fun v w2 ⟨e2,p,n,c,e,hv,heq,hz,hok⟩=>⟨e2,p,n,c,e,hv,fun hne w7 h7=>⟨(e1.trans e2).trans h7,none,0,0,e,rfl,heq,fun _=>⟨rfl,rfl,rfl⟩,fun h=>absurd h hne⟩,fun he=>?_⟩
  obtain ⟨rfl,oE⟩:=hok he
  have ho:=heq.1 he
  subst he
  have hlen:=enc_len ho hn
  generalize hbs:enc x = bs at oE hlen ⊢
  have hi:Ints .u8 w2 p (bI bs):=oE.cells
  refine fun w7 x7=>run_litB [ub (iBit .shr .i64 (bs.length:Int) 8),ub (bs.length:Int)] (by rw [wrap8,wrap8]; rfl) rfl (by omega) (by omega) fun w8 o8 e8=>⟨e8,_,_,_,rfl,fun w12 x12=>?_⟩
  have e7:=extB_ext x7
  have e12:=extB_ext x12
  have o12:=(o8 w7.heap.size (Nat.le_refl _)).ext e12
  have hi12:Ints .u8 w12 p (bI bs):=(((hi.ext e7).ext e8).ext e12)
  have h712:Ext w7 w12:=e8.trans e12
  have hb7:b0 < w7.heap.size:=x7.lt b0 (by simp)
  refine run_appB o12 h712.size rfl hi12 (by omega) fun p' c' w13 o13 g13=>⟨fun b hb=>?_,p',_,c',rfl,fun w17 h17=>?_⟩
  · have:=x12.lt b hb
    refine g13.by_.block b this fun h=>?_
    simp only [blk,Option.map_some,Option.some.injEq] at h
    simp at hb
    omega
  have h713:Ext w7 w13:=g13.ext h712 o12
  have hi13:Ints .u8 w13 p (bI bs):=(hi.ext e7).ext h713
  refine run_b2s (e:=T_uint8) (by kernel_rfl) (by kernel_rfl) (by kernel_rfl) rfl (hi13.ext h17) ⟨Ext.refl _,_,rfl,fun w20 h20=>(Sum_k 0 bs (by omega) w20).mono fun v w21 ⟨e21,hv⟩=>⟨e21,_,hv,?_⟩⟩
  refine ⟨fun out outl outc i w'=>∃ k:Nat,k <= 8/\i = 56 - 8 * (k:Int)/\outl = bs.length + 2 + k/\Own w7.heap.size w' T_uint8 1 out outl outc ((bI (fr0 bs ++ tl8 (sumJ 0 bs) k)).map (.int .u8))/\Ext w7 w',fun _ _ _ i _=>(i + 8).toNat,⟨0,by omega,rfl,by omega,?_,h713⟩,?_⟩
  · show Own w7.heap.size w13 T_uint8 1 p' (2 + bs.length) c' _
    simpa [fr0,tl8] using o13
  rintro out outl outc i w26 ⟨k,hk,rfl,rfl,o26,h26⟩
  refine ⟨fun hi0=>⟨hi0,?_⟩,fun hneg w27 h27=>?_⟩
  · have hns:∀ b ∈ [b0],∀ x,out = some x->x.block ≠ b:=fun b hb x hx=>by
      have:=(o26.lt x hx).1
      simp at hb; omega
    rw [wrap8]
    refine push_intB elem_sl_uint8 o26 h26.size hns (by omega) (by omega) fun p' c' w' o' g' _ _=>⟨i64 (by omega),⟨k + 1,by omega,by omega,by omega,?_,g'.ext h26 o26⟩,by simp only []; omega⟩
    rw [tl8_succ,<- List.append_assoc,bI_app]
    exact o'
  · obtain rfl:k = 8:=by omega
    have hw7:Ext w w7:=(e1.trans e2).trans e7
    exact ⟨(hw7.trans h26).trans h27,out,_,outc,0,rfl,heq,fun h=>absurd rfl h,fun _=>⟨by rw [fr_len],(o26.weak hw7.size).ext h27⟩⟩
theorem fr_head {bs:Bs} (h:bs.length <= 65535):∃ a b r,fr bs = a :: b :: r/\(a.toNat:Int) * 256 + b.toNat = bs.length/\r.take bs.length = bs:=by
  refine ⟨_,_,bs ++ tl8 (sumJ 0 bs) 8,rfl,?_,List.take_left⟩
  have hs:=shr_k (bs.length:Int) 8 (by decide)
  rw [show (2:Int) ^ 8 = 256 by decide] at hs
  rw [ub_nat,ub_nat]
  show (iBit .shr .i64 (bs.length:Int) ((8:Nat):Int)) % 256 * 256 + _ = _
  rw [hs]
  omega
def stuck (l:Bs):Prop:=∀ a b r,l = a :: b :: r->(l.length:Int) < (a.toNat:Int) * 256 + b.toNat + 10
structure Whole (x:Ev):Prop where
  ok:okE x
  nod:nod x.job.ask <= 1048576
  ask:x.kind = 1->(txt x.job.ask).length <= 2000
  len:(enc x).length <= 3001
def frs (L:List Ev):Bs:=L.flatMap fun x=>fr (enc x)
structure EvR where
  x:Ev
  pa:Option Addr
  ca:Nat
  pf:Option Addr
  cf:Nat
abbrev encR (r:EvR):List Value:=evcs r.x r.pa r.ca r.pf r.cf
structure GoodR (r:EvR):Prop where
  ok:okE r.x
  wf:WfJ r.x.job
  nod:nod r.x.job.ask <= 60
  ask:r.x.kind = 1->(txt r.x.job.ask).length <= 2000
def CutRes (w:World) (bs:Bs) (v:Value) (w':World):Prop:=Ext w w'/\∃ (rs:List EvR) (p:Option Addr) (c:Nat) (n:Int),v = .tuple #[.slice p rs.length c,.int .i64 n]/\Own w.heap.size w' T_Event 15 p rs.length c (rs.flatMap encR)/\(∀ r ∈ rs,GoodR r/\∀ S:Nat->Prop,(∀ b,S b->b < w.heap.size)->∀ w'',Fr S w' w''->IsJ w'' r.x.job r.pa r.ca r.pf)/\0 <= n/\n <= bs.length/\bs.take n.toNat = frs (rs.map (·.x)) /\
  ∀ (L:List Ev) (tl:Bs),(∀ x ∈ L,Whole x)->stuck tl->bs = frs L ++ tl->rs.map (·.x) = L
theorem frs_app (a b:List Ev):frs (a ++ b) = frs a ++ frs b:=by simp [frs]
theorem shl_u8 (a:UInt8):iBit .shl .i64 (a.toNat:Int) 8 = a.toNat * 256:=shl8 (by have:=u8b a; omega)
theorem Cut_k2 (b:Option Addr) (bc:Nat) (bs:Bs) (w:World) (hi:Ints .u8 w b (bI bs)) (hbc:bs.length <= bc) (hbm:bc <= 9223372036854775807) (hbl:bs.length <= 1048576) (g:GB w):FnP Tryz.prog F_journal_Cut #[.slice b bs.length bc] w (CutRes w bs):=by
  refine ok_journal_Cut b bs.length bc w _ ⟨fun out outl outc at_ w'=>Ext w w'/\0 <= at_/\at_ <= bs.length/\∃ rs:List EvR,outl = rs.length/\(rs.length:Int) <= at_/\Own w.heap.size w' T_Event 15 out outl outc (rs.flatMap encR)/\(∀ r ∈ rs,GoodR r/\∀ w'',Fr (fun k=>k < w.heap.size\/∃ a,out = some a/\a.block = k) w' w''->IsJ w'' r.x.job r.pa r.ca r.pf)/\bs.take at_.toNat = frs (rs.map (·.x)) /\
      (∀ (L:List Ev) (tl:Bs),(∀ x ∈ L,Whole x)->stuck tl->bs = frs L ++ tl->rs.map (·.x) = L.take rs.length/\rs.length <= L.length),fun _ _ _ at_ _=>(bs.length - at_).toNat,⟨Ext.refl _,by omega,by omega,[],rfl,by simp,Own.nil,fun r hr=>(by cases hr),by simp [frs],fun L tl _ _ _=>⟨by simp,by simp⟩⟩,?_⟩
  rintro out outl outc at_ w3 ⟨x3,ha0,ha1,rs,rfl,hrl,o3,hrs,htk,hcomp⟩
  generalize hrest:bs.drop at_.toNat = rest
  have hrlen:rest.length = (bs.length - at_).toNat:=by rw [<- hrest,List.length_drop]; omega
  have hbsr:bs = frs (rs.map (·.x)) ++ rest:=by rw [<- htk,<- hrest,List.take_append_drop]
  have hia:=(hi.ext x3)
  have hri:Ints .u8 w3 (pCut b bc at_ 1) (bI rest):=by
    have:=ints_cut (j:=at_.toNat) hia hbc
    rw [hrest,Int.toNat_of_nonneg ha0] at this
    exact this
  have hrc:rest.length <= bc - at_.toNat:=by omega
  have fin:∀ w4,Ext w3 w4->(∀ (L:List Ev) (tl:Bs),(∀ x ∈ L,Whole x)->stuck tl->bs = frs L ++ tl->rs.length < L.length->False)->CutRes w bs (.tuple #[.slice out rs.length outc,.int .i64 at_]) w4:=fun w4 h4 hno =>
    ⟨x3.trans h4,rs,out,outc,at_,rfl,o3.ext h4,fun r hr=>⟨(hrs r hr).1,fun S hS w'' fw=>(hrs r hr).2 w'' ((fr_ext h4).tr (fw.mono fun b hb=>.inl (hS b hb)))⟩,ha0,ha1,htk,fun L tl hL ht he=>by
      obtain ⟨h1,h2⟩:=hcomp L tl hL ht he
      have:rs.length = L.length:=by
        rcases Nat.lt_or_ge rs.length L.length with h | h
        · exact (hno L tl hL ht he h).elim
        · omega
      rw [h1,this,List.take_length]⟩
  have next:∀ (L:List Ev) (tl:Bs),(∀ x ∈ L,Whole x)->stuck tl->bs = frs L ++ tl->rs.length < L.length->∃ x r2,L[rs.length]? = some x/\Whole x/\rest = fr (enc x) ++ r2:=fun L tl hL ht he hlt=>by
    obtain ⟨h1,h2⟩:=hcomp L tl hL ht he
    obtain ⟨x,hx⟩:∃ x,L[rs.length]? = some x:=⟨_,List.getElem?_eq_getElem hlt⟩
    have hsplit:L = L.take rs.length ++ x :: L.drop (rs.length + 1):=by
      have e1:=(List.take_append_drop rs.length L).symm
      rw [List.drop_eq_getElem_cons hlt] at e1
      rw [List.getElem?_eq_getElem hlt] at hx
      rw [<- Option.some.inj hx]
      exact e1
    refine ⟨x,frs (L.drop (rs.length + 1)) ++ tl,hx,hL x (List.mem_of_getElem? hx),?_⟩
    have e2:frs L = frs (L.take rs.length) ++ (fr (enc x) ++ frs (L.drop (rs.length + 1))):=by
      conv=>lhs; rw [hsplit]
      rw [frs_app]
      rfl
    rw [e2,<- h1] at he
    rw [hbsr] at he
    have:=List.append_cancel_left (by simpa [List.append_assoc] using he:frs (rs.map (·.x)) ++ rest = frs (rs.map (·.x)) ++ (fr (enc x) ++ (frs (L.drop (rs.length + 1)) ++ tl)))
    exact this
  refine ⟨ha0,by omega,by omega,fun hsm w4 h4=>fin w4 h4 fun L tl hL ht he hlt=>?_,fun h2=>?_⟩
  · obtain ⟨x,r2,_,_,hx⟩:=next L tl hL ht he hlt
    have:=congrArg List.length hx
    rw [List.length_append,fr_len] at this
    omega
  obtain ⟨a,b1,r,rfl⟩:∃ a b1 r,rest = a :: b1 :: r:=by
    match rest,(show 2 <= rest.length by omega) with
    | a :: b :: r,_ => exact ⟨a,b,r,rfl⟩
  have ga:Go.Sx.cell w3 (pIdx (pCut b bc at_ 1) 0 1) 0 = some (.int .u8 a.toNat):=by rw [cell_pIdx]; exact hri 0 _ rfl
  have gb:Go.Sx.cell w3 (pIdx (pCut b bc at_ 1) 1 1) 0 = some (.int .u8 b1.toNat):=by rw [cell_pIdx]; exact hri 1 _ rfl
  have hpn:pCut b bc at_ 1 ≠ none:=fun h=>cell_p ga (pIdx_none.2 h)
  have ua:=u8b a
  have ub1:=u8b b1
  have hl2:(a :: b1 :: r).length = r.length + 2:=rfl
  refine ⟨hpn,by omega,by omega,_,ga,i64 (by omega),hpn,by omega,by omega,_,gb,i64 (by omega),?_⟩
  rw [shl_u8]
  refine ⟨i64 (by omega),i64 (by omega),fun hsm w6 h6=>fin w6 h6 fun L tl hL ht he hlt=>?_,fun hge=>?_⟩
  · obtain ⟨x,r2,_,hx,hx2⟩:=next L tl hL ht he hlt
    obtain ⟨a',b',r',hf,hl,_⟩:=fr_head (bs:=enc x) (by have:=hx.len; omega)
    have h3:=congrArg List.length hx2
    rw [List.length_append,fr_len] at h3
    rw [hf] at hx2
    simp only [List.cons_append,List.cons.injEq] at hx2
    rw [hx2.1,hx2.2.1] at hsm
    omega
  have hnr:(a.toNat:Int) * 256 + b1.toNat + 8 <= r.length:=by omega
  generalize hm:(a.toNat * 256 + b1.toNat:Nat) = m
  have hmI:(a.toNat:Int) * 256 + b1.toNat = (m:Int):=by rw [<- hm]; simp
  rw [hmI] at hge hnr ⊢
  have hcutm:Ints .u8 w3 (pCut (pCut b bc at_ 1) (bc - at_.toNat) 2 1) (bI (r.take m)):=by
    have h1:=ints_cut (j:=2) hri hrc
    exact ints_pre (j:=m) h1
  have hlm:((((m:Int) + 2) - 2).toNat:Nat) = (r.take m).length:=by rw [List.length_take]; omega
  refine ⟨i64 (by omega),by omega,by omega,by omega,fun w6 h6=>?_⟩
  rw [hlm]
  refine (Decode_k _ _ (r.take m) w6 (hcutm.ext h6) (by rw [List.length_take]; simp only [show (2:Int).toNat = 2 from rfl]; omega) (by omega) (g.ext (x3.trans h6))).mono fun v w7 ⟨e7,x,pa,ca,pf,cf,e,hv,hWx,hJx,horx,hcx⟩=>⟨e7,x.kind,x.job.user,x.job.prio,x.job.nd.c,x.job.nd.m,x.job.nd.g,x.job.ask.k,x.job.ask.key,x.job.ask.val,x.job.ask.n,pa,x.job.ask.xs.length,ca,pf,x.job.aft.length,cf,x.n,x.id,x.ok,e,hv,fun b28 hb28 w29 x29=>?_⟩
  have h29:=extB_ext x29
  have hw29:Ext w w29:=((x3.trans h6).trans e7).trans h29
  have hnx:nod x.job.ask <= 60:=by
    rcases horx with ⟨_,rfl,_⟩ | ⟨_,_,h,_⟩
    · decide
    · exact h
  refine (eFrame_k x pa ca pf cf w29 (hJx (fun _=>False) (fun _ h=>h.elim) w29 (fr_ext h29)) hWx (by omega) (g.ext hw29)).mono fun v w30 ⟨e30,q,n30,c30,e3,hv,heq3,hz3,hok3⟩=>⟨e30,q,n30,c30,e3,hv,fun _=>i64 (by omega),fun _=>by omega,fun _=>by omega,fun _=>by omega,fun hbad w35 h35=>?_,fun hgd w35 h35=>?_⟩
  · refine fin w35 ((((h6.trans e7).trans h29).trans e30).trans h35) fun L tl hL ht he hlt=>?_
    obtain ⟨y,r2,_,hy,hy2⟩:=next L tl hL ht he hlt
    obtain ⟨a',b',r',hf,hl,htk2⟩:=fr_head (bs:=enc y) (by have:=hy.len; omega)
    have hy2':=hy2
    rw [hf] at hy2
    simp only [List.cons_append,List.cons.injEq] at hy2
    have hmm:m = (enc y).length:=by rw [hy2.1,hy2.2.1] at hmI; omega
    have hr':r.take m = enc y:=by
      rw [hy2.2.2,hmm,List.take_append_of_le_length (by have:=congrArg List.length htk2; rw [List.length_take] at this; omega),htk2]
    obtain ⟨c1,c2⟩:=hcx y ⟨hy.ok,hy.nod,hr'.symm,hy.ask⟩ (by rw [hr']; exact hy.len)
    rcases hbad with h | h
    · exact h c1
    · exact h (heq3.2 (by rw [c2]; exact hy.ok))
  obtain ⟨rfl,oF⟩:=hok3 hgd.2
  have hokx:=heq3.1 hgd.2
  have hencx:enc x = r.take m:=by
    rcases horx with ⟨h,_⟩ | ⟨_,_,_,h,_⟩
    · exact absurd hgd.1 h
    · exact h
  have haskx:x.kind = 1->(txt x.job.ask).length <= 2000:=by
    rcases horx with ⟨h,_⟩ | ⟨_,_,_,_,h⟩
    · exact absurd hgd.1 h
    · exact h
  have hml:(r.take m).length = m:=by rw [List.length_take]; omega
  have hfl:(fr (enc x)).length = m + 10:=by rw [fr_len,hencx,hml]
  have hw30:Ext w w30:=hw29.trans e30
  have h330:Ext w3 w30:=((h6.trans e7).trans h29).trans e30
  have hcut2:Ints .u8 w35 (pCut (pCut b bc at_ 1) (bc - at_.toNat) 0 1) (bI ((a :: b1 :: r).take (m + 10))):=by
    rw [pCut_zero]
    exact (ints_pre (j:=m + 10) hri).ext (h330.trans h35)
  refine (Equal_k w35 rfl (by rw [List.length_take]; omega) (oF.cells.ext h35) hcut2).mono fun v w36 ⟨e36,hv⟩=>⟨e36,_,hv,fun hf w38 h38=>?_,fun ht=>?_⟩
  · refine fin w38 (h330.trans h38) fun L tl hL ht he hlt=>?_
    obtain ⟨y,r2,_,hy,hy2⟩:=next L tl hL ht he hlt
    obtain ⟨a',b',r',hff,hl,htk2⟩:=fr_head (bs:=enc y) (by have:=hy.len; omega)
    have hy2':=hy2
    rw [hff] at hy2
    simp only [List.cons_append,List.cons.injEq] at hy2
    have hmm:m = (enc y).length:=by rw [hy2.1,hy2.2.1] at hmI; omega
    have hr':r.take m = enc y:=by
      rw [hy2.2.2,hmm,List.take_append_of_le_length (by have:=congrArg List.length htk2; rw [List.length_take] at this; omega),htk2]
    refine of_decide_eq_false hf ?_
    rw [hy2',hencx,hr',List.take_append_of_le_length (by rw [fr_len]; omega),List.take_of_length_le (by rw [fr_len]; omega)]
  have hfeq:fr (enc x) = (a :: b1 :: r).take (m + 10):=of_decide_eq_true ht
  have o30:=o3.ext h330
  have hrs2:rs.length <= 1048576:=by omega
  have hb28n:∀ k ∈ [b28],∀ y,out = some y->y.block ≠ k:=fun k hk y hy=>by
    simp at hk; subst hk
    have:=(o3.lt y hy).2
    have:=h6.size; have:=e7.size
    omega
  refine push_B (v:=evv x pa ca pf cf) elem_sl_Event (by omega) o30 hw30.size hb28n rfl (by intro u hu; simp [Value.cells] at hu; rcases hu with rfl | rfl | rfl | rfl | rfl | rfl | rfl | rfl | rfl | rfl | rfl | rfl | rfl | rfl | rfl <;> rfl) (by omega) (by omega) (by omega) fun p' c' w44 o44 g44 _ _=>⟨i64 (by omega),i64 (by omega),⟨g44.ext hw30 o30,by omega,by omega,rs ++ [⟨x,pa,ca,pf,cf⟩],by simp,by simp; omega,?_,fun r hr=>?_,?_,fun L tl hL ht he=>?_⟩,?_⟩
  · rw [List.flatMap_append]
    simpa [Value.cells] using o44
  · have hsz44:=g44.size
    have step:∀ (w0 w'':World),Ext w0 w30->w0.heap.size <= w30.heap.size->Fr (fun k=>k < w.heap.size\/∃ a,p' = some a/\a.block = k) w44 w''->Fr (fun k=>k < w.heap.size\/∃ a,out = some a/\a.block = k) w0 w'':=fun w0 w'' h08 hs fw=>by
      have f1:Fr (fun k=>k < w.heap.size\/∃ a,out = some a/\a.block = k) w0 w44:=(fr_ext h08).tr (fr_grew g44 fun a ha=>.inr ⟨a,ha,rfl⟩)
      refine f1.trans fw fun k hk=>?_
      rcases hk with hk | ⟨a2,ha2,hk2⟩
      · exact .inl (.inl hk)
      rcases g44.new with hn | hn
      · left
        rw [ha2] at hn
        cases hout:out with
        | none => rw [hout] at hn; simp [blk] at hn
        | some y => rw [hout] at hn; simp [blk] at hn; exact .inr ⟨y,rfl,by omega⟩
      · right
        have:=hn a2 ha2
        omega
    rcases List.mem_append.1 hr with hr | hr
    · exact ⟨(hrs r hr).1,fun w'' fw=>(hrs r hr).2 w'' (step w3 w'' h330 h330.size fw)⟩
    · simp at hr; subst hr
      have h738:Ext w7 w30:=h29.trans e30
      refine ⟨⟨hokx,hWx,hnx,haskx⟩,fun w'' fw=>hJx (fun k=>k < w.heap.size\/∃ a,out = some a/\a.block = k) (fun k hk=>?_) w'' (step w7 w'' h738 h738.size fw)⟩
      rcases hk with hk | ⟨y,hy,rfl⟩
      · have:=x3.size; have:=h6.size; omega
      have:=(o3.lt y hy).2
      have:=h6.size
      omega
  · rw [List.map_append,frs_app,<- htk]
    have e1:(at_ + ((m:Int) + 10)).toNat = at_.toNat + (m + 10):=by omega
    rw [e1,List.take_add,hrest]
    congr 1
    rw [<- hfeq]
    simp [frs]
  · obtain ⟨h1,h2⟩:=hcomp L tl hL ht he
    rcases Nat.lt_or_ge rs.length L.length with hlt | hge2
    · obtain ⟨y,r2,hyL,hy,hy2⟩:=next L tl hL ht he hlt
      obtain ⟨a',b',r',hff,hl,htk2⟩:=fr_head (bs:=enc y) (by have:=hy.len; omega)
      rw [hff] at hy2
      simp only [List.cons_append,List.cons.injEq] at hy2
      have hmm:m = (enc y).length:=by rw [hy2.1,hy2.2.1] at hmI; omega
      have hr':r.take m = enc y:=by
        rw [hy2.2.2,hmm,List.take_append_of_le_length (by have:=congrArg List.length htk2; rw [List.length_take] at this; omega),htk2]
      obtain ⟨_,c2⟩:=hcx y ⟨hy.ok,hy.nod,hr'.symm,hy.ask⟩ (by rw [hr']; exact hy.len)
      refine ⟨?_,by simp; omega⟩
      rw [List.map_append,h1,List.length_append,List.length_singleton,List.take_add_one,hyL]
      simp [c2]
    · have hlL:rs.length = L.length:=by omega
      have htl:a :: b1 :: r = tl:=by
        rw [h1,hlL,List.take_length] at hbsr
        rw [he] at hbsr
        exact (List.append_cancel_left hbsr).symm
      have:=ht a b1 r htl.symm
      rw [<- htl] at this
      omega
  · simp only []
    omega
end Go.Proofs.YtegephkpdlopaaaGreatDoor
set_option linter.unusedVariables false
set_option linter.unusedSimpArgs false
namespace Go.Proofs.YtegephkpdlopaaaGreatDoor
open Go.Sx Go.RowKit
theorem frs_le (L:List Ev) {k:Nat}:(frs (L.take k)).length <= (frs L).length:=by
  conv=>rhs; rw [<- List.take_append_drop k L]
  rw [frs_app,List.length_append]
  omega
end Go.Proofs.YtegephkpdlopaaaGreatDoor
set_option linter.unusedVariables false
set_option linter.unusedSimpArgs false
namespace Go.Proofs.YtegephkpdlopaaaGreatDoor
open Go.Sx Go.RowKit Go.ChangeShapes Go.WideShapes Go.ChangeAt
section
variable {P:Program} {H:Type} {enc:TypeId × Value->H}
theorem bulk_pos:∀ d:DataW H,1 <= Rows.uptoBulk d
  | .lit l => by cases l <;> unfold Rows.uptoBulk <;> omega
  | .nil => by unfold Rows.uptoBulk; omega
  | .ptr d => by unfold Rows.uptoBulk; omega
  | .slice a b => by unfold Rows.uptoBulk; omega
  | .agg a => by unfold Rows.uptoBulk; omega
  | .iface _ d => by unfold Rows.uptoBulk; omega
  | .map a => by unfold Rows.uptoBulk; omega
  | .held _ => by unfold Rows.uptoBulk; omega
theorem bulkAll_len:∀ l:List (DataW H),l.length <= Rows.uptoBulkAll l
  | [] => by simp [Rows.uptoBulkAll]
  | d :: r => by
    have:=bulk_pos d
    have:=bulkAll_len r
    rw [Rows.uptoBulkAll,List.length_cons]; omega
theorem slice_reads {w:World} {t e:TypeId} (hu:P.underlying t = some (.slice e)) {n:Nat} {p:Option Addr} {l c:Nat} {d:DataW H} {ps:List MemPlace} (h:DataW.trod enc P w 0 (fun _=>true) true n t [.slice p l c] = some (d,ps)) :
    ∃ (m:Nat) (es:List (DataW H)),es.length = l/\Rows.uptoBulkAll es <= Rows.uptoBulk d/\∀ a,p = some a->∀ i,i < l->∃ cs x qs,w.cells? 0 (a.add (i * P.cellsOf e)) (P.cellsOf e) = some cs/\es[i]? = some x/\DataW.trod enc P w 0 (fun _=>true) true m e cs = some (x,qs):=by
  cases n with
  | zero => cases h
  | succ n =>
    unfold DataW.trod at h
    rw [hu] at h
    cases p with
    | none =>
      cases l with
      | zero => exact ⟨n,[],rfl,by simp [Rows.uptoBulkAll],fun a ha => by cases ha⟩
      | succ l => simp at h
    | some a =>
      simp only at h
      split at h
      · cases hm:(List.range l).mapM (fun i=>(w.cells? 0 (a.add (i * P.cellsOf e)) (P.cellsOf e)).bind (DataW.trod enc P w 0 (fun _=>true) true n e)) with
        | none => simp [hm] at h
        | some es =>
          rw [hm,Option.bind_some,Option.map_eq_some_iff] at h
          obtain ⟨rest,_,he⟩:=h
          obtain ⟨he,_⟩:=Prod.mk.inj he
          obtain ⟨hl,hget⟩:=mapM_get hm
          rw [List.length_range] at hl
          refine ⟨n,es.map (·.1),by simp [hl],by rw [<- he,Rows.uptoBulk]; omega,fun b hb i hi=>?_⟩
          obtain rfl:=Option.some.inj hb
          obtain ⟨y,hy,hfy⟩:=hget i i (by simp [hi])
          obtain ⟨cs,hcs,htr⟩:=Option.bind_eq_some_iff.1 hfy
          exact ⟨cs,y.1,y.2,hcs,by simp [hy],htr⟩
      · cases h
theorem slice_bulk {w:World} {t e:TypeId} (hu:P.underlying t = some (.slice e)) {n:Nat} {p:Option Addr} {l c:Nat} {d:DataW H} {ps:List MemPlace} (h:DataW.trod enc P w 0 (fun _=>true) true n t [.slice p l c] = some (d,ps)):l <= Rows.uptoBulk d:=by
  obtain ⟨_,es,h1,h2,_⟩:=slice_reads hu h
  have:=bulkAll_len es
  omega
end
end Go.Proofs.YtegephkpdlopaaaGreatDoor
set_option linter.unusedVariables false
set_option linter.unusedSimpArgs false
namespace Go.Proofs.YtegephkpdlopaaaGreatDoor
open Go.Sx Go.RowKit Go.ChangeShapes Go.WideShapes Go.ChangeAt
theorem ev_bulk {H:Type} {enc:TypeId × Value->H} {w:World} {n:Nat} {x:Ev} {pa:Option Addr} {ca:Nat} {pf:Option Addr} {cf:Nat} {d:DataW H} {ps:List MemPlace} (hT:IsT w x.job.ask pa ca)
    (h:DataW.trod enc Tryz.prog w 0 (fun _=>true) true n T_Event (evcs x pa ca pf cf) = some (d,ps)):nod x.job.ask <= Rows.uptoBulk d:=by
  obtain ⟨m,d',ps',h1,h2⟩:=field_bulk (by kernel_rfl) h (i:=1) (F:=T_Job) (o:=1) (by kernel_rfl)
  rw [show Tryz.prog.cellsOf T_Job = 11 by kernel_rfl] at h1
  exact Nat.le_trans (job_bulk (cf:=cf) hT h1) h2
end Go.Proofs.YtegephkpdlopaaaGreatDoor
set_option linter.unusedVariables false
set_option linter.unusedSimpArgs false
namespace Go.Proofs.YtegephkpdlopaaaGreatDoor
open Go.Sx Go.RowKit Go.ChangeShapes Go.WideShapes Go.ChangeAt
theorem encR_len (r:EvR):(encR r).length = 15:=rfl
theorem stuck_take {x:Ev} (h:(enc x).length <= 65535) {k:Nat} (hk:k < (fr (enc x)).length):stuck ((fr (enc x)).take k):=by
  intro a b r he
  obtain ⟨a',b',r',hf,hl,_⟩:=fr_head h
  have hlen:((fr (enc x)).take k).length = k:=by rw [List.length_take]; omega
  rw [hlen]
  rw [fr_len] at hk
  rw [hf] at he
  match k,he with
  | 0,he => simp at he
  | 1,he => simp at he
  | k + 2,he =>
    simp only [List.take_succ_cons,List.cons.injEq] at he
    rw [<- he.1,<- he.2.1]; omega
theorem cut_at:∀ (xs:List Ev),(∀ x ∈ xs,Whole x)->∀ k:Nat,k <= (frs xs).length->∃ j,j <= xs.length/\(frs (xs.take j)).length <= k/\(j < xs.length->k < (frs (xs.take (j + 1))).length)/\∃ tl,stuck tl/\(frs xs).take k = frs (xs.take j) ++ tl
  | [],_,k,hk => ⟨0,by omega,by simp [frs],fun h => (by simp at h),[],fun _ _ _ h => (by cases h),by simp [frs]⟩
  | x :: r,hW,k,hk => by
    have hx:=hW x (List.mem_cons_self ..)
    have e0:frs (x :: r) = fr (enc x) ++ frs r:=rfl
    rcases Nat.lt_or_ge k (fr (enc x)).length with h | h
    · refine ⟨0,by omega,by simp [frs],fun _=>?_,(fr (enc x)).take k,stuck_take (by have:=hx.len; omega) h,?_⟩
      · simp [frs]; omega
      · rw [e0,List.take_append_of_le_length (by omega)]; rfl
    · rw [e0,List.length_append] at hk
      obtain ⟨j,h1,h2,h3,tl,h4,h5⟩:=cut_at r (fun y hy=>hW y (List.mem_cons_of_mem _ hy)) (k - (fr (enc x)).length) (by omega)
      refine ⟨j + 1,by simp; omega,?_,fun hj=>?_,tl,h4,?_⟩
      · rw [List.take_succ_cons]
        show (fr (enc x) ++ frs (r.take j)).length <= k
        rw [List.length_append]; omega
      · rw [List.take_succ_cons]
        show k < (fr (enc x) ++ frs (r.take (j + 1))).length
        rw [List.length_append]
        have:=h3 (by simp at hj; omega)
        omega
      · rw [e0,List.take_succ_cons]
        show _ = (fr (enc x) ++ frs (r.take j)) ++ tl
        rw [List.append_assoc,<- h5,List.take_append,List.take_of_length_le h]
theorem ev_cells {W:World} {n:Nat} {es:List Value} (hg:Go.Sx.Good Tryz.prog W n T_Event es):∃ r:EvR,es = encR r/\WfJ r.x.job/\IsJ W r.x.job r.pa r.ca r.pf:=by
  have hlv:=leaves_ok (P:=Tryz.prog) 6 T_Event [T_int,T_string,T_int,T_int64,T_int64,T_int64,T_int,T_string,T_string,T_int64,T_sl_Ask,T_sl_int,T_int64,T_int,T_bool] n es (by kernel_rfl) hg
  obtain ⟨v0,r0,rfl,l0,hlv⟩:=lvs_cons hlv
  obtain ⟨v1,r1,rfl,l1,hlv⟩:=lvs_cons hlv
  obtain ⟨v2,r2,rfl,l2,hlv⟩:=lvs_cons hlv
  obtain ⟨v3,r3,rfl,l3,hlv⟩:=lvs_cons hlv
  obtain ⟨v4,r4,rfl,l4,hlv⟩:=lvs_cons hlv
  obtain ⟨v5,r5,rfl,l5,hlv⟩:=lvs_cons hlv
  obtain ⟨v6,r6,rfl,l6,hlv⟩:=lvs_cons hlv
  obtain ⟨v7,r7,rfl,l7,hlv⟩:=lvs_cons hlv
  obtain ⟨v8,r8,rfl,l8,hlv⟩:=lvs_cons hlv
  obtain ⟨v9,r9,rfl,l9,hlv⟩:=lvs_cons hlv
  obtain ⟨va,ra,rfl,la,hlv⟩:=lvs_cons hlv
  obtain ⟨vb,rb,rfl,lb,hlv⟩:=lvs_cons hlv
  obtain ⟨vc,rc,rfl,lc,hlv⟩:=lvs_cons hlv
  obtain ⟨vd,rd,rfl,ld,hlv⟩:=lvs_cons hlv
  obtain ⟨ve,re,rfl,le,hlv⟩:=lvs_cons hlv
  obtain rfl:=lvs_nil hlv
  obtain ⟨x0,rfl,h0⟩:=leaf_int (k:=.i64) (by kernel_rfl) l0
  obtain ⟨x1,rfl,h1⟩:=leaf_str (by kernel_rfl) l1
  obtain ⟨x2,rfl,h2⟩:=leaf_int (k:=.i64) (by kernel_rfl) l2
  obtain ⟨x3,rfl,h3⟩:=leaf_int (k:=.i64) (by kernel_rfl) l3
  obtain ⟨x4,rfl,h4⟩:=leaf_int (k:=.i64) (by kernel_rfl) l4
  obtain ⟨x5,rfl,h5⟩:=leaf_int (k:=.i64) (by kernel_rfl) l5
  obtain ⟨x6,rfl,h6⟩:=leaf_int (k:=.i64) (by kernel_rfl) l6
  obtain ⟨x7,rfl,h7⟩:=leaf_str (by kernel_rfl) l7
  obtain ⟨x8,rfl,h8⟩:=leaf_str (by kernel_rfl) l8
  obtain ⟨x9,rfl,h9⟩:=leaf_int (k:=.i64) (by kernel_rfl) l9
  obtain ⟨pa,na,ca,rfl,a1,a2,a3,a4⟩:=leaf_slice (e:=T_Ask) (by kernel_rfl) la
  obtain ⟨pf,nf,cf,rfl,f1,f2,f3,f4⟩:=leaf_slice (e:=T_int) (by kernel_rfl) lb
  obtain ⟨xc,rfl,hc⟩:=leaf_int (k:=.i64) (by kernel_rfl) lc
  obtain ⟨xd,rfl,hd⟩:=leaf_int (k:=.i64) (by kernel_rfl) ld
  obtain ⟨xe,rfl⟩:=leaf_bool (by kernel_rfl) le
  obtain ⟨j,hJ,hW,e⟩:=job_arg h1 h2 h3 h4 h5 h6 h7 h8 h9 ⟨a1,a2,a3,a4⟩ ⟨f1,f2,f3,f4⟩
  have e1:encR ⟨⟨x0,j,xc,xd,xe⟩,pa,ca,pf,cf⟩ = .int .i64 x0 :: (jcs j pa ca pf cf ++ [.int .i64 xc,.int .i64 xd,.bool xe]):=rfl
  rw [e] at e1
  exact ⟨⟨⟨x0,j,xc,xd,xe⟩,pa,ca,pf,cf⟩,e1.symm,hW,hJ⟩
theorem evs_arg {W:World} {p:Option Addr} {l c:Nat} (h:SlcArg Tryz.prog W T_Event p l c):∃ L:List EvR,L.length = l/\Recs 15 encR W p L/\∀ r ∈ L,WfJ r.x.job/\IsJ W r.x.job r.pa r.ca r.pf:=by
  obtain ⟨L,h1,h2,h3⟩:=h.list (α:=EvR) encR (fun r=>WfJ r.x.job/\IsJ W r.x.job r.pa r.ca r.pf) (fun n es hg _=>ev_cells hg)
  refine ⟨L,h1,fun i x hx j u hu=>?_,h2⟩
  have:=h3 i x hx j u hu
  rwa [show Tryz.prog.cellsOf T_Event = 15 by kernel_rfl] at this
theorem cells_eqR {w:World} {a:Addr} {cs:List Value} {r:EvR} {i:Nat} (h:w.cells? 0 (a.add (i * 15)) 15 = some cs) (hr:∀ j u,(encR r)[j]? = some u->Go.Sx.cell w (some a) (i * 15 + j) = some u):cs = encR r:=by
  obtain ⟨hl,hc⟩:=cells?_some h
  refine List.ext_getElem? fun j=>?_
  rcases Nat.lt_or_ge j 15 with hj | hj
  · obtain ⟨u,hu⟩:∃ u,cs[j]? = some u:=⟨_,List.getElem?_eq_getElem (by omega)⟩
    obtain ⟨u2,hu2⟩:∃ u,(encR r)[j]? = some u:=⟨_,List.getElem?_eq_getElem (by rw [encR_len]; exact hj)⟩
    have h1:=hc j u hu
    have h2:=hr j u2 hu2
    simp only [Go.Sx.cell,Option.bind_some] at h1 h2
    rw [<- add_add] at h2
    rw [hu,hu2,<- h1,<- h2]
  · rw [List.getElem?_eq_none (by omega),List.getElem?_eq_none (by rw [encR_len]; omega)]
theorem evs_bulk {H:Type} {enc:TypeId × Value->H} {w:World} {n:Nat} {p:Option Addr} {c:Nat} {L:List EvR} {d:DataW H} {ps:List MemPlace} (hR:Recs 15 encR w p L) (hT:∀ r ∈ L,IsT w r.x.job.ask r.pa r.ca)
    (h:DataW.trod enc Tryz.prog w 0 (fun _=>true) true n T_sl_Event [.slice p L.length c] = some (d,ps)):∀ r ∈ L,nod r.x.job.ask <= Rows.uptoBulk d:=by
  obtain ⟨m,es,h1,h2,h3⟩:=slice_reads (e:=T_Event) (by kernel_rfl) h
  intro r hr
  obtain ⟨i,hi⟩:=List.mem_iff_getElem?.1 hr
  have hil:=(List.getElem?_eq_some_iff.1 hi).1
  obtain ⟨a,rfl⟩:∃ a,p = some a:=by
    cases p with
    | none => exact absurd rfl (cell_p (hR i r hi 0 _ rfl))
    | some a => exact ⟨a,rfl⟩
  obtain ⟨cs,x,qs,hcs,hx,htr⟩:=h3 a rfl i hil
  rw [show Tryz.prog.cellsOf T_Event = 15 by kernel_rfl] at hcs
  obtain rfl:=cells_eqR hcs fun j u hu=>hR i r hi j u hu
  exact Nat.le_trans (ev_bulk (hT r hr) htr) (Nat.le_trans (bulk_mem (List.mem_of_getElem? hx)) h2)
end Go.Proofs.YtegephkpdlopaaaGreatDoor
set_option linter.unusedVariables false
set_option linter.unusedSimpArgs false
namespace Go.Proofs.YtegephkpdlopaaaGreatDoor
open Go.Sx Go.RowKit
def errU:Int->List Int->Int
  | _,[] => 0
  | a,x :: r => if x < 1\/60 < x then 4 else if x <= a then 6 else errU x r
theorem errU_ok:∀ (l:List Int) (a:Int),errU a l = 0 ↔ upA a l
  | [],a => by simp [errU,upA]
  | x :: r,a => by
    have ih:=errU_ok r x
    unfold errU upA
    split
    · rename_i h; constructor
      · intro h2; cases h2
      · intro h2; omega
    · split
      · rename_i h; constructor
        · intro h2; cases h2
        · intro h2; omega
      · rw [ih]; constructor
        · intro h2; exact ⟨by omega,by omega,by omega,h2⟩
        · intro h2; exact h2.2.2.2
def errJ (j:Jb):Int:=if lbB j.user = false then 3 else if j.prio < -1000\/1000 < j.prio then 4 else if errN j.nd ≠ 0 then errN j.nd else if errC j.ask ≠ 0 then errC j.ask else if 8 < j.aft.length then 2 else errU 0 j.aft
theorem errJ_ok {j:Jb}:errJ j = 0 ↔ okJ j:=by
  unfold errJ
  constructor
  · intro h
    split at h
    · cases h
    rename_i h1
    split at h
    · cases h
    rename_i h2
    split at h
    · rename_i h3; exact absurd h h3
    rename_i h3
    split at h
    · rename_i h4; exact absurd h h4
    rename_i h4
    split at h
    · cases h
    rename_i h5
    exact ⟨by simpa using h1,by omega,errN_ok.1 (by omega),by omega,by omega,(errU_ok _ _).1 h⟩
  · intro h
    have hp:=h.prio
    have hl:=h.len
    rw [if_neg (by rw [h.user]; simp),if_neg (by omega),if_neg (fun g=>g (errN_ok.2 h.nd)),if_neg (fun g=>g h.ask),if_neg (by omega)]
    exact (errU_ok _ _).2 h.up
theorem jErr_k (j:Jb) (pa:Option Addr) (ca:Nat) (pf:Option Addr) (cf:Nat) (w:World) (hJ:IsJ w j pa ca pf) (hW:WfJ j):FnP Tryz.prog F_job_Check #[jv j pa ca pf cf] w fun v w'=>Ext w w'/\v = .int .i64 (errJ j):=by
  refine ok_job_Check j.user j.prio j.nd.c j.nd.m j.nd.g j.ask.k j.ask.key j.ask.val j.ask.n pa j.ask.xs.length ca pf j.aft.length cf w _ fun b0 hb0 w1 h1=>(Label_k j.user hW.user w1).mono fun v w2 ⟨e2,hv⟩=>⟨e2,_,hv,fun hno w4 h4=>?_,fun hyes=>⟨fun hbad w4 h4=>?_,fun hpr w4 h4=>?_⟩⟩
  · exact ⟨h4,by unfold errJ; rw [if_pos hno]⟩
  · exact ⟨h4,by unfold errJ; rw [if_neg (by rw [hyes]; simp),if_pos (by omega)]⟩
  refine (ncheck_k j.nd w4).mono fun v w5 ⟨e5,hv⟩=>⟨e5,_,hv,fun hne w7 h7=>⟨h7,by unfold errJ; rw [if_neg (by rw [hyes]; simp),if_neg (by omega),if_pos hne]⟩,fun hz w7 h7=>?_⟩
  refine (Check_k j.ask pa ca w7 (hJ.1.ext h7) hW.ask).mono fun v w8 ⟨e8,hv⟩=>⟨e8,_,hv,fun hne w10 h10=>⟨h10,by unfold errJ; rw [if_neg (by rw [hyes]; simp),if_neg (by omega),if_neg (by omega),if_pos hne]⟩,fun hz2=>⟨fun hbig w10 h10=>⟨h10,by unfold errJ; rw [if_neg (by rw [hyes]; simp),if_neg (by omega),if_neg (by omega),if_neg (by omega),if_pos (by omega)]⟩,fun hle=>?_⟩⟩
  have hE:errJ j = errU 0 j.aft:=by unfold errJ; rw [if_neg (by rw [hyes]; simp),if_neg (by omega),if_neg (by omega),if_neg (by omega),if_neg (by omega)]
  rw [hE]
  refine ⟨fun last k w'=>w' = w/\0 <= k/\k <= j.aft.length/\errU 0 j.aft = errU last (j.aft.drop k.toNat),fun _ k _=>(j.aft.length - k).toNat,⟨rfl,by omega,by omega,by simp⟩,?_⟩
  rintro last k w' ⟨rfl,hk0,hk1,hup⟩
  refine ⟨fun hlt=>?_,fun hge w14 h14=>⟨h14,by rw [hup,List.drop_eq_nil_of_le (by omega)]; rfl⟩⟩
  have g:=Ints.idx hJ.2 hk0 hlt
  have hdrop:j.aft.drop k.toNat = j.aft.getD k.toNat 0 :: j.aft.drop (k.toNat + 1):=by
    rw [List.drop_eq_getElem_cons (by omega)]
    congr 1
    simp [List.getD_eq_getElem?_getD,show k.toNat < j.aft.length by omega]
  rw [hdrop] at hup
  refine ⟨fun hq=>cell_p g (pIdx_none.2 hq),hk0,hlt,_,g,fun hbad w15 h15=>⟨h15,?_⟩,fun hin=>⟨fun hle2 w15 h15=>⟨h15,?_⟩,fun hgt=>⟨i64 (by omega),⟨rfl,by omega,by omega,?_⟩,by simp only []; omega⟩⟩⟩
  · rw [hup,errU,if_pos (by omega)]
  · rw [hup,errU,if_neg (by omega),if_pos (by omega)]
  · rw [show (k + 1).toNat = k.toNat + 1 by omega,hup,errU,if_neg (by omega),if_neg (by omega)]
def oddE (x:Ev):Prop:=(x.kind ≠ 2/\x.n ≠ 0)\/((x.kind ≠ 4/\x.kind ≠ 5)/\x.id ≠ 0)\/(x.kind ≠ 4/\x.ok = true)
def EErr (x:Ev) (e:Int):Prop :=
  ((x.kind < 1\/5 < x.kind)/\e = 1)\/((1 <= x.kind/\x.kind <= 5) /\
    ((x.kind ≠ 1/\(x.job ≠ zeroJ\/oddE x)/\e = 1)\/(x.kind ≠ 1/\¬ (x.job ≠ zeroJ\/oddE x)/\((x.n < 0\/1000000000 < x.n\/x.id < 0\/65535 < x.id)/\e = 4\/¬ (x.n < 0\/1000000000 < x.n\/x.id < 0\/65535 < x.id)/\e = 0)) \/
     (x.kind = 1/\oddE x/\e = 1)\/(x.kind = 1/\¬ oddE x/\e = errJ x.job)))
theorem EErr.one {x:Ev} {e f:Int} (h:EErr x e) (g:EErr x f):e = f:=by
  rcases h with ⟨a,rfl⟩ | ⟨a,h⟩ <;> rcases g with ⟨b,rfl⟩ | ⟨b,g⟩
  · rfl
  · omega
  · omega
  · rcases h with ⟨h1,h2,rfl⟩ | ⟨h1,h2,h3⟩ | ⟨h1,h2,rfl⟩ | ⟨h1,h2,rfl⟩ <;> rcases g with ⟨g1,g2,rfl⟩ | ⟨g1,g2,g3⟩ | ⟨g1,g2,rfl⟩ | ⟨g1,g2,rfl⟩ <;>
      first | rfl | exact absurd h1 g1 | exact absurd g1 h1 | exact absurd h2 g2 | exact absurd g2 h2 | omega
theorem eErr_k (x:Ev) (pa:Option Addr) (ca:Nat) (pf:Option Addr) (cf:Nat) (w:World) (hJ:IsJ w x.job pa ca pf) (hW:WfJ x.job):FnP Tryz.prog F_event_Check #[evv x pa ca pf cf] w fun v w'=>Ext w w'/\∃ e:Int,v = .int .i64 e/\EErr x e:=by
  refine ok_event_Check x.kind x.job.user x.job.prio x.job.nd.c x.job.nd.m x.job.nd.g x.job.ask.k x.job.ask.key x.job.ask.val x.job.ask.n pa x.job.ask.xs.length ca pf x.job.aft.length cf x.n x.id x.ok w _ fun b0 hb0=>⟨fun hbad w1 h1=>⟨h1,1,rfl,.inl ⟨hbad,rfl⟩⟩,fun hk=>⟨fun h1 w1 e1=>?_,fun h1=>?_⟩⟩
  · refine (plain_k x.job pa ca pf cf w1).mono fun v w2 ⟨e2,b,hv,hb⟩=>⟨e2,b,hv,fun hbad w4 h4=>⟨h4,1,rfl,.inr ⟨hk,.inl ⟨h1,?_,rfl⟩⟩⟩,fun hgd=>⟨fun h=>absurd h h1,fun _=>⟨fun hbad w4 h4=>⟨h4,4,rfl,.inr ⟨hk,.inr (.inl ⟨h1,?_,.inl ⟨?_,rfl⟩⟩)⟩⟩,fun hin w4 h4=>⟨h4,0,rfl,.inr ⟨hk,.inr (.inl ⟨h1,?_,.inr ⟨?_,rfl⟩⟩)⟩⟩⟩⟩⟩
    · rcases hbad with ((h | h) | h) | h
      · left; intro hz; rw [hb.2 hz] at h; cases h
      · exact .inr (.inl h)
      · exact .inr (.inr (.inl h))
      · exact .inr (.inr (.inr h))
    · obtain ⟨⟨⟨a1,a2⟩,a3⟩,a4⟩:=hgd
      rintro (h | h | h | h)
      · exact h (hb.1 a1)
      · omega
      · omega
      · rcases a4 with a4 | a4
        · exact h.1 a4
        · rw [a4] at h; cases h.2
    · omega
    · obtain ⟨⟨⟨a1,a2⟩,a3⟩,a4⟩:=hgd
      rintro (h | h | h | h)
      · exact h (hb.1 a1)
      · omega
      · omega
      · rcases a4 with a4 | a4
        · exact h.1 a4
        · rw [a4] at h; cases h.2
    · omega
  · refine ⟨fun hbad w1 e1=>⟨e1,1,rfl,.inr ⟨hk,.inr (.inr (.inl ⟨h1,?_,rfl⟩))⟩⟩,fun hgd=>⟨fun _ w1 e1=>?_,fun h=>absurd h1 h⟩⟩
    · rcases hbad with (h | h) | h
      · exact .inl h
      · exact .inr (.inl h)
      · exact .inr (.inr h)
    · refine (jErr_k x.job pa ca pf cf w1 (hJ.ext e1) hW).mono fun v w2 ⟨e2,hv⟩=>⟨e2,_,hv,fun w4 h4=>⟨h4,_,rfl,.inr ⟨hk,.inr (.inr (.inr ⟨h1,?_,rfl⟩))⟩⟩⟩
      obtain ⟨⟨a2,a3⟩,a4⟩:=hgd
      rintro (h | h | h)
      · omega
      · omega
      · rcases a4 with a4 | a4
        · exact h.1 a4
        · rw [a4] at h; cases h.2
theorem EErr.ok {x:Ev} {e:Int} (h:EErr x e):e = 0 ↔ okE x:=by
  constructor
  · rintro rfl
    rcases h with ⟨_,h⟩ | ⟨hk,⟨_,_,h⟩ | ⟨h1,h2,h3⟩ | ⟨_,_,h⟩ | ⟨h1,h2,h3⟩⟩
    · cases h
    · cases h
    · rcases h3 with ⟨_,h⟩ | ⟨h3,_⟩
      · cases h
      have hz:x.job = zeroJ:=Classical.byContradiction fun hh=>h2 (.inl hh)
      have ho:¬ oddE x:=fun hh=>h2 (.inr hh)
      unfold oddE at ho
      have hok:x.kind ≠ 4->x.ok = false:=fun hh=>by
        cases hx:x.ok with
        | false => rfl
        | true => exact absurd (.inr (.inr ⟨hh,hx⟩)) ho
      have hn:x.kind ≠ 2->x.n = 0:=fun hh=>Classical.byContradiction fun h=>ho (.inl ⟨hh,h⟩)
      have hi:x.kind ≠ 4->x.kind ≠ 5->x.id = 0:=fun ha hb=>Classical.byContradiction fun h=>ho (.inr (.inl ⟨⟨ha,hb⟩,h⟩))
      have hk5:x.kind = 2\/x.kind = 3\/x.kind = 4\/x.kind = 5:=by omega
      rcases hk5 with g | g | g | g
      · exact .inr (.inl ⟨g,hz,by omega,hi (by omega) (by omega),hok (by omega)⟩)
      · exact .inr (.inr (.inl ⟨g,hz,hn (by omega),hi (by omega) (by omega),hok (by omega)⟩))
      · exact .inr (.inr (.inr (.inl ⟨g,hz,hn (by omega),by omega⟩)))
      · exact .inr (.inr (.inr (.inr ⟨g,hz,hn (by omega),by omega,hok (by omega)⟩)))
    · cases h
    · have ho:=h2
      unfold oddE at ho
      exact .inl ⟨h1,errJ_ok.1 h3.symm,Classical.byContradiction fun h=>ho (.inl ⟨by omega,h⟩),Classical.byContradiction fun h=>ho (.inr (.inl ⟨by omega,h⟩)),by
        cases hx:x.ok with
        | false => rfl
        | true => exact absurd (.inr (.inr ⟨by omega,hx⟩)) ho⟩
  · intro ho
    have hk:=okE_kind ho
    have hodd:¬ oddE x:=by
      unfold oddE
      rcases ho with g | g | g | g | g
      · rw [g.2.2.2.2]; have:=g.1; have:=g.2.2.1; have:=g.2.2.2.1; simp; omega
      · rw [g.2.2.2.2]; have:=g.1; have:=g.2.2.2.1; simp; omega
      · rw [g.2.2.2.2]; have:=g.1; have:=g.2.2.1; have:=g.2.2.2.1; simp; omega
      · have:=g.1; have:=g.2.2.1; simp; omega
      · rw [g.2.2.2.2]; have:=g.1; have:=g.2.2.1; simp; omega
    rcases h with ⟨h,_⟩ | ⟨_,⟨h1,h2,_⟩ | ⟨h1,h2,h3⟩ | ⟨_,h,_⟩ | ⟨h1,h2,h3⟩⟩
    · omega
    · rcases h2 with h2 | h2
      · rcases ho with g | g | g | g | g
        · exact absurd g.1 h1
        all_goals exact absurd g.2.1 h2
      · exact absurd h2 hodd
    · rcases h3 with ⟨h3,_⟩ | ⟨_,h3⟩
      · rcases ho with g | g | g | g | g
        · exact absurd g.1 h1
        · have:=g.2.2; omega
        · have:=g.2.2; omega
        · have:=g.2.2; omega
        · have:=g.2.2; omega
      · exact h3
    · exact absurd h hodd
    · rw [h3]
      refine errJ_ok.2 ?_
      rcases ho with g | g | g | g | g
      · exact g.2.1
      all_goals exact absurd g.1 (by omega)
end Go.Proofs.YtegephkpdlopaaaGreatDoor
set_option linter.unusedVariables false
set_option linter.unusedSimpArgs false
namespace Go.Proofs.YtegephkpdlopaaaGreatDoor
open Go.Sx Go.RowKit
theorem new_nd {w:World} {x:Nd} {K:Option Addr->World->Prop} (h:∀ p w',Ext w w'->NdAt w' p x->p ≠ none->K p w'):New w T_Need (encN x) K :=
  new_own (by intro v hv; simp at hv; rcases hv with rfl | rfl | rfl <;> rfl) fun w' o e=>h _ w' e (o 0 (Nat.zero_le _)).cells (by simp)
abbrev NdsAt (w:World) (p:Option Addr) (L:List Nd):Prop:=Recs 3 encN w p L
def errNs (L:List Nd):Int:=if ∀ x ∈ L,okN x then 0 else 4
theorem errNs_ok {L:List Nd}:errNs L = 0 ↔ ∀ x ∈ L,okN x:=by unfold errNs; split <;> simp_all
theorem nchecks_k (p:Option Addr) (c:Nat) (L:List Nd) (h63:(L.length:Int) <= 9223372036854775807) (w:World) (h:NdsAt w p L):FnP Tryz.prog F_need_checks #[.slice p L.length c] w fun v w'=>Ext w w'/\v = .int .i64 (errNs L):=by
  refine ok_need_checks p L.length c w _ ⟨fun k w'=>w' = w/\0 <= k/\k <= L.length/\∀ i:Nat,(i:Int) < k->okN (L.getD i default),fun k _=>(L.length - k).toNat,⟨rfl,by omega,by omega,fun i hi=>by omega⟩,?_⟩
  rintro k w ⟨rfl,hk0,hk1,hall⟩
  refine ⟨fun hlt=>?_,fun hge w3 h3=>⟨h3,?_⟩⟩
  · have g0:=h.idx default hk0 hlt (j:=0) rfl
    have g1:=h.idx default hk0 hlt (j:=1) rfl
    have g2:=h.idx default hk0 hlt (j:=2) rfl
    refine ⟨fun hq=>cell_p g0 (pIdx_none.2 hq),hk0,hlt,cell_p g0,_,g0,_,g1,_,g2,fun b6 _=>fun w7 h7=>?_⟩
    refine (ncheck_k (L.getD k.toNat default) w7).mono fun v w8 ⟨e8,hv⟩=>⟨e8,_,hv,fun hne w10 h10=>⟨h10,?_⟩,fun he=>⟨i64 (by omega),⟨rfl,by omega,by omega,fun i hi=>?_⟩,by simp only []; omega⟩⟩
    · have hno:¬ okN (L.getD k.toNat default):=fun h=>hne (errN_ok.2 h)
      rw [errN_no hno]
      congr 1
      exact (if_neg fun hx=>hno (hx _ (getD_mem L default (by omega)))).symm
    · by_cases hik:(i:Int) < k
      · exact hall i hik
      · obtain rfl:i = k.toNat:=by omega
        exact errN_ok.1 he
  · congr 1
    refine (errNs_ok.2 fun x hx=>?_).symm
    obtain ⟨i,hi,rfl⟩:=List.getElem_of_mem hx
    have:=hall i (by omega)
    simpa [List.getD_eq_getElem?_getD,hi] using this
theorem nchecks2 (a b:Nd) {ns:List Nat} {w:World} {K:Int->World->Prop} (hk:∀ w',Ext w w'->K (if okN a/\okN b then 0 else 4) w') :
    ∀ w3,ExtB [] ns w w3->Run Tryz.prog (.buildSlice T_sl_Need 2 [(0,nv a),(1,nv b)]) w3 fun v4 w4=>Ext w3 w4/\∃ t5:Option Addr,∃ tl6:Nat,∃ tc7:Nat,v4 = .slice t5 tl6 tc7 /\
      ∀ w8,Ext w4 w8->FnP Tryz.prog F_need_checks #[.slice t5 tl6 tc7] w8 fun v9 w9=>Ext w8 w9/\∃ t10:Int,v9 = .int .i64 t10/\K t10 w4:=by
  intro w3 x3
  refine run_lit elem_sl_Need [nv a,nv b] rfl rfl (by intro v hv; simp at hv; rcases hv with rfl | rfl <;> rfl) (by omega) (by omega) fun w4 o4 e4=>⟨e4,_,_,_,rfl,fun w8 h8=>?_⟩
  have o8:=(o4 0 (Nat.zero_le _)).ext h8
  have hL:NdsAt w8 (some ⟨w3.heap.size,0,none⟩) [a,b]:=Own.recs (enc:=encN) (xs:=[a,b]) o8 fun _ _=>rfl
  refine (nchecks_k _ 2 [a,b] (by simp) w8 hL).mono fun v w9 ⟨e9,hv⟩=>⟨e9,_,hv,?_⟩
  have:errNs [a,b] = if okN a/\okN b then 0 else 4:=by
    unfold errNs; simp
  rw [this]
  exact hk w4 ((extB_ext x3).trans e4)
theorem nfits_k (a b:Nd) (w:World):FnP Tryz.prog F_need_fits #[nv a,nv b] w fun v w'=>Ext w w'/\v = .bool (decide (fitN a b)):=by
  refine ok_need_fits a.c a.m a.g b.c b.m b.g w _ fun b0 _ b1 _ w2 h2=>⟨h2,?_⟩
  congr 1
  unfold fitN
  by_cases h1:a.c <= b.c <;> by_cases h2:a.m <= b.m <;> by_cases h3:a.g <= b.g <;> simp [h1,h2,h3]
theorem nFits_k (a b:Nd) (w:World):FnP Tryz.prog F_need_Fits #[nv a,nv b] w fun v w'=>Ext w w'/\∃ t e,v = .tuple #[.bool t,.int .i64 e]/\((okN a/\okN b/\e = 0/\t = decide (fitN a b))\/(¬ (okN a/\okN b)/\e = 4/\t = false)):=by
  refine ok_need_Fits a.c a.m a.g b.c b.m b.g w _ fun b0 hb0 b1 hb1=>?_
  refine nchecks2 a b fun w3 e3=>?_
  by_cases hok:okN a/\okN b
  · rw [if_pos hok]
    refine ⟨fun h=>absurd rfl h,fun _ w10 h10=>(nfits_k a b w10).mono fun v w11 ⟨e11,hv⟩=>⟨e11,_,hv,fun w13 h13=>⟨e3.trans h13,_,_,rfl,.inl ⟨hok.1,hok.2,rfl,rfl⟩⟩⟩⟩
  · rw [if_neg hok]
    exact ⟨fun _ w10 h10=>⟨e3.trans h10,_,_,rfl,.inr ⟨hok,rfl,rfl⟩⟩,fun h=>by omega⟩
theorem nAdd_k (a b:Nd) (w:World):FnP Tryz.prog F_need_Add #[nv a,nv b] w fun v w'=>Ext w w'/\∃ s e,v = .tuple #[nv s,.int .i64 e] /\
    ((okN a/\okN b/\okN (addN a b)/\e = 0/\s = addN a b)\/(¬ (okN a/\okN b)/\e = 4/\s = zeroN)\/(okN a/\okN b/\¬ okN (addN a b)/\e = 2/\s = zeroN)):=by
  refine ok_need_Add a.c a.m a.g b.c b.m b.g w _ fun b0 hb0 b1 hb1 b2 hb2=>?_
  refine nchecks2 a b fun w4 e4=>?_
  by_cases hok:okN a/\okN b
  · rw [if_pos hok]
    obtain ⟨⟨a1,a2,a3⟩,⟨c1,c2,c3⟩⟩:=id hok
    refine ⟨fun h=>absurd rfl h,fun _=>⟨i64 (by omega),i64 (by omega),i64 (by omega),fun b11 _ w12 h12=>?_⟩⟩
    refine (ncheck_k (addN a b) w12).mono fun v w13 ⟨e13,hv⟩=>⟨e13,_,hv,fun hne w15 x15=>⟨extB1 x15 e4 hb2,zeroN,_,rfl,.inr (.inr ⟨hok.1,hok.2,fun h=>hne (errN_ok.2 h),rfl,rfl⟩)⟩,fun he w15 x15=>⟨extB1 x15 e4 hb2,addN a b,_,rfl,.inl ⟨hok.1,hok.2,errN_ok.1 he,rfl,rfl⟩⟩⟩
  · rw [if_neg hok]
    exact ⟨fun _ w11 x11=>⟨extB1 x11 e4 hb2,zeroN,_,rfl,.inr (.inl ⟨hok,rfl,rfl⟩)⟩,fun h=>by omega⟩
theorem nSub_k (a b:Nd) (w:World):FnP Tryz.prog F_need_Sub #[nv a,nv b] w fun v w'=>Ext w w'/\∃ s e,v = .tuple #[nv s,.int .i64 e] /\
    ((okN a/\okN b/\fitN b a/\e = 0/\s = subN a b)\/(¬ (okN a/\okN b)/\e = 4/\s = zeroN)\/(okN a/\okN b/\¬ fitN b a/\e = 10/\s = zeroN)):=by
  refine ok_need_Sub a.c a.m a.g b.c b.m b.g w _ fun b0 hb0 b1 hb1 b2 hb2=>?_
  refine nchecks2 a b fun w4 e4=>?_
  by_cases hok:okN a/\okN b
  · rw [if_pos hok]
    obtain ⟨⟨a1,a2,a3⟩,⟨c1,c2,c3⟩⟩:=id hok
    refine ⟨fun h=>absurd rfl h,fun _ w11 h11=>?_⟩
    refine (nfits_k b a w11).mono fun v w12 ⟨e12,hv⟩=>⟨e12,_,hv,fun hf w14 x14=>⟨extB1 x14 e4 hb2,zeroN,_,rfl,.inr (.inr ⟨hok.1,hok.2,by simpa using hf,rfl,rfl⟩)⟩,fun hf=>⟨i64 (by omega),i64 (by omega),i64 (by omega),fun w14 x14=>⟨extB1 x14 e4 hb2,subN a b,_,rfl,.inl ⟨hok.1,hok.2,by simpa using hf,rfl,rfl⟩⟩⟩⟩
  · rw [if_neg hok]
    exact ⟨fun _ w11 x11=>⟨extB1 x11 e4 hb2,zeroN,_,rfl,.inr (.inl ⟨hok,rfl,rfl⟩)⟩,fun h=>by omega⟩
end Go.Proofs.YtegephkpdlopaaaGreatDoor
set_option linter.unusedVariables false
set_option linter.unusedSimpArgs false
namespace Go.Sx
open Go.RowKit
variable {P:Program}
def FlatV (P:Program) (t:TypeId) (v:Value):Prop :=
  match P.underlying t with
  | some (.int k) => ∃ a,v = .int k a
  | some .string => ∃ s,v = .string s
  | some .bool => ∃ b,v = .bool b
  | _ => False
theorem part_flat {t:TypeId} {v:Value} (h:FlatV P t v) {xs:Array Value} {off:Nat} (hx:xs[off]? = some v) (w:World):(part t xs off).run P w = .ok v w:=by
  unfold FlatV at h
  split at h
  · rename_i h1; simp [part,isAgg,run_underlying h1,hx]
  · rename_i h1; simp [part,isAgg,run_underlying h1,hx]
  · rename_i h1; simp [part,isAgg,run_underlying h1,hx]
  · exact h.elim
theorem eq_flat {t:TypeId} {u v:Value} (hu:FlatV P t u) (hv:FlatV P t v) (d:Nat) (w:World):∃ b:Bool,(Op.equalIn (d + 1) t u v).run P w = .ok b w/\(b = true ↔ u = v):=by
  unfold FlatV at hu hv
  split at hu
  · rename_i k h1
    rw [h1] at hv
    obtain ⟨a,rfl⟩:=hu
    obtain ⟨b,rfl⟩:=hv
    exact ⟨_,run_equalIn_int w d _ _ _ _ _ h1,by simp⟩
  · rename_i h1
    rw [h1] at hv
    obtain ⟨a,rfl⟩:=hu
    obtain ⟨b,rfl⟩:=hv
    exact ⟨_,run_equalIn_string w d _ _ _ h1,by rw [ba_eq]; simp⟩
  · rename_i h1
    rw [h1] at hv
    obtain ⟨a,rfl⟩:=hu
    obtain ⟨b,rfl⟩:=hv
    exact ⟨_,run_equalIn_bool w d _ _ _ h1,by simp⟩
  · exact hu.elim
theorem eqFields_flat (xs ys:List Value) (w:World) (he:xs.length = ys.length):∀ (fs:List Field) (off:Nat),off + fs.length = xs.length ->
    fs.map (fun f => (f.name != "_", f.offset)) = (List.range' off fs.length).map (fun i => (true, i)) -> (∀ (i : Nat) f, fs[i]? = some f -> ∀ u v, xs[off + i]? = some u -> ys[off + i]? = some v -> FlatV P f.type u /\ FlatV P f.type v) ->
    ∃ b:Bool,(Op.eqFields 9999 xs.toArray ys.toArray fs).run P w = .ok b w/\(b = true ↔ xs.drop off = ys.drop off)
  | [],off,hl,_,_ => by
    simp only [List.length_nil,Nat.add_zero] at hl
    rw [List.drop_of_length_le (by omega),List.drop_of_length_le (by omega)]
    exact ⟨true,by simp [Op.eqFields],by simp⟩
  | f :: fs,off,hl,hf,hfl => by
    rw [List.length_cons,List.range'_succ,List.map_cons,List.map_cons,List.cons.injEq,Prod.mk.injEq] at hf
    obtain ⟨⟨n1,o1⟩,hr⟩:=hf
    have h1:off < xs.length:=by simp only [List.length_cons] at hl; omega
    have h2:off < ys.length:=he ▸ h1
    have n1 : f.name ≠ "_" := by simpa using n1
    obtain ⟨f1,f2⟩:=hfl 0 f rfl xs[off] ys[off] (by simp [h1]) (by simp [h2])
    have p1:(part f.type xs.toArray f.offset).run P w = .ok xs[off] w:=part_flat f1 (by rw [o1]; simp [h1]) w
    have p2:(part f.type ys.toArray f.offset).run P w = .ok ys[off] w:=part_flat f2 (by rw [o1]; simp [h2]) w
    obtain ⟨b1,q1,hb1⟩:=eq_flat f1 f2 9998 w
    obtain ⟨b2,ih,hb2⟩:=eqFields_flat xs ys w he fs (off + 1) (by simp only [List.length_cons] at hl; omega) hr (fun i g hg u v hu hv=>hfl (i + 1) g (by simpa using hg) u v (by rw [show off + (i + 1) = off + 1 + i by omega]; exact hu) (by rw [show off + (i + 1) = off + 1 + i by omega]; exact hv))
    have d1:xs.drop off = xs[off] :: xs.drop (off + 1):=List.drop_eq_getElem_cons h1
    have d2:ys.drop off = ys[off] :: ys.drop (off + 1):=List.drop_eq_getElem_cons h2
    refine ⟨b1 && b2,?_,?_⟩
    · simp only [Op.eqFields,n1,ne_eq,not_false_eq_true,if_true,Sem.run_bind,p1,p2,q1,Result.andThen_ok,Sem.run_ite,Sem.run_pure]
      cases b1 with
      | true => simp [ih]
      | false => simp
    · rw [d1,d2,List.cons.injEq,Bool.and_eq_true,hb1,hb2]
theorem equalIn_flat {t:TypeId} (ht:P.underlying t = some (.struct (P.fieldsOf t))) (hp:P.stoodInHeld t = false)
    (xs ys : List Value) {n : Nat} (hf : (P.fieldsOf t).toList.map (fun f => (f.name != "_", f.offset)) = (List.range' 0 n).map (fun i => (true, i))) (hx : xs.length = n) (hy : ys.length = n)
    (hfl:∀ (i:Nat) f,(P.fieldsOf t).toList[i]? = some f->∀ u v,xs[i]? = some u->ys[i]? = some v->FlatV P f.type u/\FlatV P f.type v) (w:World) :
    ∃ b:Bool,(Op.equalIn 10000 t (.agg xs.toArray) (.agg ys.toArray)).run P w = .ok b w/\(b = true ↔ xs = ys):=by
  have hn:(P.fieldsOf t).toList.length = n:=by simpa using congrArg List.length hf
  obtain ⟨b,h1,h2⟩:=eqFields_flat xs ys w (by omega) (P.fieldsOf t).toList 0 (by omega) (by rw [hn]; exact hf) (by simpa using hfl)
  rw [run_equalIn_struct w 9999 t _ _ ht hp]
  exact ⟨b,h1,by simpa using h2⟩
theorem run_eqF {op:BinOp} {t:TypeId} {n:Nat} (ht:P.underlying t = some (.struct (P.fieldsOf t))) (hp:P.stoodInHeld t = false) (hm:P.eqGuardType P.depth t = false)
    (hf : (P.fieldsOf t).toList.map (fun f => (f.name != "_", f.offset)) = (List.range' 0 n).map (fun i => (true, i))) (xs ys : List Value) (hx : xs.length = n) (hy : ys.length = n)
    (us:List (Option TypeDesc)) (hu:(P.fieldsOf t).toList.map (fun f=>P.underlying f.type) = us) (hfl:∀ (i:Nat) o,us[i]? = some o->∀ u v,xs[i]? = some u->ys[i]? = some v ->
      match o with | some (.int k)=>(∃ a,u = .int k a)/\∃ a,v = .int k a | some .string=>(∃ a,u = .string a)/\∃ a,v = .string a | some .bool=>(∃ a,u = .bool a)/\∃ a,v = .bool a | _=>False)
    {cx cy:Bool} {w:World} {K:Value->World->Prop} (hop:op = .eql\/op = .neq) (hk:∀ b:Bool,(b = true ↔ if op = .eql then xs = ys else xs ≠ ys)->K (.bool b) w):Run P (.eq op t cx cy (.agg xs.toArray) (.agg ys.toArray)) w K:=by
  obtain ⟨b,h1,h2⟩:=equalIn_flat ht hp xs ys hf hx hy (fun i f hfi u v hxi hyi=>by
    have:=hfl i (P.underlying f.type) (by rw [<- hu,List.getElem?_map,hfi]; rfl) u v hxi hyi
    unfold FlatV
    cases ho:P.underlying f.type with
    | none => rw [ho] at this; exact this.elim
    | some ty => rw [ho] at this; cases ty <;> simp_all) w
  rcases hop with rfl | rfl
  · refine ⟨_,w,?_,hk b (by simpa using h2)⟩
    show (do eqGuard .eql t _ _ (.agg xs.toArray) (.agg ys.toArray); binOp .eql t (.agg xs.toArray) (.agg ys.toArray):Sem Value).run P w = _
    rw [Sem.run_bind,run_eqGuard_agg w _ _ _ _ _ _ hm,Result.andThen_ok,run_eql_struct,h1]
    rfl
  · refine ⟨_,w,?_,hk (!b) (by rw [if_neg (by simp)]; cases b <;> simp_all)⟩
    show (do eqGuard .neq t _ _ (.agg xs.toArray) (.agg ys.toArray); binOp .neq t (.agg xs.toArray) (.agg ys.toArray):Sem Value).run P w = _
    rw [Sem.run_bind,run_eqGuard_agg w _ _ _ _ _ _ hm,Result.andThen_ok,run_neq_struct,h1]
    rfl
end Go.Sx
set_option linter.unusedVariables false
set_option linter.unusedSimpArgs false
namespace Go.Proofs.YtegephkpdlopaaaGreatDoor
open Go.Sx Go.RowKit
def HtOk (h:Ht):Prop:=h.name.size <= 9223372036854775807/\h.labels.length <= 9223372036854775807/\∀ l ∈ h.labels,l.key.size <= 9223372036854775807/\l.val.size <= 9223372036854775807
def HsAt (w:World) (p:Option Addr) (L:List Ht):Prop:=∀ (i:Nat) (h:Ht),L[i]? = some h->∃ q c,(∀ (j:Nat) u,(encH h q c)[j]? = some u->Go.Sx.cell w p (i * 8 + j) = some u)/\Lbs w q h.labels
theorem HsAt.ext {w w':World} {p:Option Addr} {L:List Ht} (h:HsAt w p L) (he:Ext w w'):HsAt w' p L:=fun i x hx=>by
  obtain ⟨q,c,h1,h2⟩:=h i x hx
  exact ⟨q,c,fun j u hu=>ext_cell he (h1 j u hu),h2.ext he⟩
theorem HsAt.at {w:World} {p:Option Addr} {L:List Ht} (h:HsAt w p L) {k:Int} (h0:0 <= k) (hk:k < L.length):∃ q c,p ≠ none/\pIdx p k 8 ≠ none/\(∀ (j:Nat) u,(encH (L.getD k.toNat default) q c)[j]? = some u->Go.Sx.cell w (pIdx p k 8) j = some u)/\Lbs w q (L.getD k.toNat default).labels:=by
  obtain ⟨q,c,h1,h2⟩:=h k.toNat _ (getElem?_getD L default (by omega))
  have g:∀ (j:Nat) u,(encH (L.getD k.toNat default) q c)[j]? = some u->Go.Sx.cell w (pIdx p k 8) j = some u:=fun j u hu=>by rw [cell_pIdx]; exact h1 j u hu
  have g0:=g 0 _ rfl
  exact ⟨q,c,fun hq=>cell_p g0 (pIdx_none.2 hq),cell_p g0,g,h2⟩
def okLb (l:List Lb):Prop:=(∀ x ∈ l,lbB x.key = true/\lbB x.val = true)/\(l.map (·.key)).Nodup
def okH1 (h:Ht):Prop:=lbB h.name = true/\h.labels.length <= 8/\okLb h.labels/\okN h.has/\okN h.used/\fitN h.used h.has
def okHs (L:List Ht):Prop:=L.length <= 30/\(∀ h ∈ L,okH1 h)/\(L.map (·.name)).Nodup
def SetIs (w:World) (r:Nat) (S:List ByteArray):Prop:=∃ m:List (ByteArray × Value),MapIs Value.string w r m/\∀ a,(a ∈ S/\mget m a = some (.bool true))\/(a ∉ S/\mget m a = none)
theorem SetIs.ext {w w':World} {r:Nat} {S:List ByteArray} (h:SetIs w r S) (he:Ext w w'):SetIs w' r S:=by
  obtain ⟨m,h1,h2⟩:=h
  exact ⟨m,h1.ext he,h2⟩
theorem SetIs.lt {w:World} {r:Nat} {S:List ByteArray} (h:SetIs w r S):r < w.heap.size:=by
  obtain ⟨m,h1,h2⟩:=h
  exact h1.lt
theorem SetIs.grew {w w':World} {r s:Nat} {S:List ByteArray} (h:SetIs w r S) (hr:r ≠ s) (hg:Grew w w' (some ⟨s,0,none⟩) (some ⟨s,0,none⟩)):SetIs w' r S:=by
  obtain ⟨m,h1,h2⟩:=h
  exact ⟨m,h1.grew (fun x hx=>by obtain rfl:=Option.some.inj hx; exact fun he=>hr he.symm) hg,h2⟩
theorem set_mk {w:World} {K:Value->World->Prop} (hk:∀ w',SetIs w' w.heap.size []->Ext w w'->K (.map (some w.heap.size)) w'):Run Tryz.prog (.makeMap T_map_string_bool) w K :=
  run_makeMap (enc:=Value.string) fun w' h e=>hk w' ⟨[],h,fun a=>.inr ⟨by simp,rfl⟩⟩ e
theorem set_look {w:World} {r:Nat} {S:List ByteArray} (h:SetIs w r S) (a:ByteArray) {K:Value->World->Prop} (hk:∀ b:Bool,(b = true ↔ a ∈ S)->K (.bool b) w):Run Tryz.prog (.lookup T_map_string_bool (.map (some r)) (.string a) false) w K:=by
  obtain ⟨m,h1,h2⟩:=h
  obtain ⟨i,hi,hz⟩:∃ i,Tryz.prog.info? T_bool = some i/\i.zero = some (.bool false):=by
    have:(Tryz.prog.info? T_bool).map (·.zero) = some (some (.bool false)):=by kernel_rfl
    obtain ⟨i,h1,h2⟩:=Option.map_eq_some_iff.1 this
    exact ⟨i,h1,h2⟩
  refine run_lookup (enc:=Value.string) (keyT_str (k:=T_string) (by kernel_rfl)) (e:=T_bool) (by kernel_rfl) hi hz h1 ?_
  rcases h2 a with ⟨h3,h4⟩ | ⟨h3,h4⟩
  · rw [h4]; exact hk true ⟨fun _=>h3,fun _=>rfl⟩
  · rw [h4]; exact hk false ⟨fun h=>(by cases h),fun h=>absurd h h3⟩
theorem set_put {w:World} {r:Nat} {S:List ByteArray} (h:SetIs w r S) (a:ByteArray) {K:Value->World->Prop} (hk:∀ w',SetIs w' r (S ++ [a])->Grew w w' (some ⟨r,0,none⟩) (some ⟨r,0,none⟩)->K undef w'):Run Tryz.prog (.mapUpdate T_map_string_bool (.map (some r)) (.string a) (.bool true)) w K:=by
  obtain ⟨m,h1,h2⟩:=h
  refine run_mapUpdate (enc:=Value.string) (keyT_str (k:=T_string) (by kernel_rfl)) (e:=T_bool) (by kernel_rfl) h1 fun w' h3 h4=>hk w' ⟨_,h3,fun b=>?_⟩ h4
  rw [mget_mset]
  by_cases hab:a = b
  · subst hab; exact .inl ⟨by simp,by simp⟩
  · have:b ≠ a:=fun h=>hab h.symm
    rw [if_neg hab]
    rcases h2 b with ⟨h5,h6⟩ | ⟨h5,h6⟩
    · exact .inl ⟨List.mem_append_left _ h5,h6⟩
    · exact .inr ⟨fun h=>by rcases List.mem_append.1 h with h | h; exact h5 h; exact this (by simpa using h),h6⟩
theorem nodup_take {α:Type} {l:List α} (h:l.Nodup) (k:Nat) {x:α} (hx:l[k]? = some x):x ∉ l.take k:=by
  intro hm
  obtain ⟨j,hj,he⟩:=List.getElem_of_mem hm
  rw [List.length_take] at hj
  rw [List.getElem_take] at he
  have h1:l[j]? = some x:=by rw [List.getElem?_eq_getElem (by omega),he]
  have:=(List.getElem?_inj (by omega) h).1 (h1.trans hx.symm)
  omega
theorem nodup_of_takes {α:Type}:∀ {l:List α},(∀ (k:Nat) x,l[k]? = some x->x ∉ l.take k)->l.Nodup:=by
  intro l h
  rw [List.nodup_iff_pairwise_ne,List.pairwise_iff_getElem]
  intro i j hi hj hij he
  refine h j _ (List.getElem?_eq_getElem hj) ?_
  rw [List.mem_iff_getElem]
  exact ⟨i,by simp; omega,by simp [he]⟩
theorem map_take_succ {α β:Type} (f:α->β) {l:List α} (d:α) {k:Nat} (h:k < l.length):(l.take (k + 1)).map f = (l.take k).map f ++ [f (l.getD k d)]:=by
  rw [List.take_add_one,getElem?_getD l d h]; simp
theorem hcheck_k (p:Option Addr) (c:Nat) (L:List Ht) (h63:(L.length:Int) <= 9223372036854775807) (hO:∀ h ∈ L,HtOk h) (w:World) (hL:HsAt w p L) :
    FnP Tryz.prog F_host_Check #[.slice p L.length c] w fun v w'=>Ext w w'/\∃ e:Int,v = .int .i64 e/\(e = 0 ↔ okHs L)/\e ≠ 5/\(∀ h r,L = h :: r->lbB h.name = false->L.length <= 30->e = 3):=by
  refine ok_host_Check p L.length c w _ ⟨fun hgt w0 h0=>⟨h0,2,rfl,⟨fun h=>by omega,fun h=>by have:=h.1; omega⟩,by omega,fun h r _ _ hl=>by omega⟩,fun hle w0 h0=>?_⟩
  refine set_mk fun w1 S1 e1=>⟨e1,_,rfl,?_⟩
  generalize hr1:w0.heap.size = r1 at S1
  have x1:=h0.trans e1
  have hw1:w.heap.size <= r1:=by have:=h0.size; omega
  refine ⟨fun k w'=>Ext w w'/\0 <= k/\k <= L.length/\SetIs w' r1 ((L.take k.toNat).map (·.name))/\(∀ j:Nat,(j:Int) < k->okH1 (L.getD j default))/\(∀ j:Nat,(j:Int) < k->(L.getD j default).name ∉ (L.take j).map (·.name)),fun k _=>(L.length - k).toNat,⟨x1,by omega,by omega,S1,fun j hj=>by omega,fun j hj=>by omega⟩,?_⟩
  rintro k w5 ⟨x5,hk0,hk1,S5,hok,hdist⟩
  have fin:∀ {e:Int} {w':World},Ext w w'->(e ≠ 0->¬ okHs L)->e ≠ 0->e ≠ 5->(∀ h r,L = h :: r->lbB h.name = false->L.length <= 30->e = 3)->Ext w w'/\∃ e':Int,Value.int .i64 e = .int .i64 e'/\(e' = 0 ↔ okHs L)/\e' ≠ 5/\(∀ h r,L = h :: r->lbB h.name = false->L.length <= 30->e' = 3):=fun hx h1 h2 h3 h4=>⟨hx,_,rfl,⟨fun h=>absurd h h2,fun h=>absurd h (h1 h2)⟩,h3,h4⟩
  refine ⟨fun hlt=>?_,fun hge w6 h6=>⟨x5.trans h6,0,rfl,⟨fun _=>⟨by omega,fun h hh=>?_,?_⟩,fun _=>rfl⟩,by omega,fun h r he hf _=>?_⟩⟩
  · obtain ⟨q,d,hp,hp8,g',hLb⟩:=hL.at hk0 hlt
    have hm:=getD_mem L default (i:=k.toNat) (by omega)
    have hOk:=hO _ hm
    generalize hHd:L.getD k.toNat default = H at g' hLb hm hOk
    have g:∀ (j:Nat) u,(encH H q d)[j]? = some u->Go.Sx.cell w5 (pIdx p k 8) j = some u:=fun j u hu=>ext_cell x5 (g' j u hu)
    obtain ⟨ho1,ho2,ho3⟩:=hOk
    have hnot:∀ (P:Ht->Prop),(∀ h ∈ L,P h)->P H:=fun P h=>h H hm
    have first:lbB H.name = true->∀ h r,L = h :: r->lbB h.name = false->(k:Int) ≠ 0\/False:=fun hn h r he hf=>by
      refine .inl fun hz=>?_
      have:H = h:=by rw [<- hHd,he,hz]; rfl
      rw [this,hf] at hn; cases hn
    have nofirst:lbB H.name = true->∀ (e:Int) h r,L = h :: r->lbB h.name = false->L.length <= 30->e = 3:=fun hn e h r he hf _=>by
      exfalso
      by_cases hz:k = 0
      · have:H = h:=by rw [<- hHd,he,hz]; rfl
        rw [this,hf] at hn; cases hn
      · have h0':=(hok 0 (by omega)).1
        have:L.getD 0 default = h:=by rw [he]; rfl
        rw [this,hf] at h0'; cases h0'
    refine ⟨hp,hk0,hlt,hp8,_,g 0 _ rfl,_,_,_,g 1 _ rfl,_,g 2 _ rfl,_,g 3 _ rfl,_,g 4 _ rfl,_,g 5 _ rfl,_,g 6 _ rfl,_,g 7 _ rfl,fun b16 hb16=>?_⟩
    refine ⟨fun w'=>w' = w5/\lbB H.name = true/\H.name ∉ (L.take k.toNat).map (·.name)/\H.labels.length <= 8,fun w19 h19=>?_,?_⟩
    · refine (Label_k H.name ho1 w19).mono fun v w20 ⟨e20,hv⟩=>⟨e20,_,hv,fun hf w22 h22=>fin (x5.trans h22) (fun _ ho=>by have:=(ho.2.1 H hm).1; rw [hf] at this; cases this) (by omega) (by omega) (fun _ _ _ _ _=>rfl),fun hn w22 h22=>?_⟩
      refine set_look (S5.ext h22) H.name fun b hb=>⟨Ext.refl _,b,rfl,fun hin w25 h25=>fin (x5.trans h25) (fun _ ho=>?_) (by omega) (by omega) (nofirst hn 6),fun hnin=>⟨fun h8 w25 h25=>fin (x5.trans h25) (fun _ ho=>by have:=(ho.2.1 H hm).2.1; omega) (by omega) (by omega) (nofirst hn 2),fun h8=>⟨rfl,hn,(fun hm=>by rw [hb.2 hm] at hnin; cases hnin),by omega⟩⟩⟩
      have hin:H.name ∈ (L.take k.toNat).map (·.name):=hb.1 hin
      have hx:(L.map (·.name))[k.toNat]? = some H.name:=by rw [List.getElem?_map,getElem?_getD L default (by omega),hHd]; rfl
      refine nodup_take ho.2.2 k.toNat hx ?_
      rwa [<- List.map_take]
    rintro w5 ⟨rfl,hn,hnin,h8⟩ w19 x19
    have h19:=extB_ext x19
    have hb19:b16 < w19.heap.size:=x19.lt b16 (by simp)
    have hr5:=S5.lt
    refine set_put (S5.ext h19) H.name fun w20 S20 g20=>⟨fun b hb=>?_,fun w21 x21=>?_⟩
    · simp at hb; subst hb
      refine g20.by_.block b hb19 fun he=>?_
      simp [blk] at he; omega
    have x20:Ext w w20:=g20.below (x5.trans h19) (x5.trans h19).size (fun a ha=>by obtain rfl:=Option.some.inj ha; exact hw1)
    have h21:=extB_ext x21
    refine set_mk fun w22 S22 e22=>⟨e22,_,rfl,?_⟩
    have hr21:r1 < w21.heap.size:=by have:=S20.lt; have:=h21.size; omega
    generalize hr2:w21.heap.size = r2 at S22 hr21
    have x22:=(x20.trans h21).trans e22
    have hb16r:b16 < r2:=by have:=g20.size; have:=h21.size; omega
    refine ⟨fun j w'=>Ext w w'/\0 <= j/\j <= H.labels.length/\SetIs w' r1 ((L.take k.toNat).map (·.name) ++ [H.name])/\SetIs w' r2 ((H.labels.take j.toNat).map (·.key))/\(∀ i:Nat,(i:Int) < j->lbB (H.labels.getD i default).key = true/\lbB (H.labels.getD i default).val = true)/\(∀ i:Nat,(i:Int) < j->(H.labels.getD i default).key ∉ (H.labels.take i).map (·.key)),fun j _=>(H.labels.length - j).toNat,⟨x22,by omega,by omega,(S20.ext h21).ext e22,S22,fun i hi=>by omega,fun i hi=>by omega⟩,?_⟩
    rintro j w26 ⟨x26,hj0,hj1,Sa,Sb,hlab,hldist⟩
    refine ⟨fun hjl=>?_,fun hjg w27 h27=>?_⟩
    · have hLb6:=hLb.ext x26
      have l0:=hLb6.idx default hj0 hjl (j:=0) rfl
      have l1:=hLb6.idx default hj0 hjl (j:=1) rfl
      have hlm:=getD_mem H.labels default (i:=j.toNat) (by omega)
      have hls:=ho3 _ hlm
      generalize hld:H.labels.getD j.toNat default = lb at l0 l1 hlm hls
      refine ⟨fun hq=>cell_p l0 (pIdx_none.2 hq),hj0,hjl,cell_p l0,_,l0,_,l1,fun b29 hb29=>?_⟩
      refine ⟨fun w'=>w' = w26/\lbB lb.key = true/\lbB lb.val = true/\lb.key ∉ (H.labels.take j.toNat).map (·.key),fun w32 h32=>?_,?_⟩
      · refine (Label_k lb.key hls.1 w32).mono fun v w33 ⟨e33,hv⟩=>⟨e33,_,hv,fun hf w35 h35=>fin (x26.trans h35) (fun _ ho=>by have:=((ho.2.1 H hm).2.2.1.1 lb hlm).1; rw [hf] at this; cases this) (by omega) (by omega) (fun _ _ _ _ _=>rfl),fun hkt w35 h35=>?_⟩
        refine (Label_k lb.val hls.2 w35).mono fun v w36 ⟨e36,hv⟩=>⟨e36,_,hv,fun hf w38 h38=>fin (x26.trans h38) (fun _ ho=>by have:=((ho.2.1 H hm).2.2.1.1 lb hlm).2; rw [hf] at this; cases this) (by omega) (by omega) (fun _ _ _ _ _=>rfl),fun hvt w38 h38=>?_⟩
        refine set_look (Sb.ext h38) lb.key fun b hb=>⟨Ext.refl _,b,rfl,fun hin w41 h41=>fin (x26.trans h41) (fun _ ho=>?_) (by omega) (by omega) (nofirst hn 6),fun hnin=>⟨rfl,hkt,hvt,fun hm=>by rw [hb.2 hm] at hnin; cases hnin⟩⟩
        have hin:lb.key ∈ (H.labels.take j.toNat).map (·.key):=hb.1 hin
        have hx:(H.labels.map (·.key))[j.toNat]? = some lb.key:=by rw [List.getElem?_map,getElem?_getD H.labels default (by omega),hld]; rfl
        refine nodup_take (ho.2.1 H hm).2.2.1.2 j.toNat hx ?_
        rwa [<- List.map_take]
      rintro w26 ⟨rfl,hkt,hvt,hknin⟩ w32 x32
      have h32:=extB_ext x32
      refine set_put (Sb.ext h32) lb.key fun w33 S33 g33=>⟨fun b hb=>?_,i64 (by omega),⟨?_,by omega,by omega,?_,?_,fun i hi=>?_,fun i hi=>?_⟩,by simp only []; omega⟩
      · have hlt':=x32.lt b hb
        refine g33.by_.block b hlt' fun he=>?_
        simp [blk] at he
        simp at hb
        have:=Sb.lt
        rcases hb with rfl | rfl <;> omega
      · exact g33.below (x26.trans h32) (x26.trans h32).size (fun a ha=>by obtain rfl:=Option.some.inj ha; show w.heap.size <= r2; omega)
      · exact (Sa.ext h32).grew (by omega) g33
      · rw [show (j + 1).toNat = j.toNat + 1 by omega,map_take_succ (fun x:Lb=>x.key) default (by omega),hld]; exact S33
      · by_cases hij:(i:Int) < j
        · exact hlab i hij
        · obtain rfl:i = j.toNat:=by omega
          rw [hld]; exact ⟨hkt,hvt⟩
      · by_cases hij:(i:Int) < j
        · exact hldist i hij
        · obtain rfl:i = j.toNat:=by omega
          rw [hld]; exact hknin
    · have hL1:okLb H.labels:=⟨fun x hx=>by
        obtain ⟨i,hi,rfl⟩:=List.getElem_of_mem hx
        have:=hlab i (by omega)
        simpa [List.getD_eq_getElem?_getD,hi] using this,nodup_of_takes fun i x hx=>by
        have hi:i < H.labels.length:=by
          have:=(List.getElem?_eq_some_iff.1 hx).1
          simpa using this
        rw [List.getElem?_map,getElem?_getD H.labels default hi] at hx
        have hx:(H.labels.getD i default).key = x:=by simpa using hx
        rw [<- hx,<- List.map_take]
        exact hldist i (by omega)⟩
      refine (nFits_k H.used H.has w27).mono fun v w28 ⟨e28,t,e,hv,ht⟩=>⟨e28,_,_,hv,fun w31 h31=>?_⟩
      refine (ncheck_k H.has w31).mono fun v w32 ⟨e32,hv⟩=>⟨e32,_,hv,?_⟩
      refine ⟨fun w'=>w' = w26/\okN H.has/\okN H.used/\fitN H.used H.has,⟨fun hne w36 h36=>?_,fun he0=>⟨fun hne w36 h36=>?_,fun he=>⟨fun hf w36 h36=>?_,fun htt=>?_⟩⟩⟩,?_⟩
      · have hno:¬ okN H.has:=fun h=>hne (errN_ok.2 h)
        rw [errN_no hno]
        exact fin (x26.trans h36) (fun _ ho=>hno (ho.2.1 H hm).2.2.2.1) (by omega) (by omega) (nofirst hn 4)
      · rcases ht with ⟨_,_,rfl,_⟩ | ⟨hno,rfl,_⟩
        · exact absurd rfl hne
        · exact fin (x26.trans h36) (fun _ ho=>hno ⟨(ho.2.1 H hm).2.2.2.2.1,(ho.2.1 H hm).2.2.2.1⟩) (by omega) (by omega) (nofirst hn 4)
      · rcases ht with ⟨_,_,_,rfl⟩ | ⟨_,rfl,_⟩
        · exact fin (x26.trans h36) (fun _ ho=>by have:=(ho.2.1 H hm).2.2.2.2.2; simp [this] at hf) (by omega) (by omega) (nofirst hn 10)
        · omega
      · rcases ht with ⟨h1,h2,_,rfl⟩ | ⟨_,rfl,_⟩
        · exact ⟨rfl,h2,h1,by simpa using htt⟩
        · omega
      · rintro w26 ⟨rfl,ha,hu,hfit⟩
        refine ⟨i64 (by omega),⟨x26,by omega,by omega,?_,fun i hi=>?_,fun i hi=>?_⟩,by simp only []; omega⟩
        · rw [show (k + 1).toNat = k.toNat + 1 by omega,map_take_succ (fun x:Ht=>x.name) default (by omega),hHd]; exact Sa
        · by_cases hik:(i:Int) < k
          · exact hok i hik
          · obtain rfl:i = k.toNat:=by omega
            rw [hHd]; exact ⟨hn,h8,hL1,ha,hu,hfit⟩
        · by_cases hik:(i:Int) < k
          · exact hdist i hik
          · obtain rfl:i = k.toNat:=by omega
            rw [hHd]; exact hnin
  · obtain ⟨i,hi,rfl⟩:=List.getElem_of_mem hh
    have:=hok i (by omega)
    simpa [List.getD_eq_getElem?_getD,hi] using this
  · refine nodup_of_takes fun i x hx=>?_
    have hi:i < L.length:=by
      have:=(List.getElem?_eq_some_iff.1 hx).1
      simpa using this
    rw [List.getElem?_map,getElem?_getD L default hi] at hx
    have hx:(L.getD i default).name = x:=by simpa using hx
    rw [<- hx,<- List.map_take]
    exact hdist i (by omega)
  · exfalso
    have h0':=(hok 0 (by rw [he] at hge; simp at hge; omega)).1
    have:L.getD 0 default = h:=by rw [he]; rfl
    rw [this,hf] at h0'; cases h0'
end Go.Proofs.YtegephkpdlopaaaGreatDoor
set_option linter.unusedVariables false
set_option linter.unusedSimpArgs false
namespace Go.Proofs.YtegephkpdlopaaaGreatDoor
open Go.Sx Go.RowKit
theorem setAt_right (xs:List Value):∀ (vs ys:List Value) (i:Nat),setAt (xs ++ ys) (xs.length + i) vs = xs ++ setAt ys i vs
  | [],ys,i => rfl
  | v :: r,ys,i => by
    simp only [setAt]
    rw [List.set_append_right _ _ (by omega),show xs.length + i - xs.length = i by omega,show xs.length + i + 1 = xs.length + (i + 1) by omega]
    exact setAt_right xs r _ _
theorem setAt_left (ys:List Value):∀ (vs xs:List Value) (i:Nat),i + vs.length <= xs.length->setAt (xs ++ ys) i vs = setAt xs i vs ++ ys
  | [],xs,i,_ => rfl
  | v :: r,xs,i,h => by
    simp only [setAt]
    simp only [List.length_cons] at h
    rw [List.set_append_left _ _ (by omega)]
    exact setAt_left ys r _ _ (by simp; omega)
theorem recs_part {α:Type} {enc:α->List Value} {s:Nat} (hs:∀ x,(enc x).length = s) (L:List α) (i j:Nat) (vs:List Value) (x d:α) (hi:i < L.length) (hj:j + vs.length <= s) (he:setAt (enc (L.getD i d)) j vs = enc x) :
    setAt (L.flatMap enc) (i * s + j) vs = (L.set i x).flatMap enc:=by
  have hd:L.getD i d = L[i]:=by simp [List.getD_eq_getElem?_getD,hi]
  have h1:L = L.take i ++ L[i] :: L.drop (i + 1):=by rw [List.getElem_cons_drop,List.take_append_drop]
  have h2:L.set i x = L.take i ++ x :: L.drop (i + 1):=by
    rw [List.set_eq_take_append_cons_drop,if_pos hi]
  rw [h2]
  conv=>lhs; rw [h1]
  simp only [List.flatMap_append,List.flatMap_cons]
  have hl:((L.take i).flatMap enc).length = i * s:=by rw [recs_len hs,List.length_take,Nat.min_eq_left (by omega)]
  rw [<- hl,setAt_right,setAt_left _ _ _ _ (by rw [hs]; omega),<- hd,he]
structure Hm where
  h:Ht
  q:Option Addr
  d:Nat
instance:Inhabited Hm:=⟨⟨default,none,0⟩⟩
abbrev encM (m:Hm):List Value:=encH m.h m.q m.d
theorem encM_len (m:Hm):(encM m).length = 8:=rfl
theorem encM_one (m:Hm):∀ u ∈ encM m,u.oneCell' = true:=by
  intro u hu
  simp [encM,encH] at hu
  rcases hu with rfl | rfl | rfl | rfl | rfl | rfl | rfl | rfl <;> rfl
theorem hs_ms {w:World} {p:Option Addr} {L:List Ht} (h:HsAt w p L):∃ M:List Hm,M.map (·.h) = L/\Recs 8 encM w p M/\∀ m ∈ M,Lbs w m.q m.h.labels:=by
  have key:∀ n,n <= L.length->∃ M:List Hm,M.map (·.h) = L.take n/\Recs 8 encM w p M/\∀ m ∈ M,Lbs w m.q m.h.labels:=by
    intro n
    induction n with
    | zero => exact fun _ => ⟨[],rfl,fun i x hx => by simp at hx,fun m hm => by simp at hm⟩
    | succ n ih =>
      intro hn
      obtain ⟨M,h1,h2,h3⟩:=ih (by omega)
      have hlen:M.length = n:=by have:=congrArg List.length h1; simp at this; omega
      obtain ⟨q,c,h4,h5⟩:=h n L[n] (List.getElem?_eq_getElem (by omega))
      refine ⟨M ++ [⟨L[n],q,c⟩],by rw [List.map_append,h1,List.take_succ_eq_append_getElem (by omega)]; rfl,fun i x hx j u hu=>?_,fun m hm=>?_⟩
      · by_cases hi:i < n
        · rw [List.getElem?_append_left (by omega)] at hx
          exact h2 i x hx j u hu
        · rw [List.getElem?_append_right (by omega)] at hx
          have:i - M.length = 0:=by
            rcases Nat.eq_zero_or_pos (i - M.length) with h0 | h0
            · exact h0
            · rw [List.getElem?_eq_none (by simp; omega)] at hx; cases hx
          rw [this] at hx
          simp at hx; subst hx
          obtain rfl:i = n:=by omega
          exact h4 j u hu
      · rcases List.mem_append.1 hm with hm | hm
        · exact h3 m hm
        · simp at hm; subst hm; exact h5
  obtain ⟨M,h1,h2⟩:=key L.length (Nat.le_refl _)
  exact ⟨M,by simpa using h1,h2⟩
theorem ms_hs {w:World} {p:Option Addr} {M:List Hm} (h:Recs 8 encM w p M) (hl:∀ m ∈ M,Lbs w m.q m.h.labels):HsAt w p (M.map (·.h)):=fun i x hx=>by
  rw [List.getElem?_map] at hx
  obtain ⟨m,hm,rfl⟩:=Option.map_eq_some_iff.1 hx
  exact ⟨m.q,m.d,fun j u hu=>h i m hm j u hu,hl m (List.mem_of_getElem? hm)⟩
theorem lbs_grew {w w':World} {q p:Option Addr} {l:List Lb} (h:Lbs w q l) (ha:l = []\/Apart q p) (hg:Grew w w' p p):Lbs w' q l:=by
  rcases ha with rfl | ha
  · exact fun i x hx=>by simp at hx
  · intro i x hx j u hu
    have h1:=recs_cells (enc:=encLb) (fun _=>rfl) h
    have h2:=h1.grew ha hg
    have h3:(l.flatMap encLb)[i * 2 + j]? = some u:=by
      have hi:=(List.getElem?_eq_some_iff.1 hx).1
      have hj:j < 2:=(List.getElem?_eq_some_iff.1 hu).1
      have:=recs_drop (enc:=encLb) (s:=2) (fun _=>rfl) l i
      rw [<- List.getElem?_drop,this,List.drop_eq_getElem_cons hi,List.flatMap_cons,List.getElem?_append_left hj]
      rw [(List.getElem?_eq_some_iff.1 hx).2]; exact hu
    exact h2 _ _ h3
theorem CloneL_k (q:Option Addr) (c:Nat) (l:List Lb) (h8:l.length <= 8) (w:World) (h:Lbs w q l) :
    FnP Tryz.prog F_slices_Clone_api_Label_api_Label #[.slice q l.length c] w fun v w'=>Ext w w'/\∃ q' c',v = .slice q' l.length c'/\Lbs w' q' l/\∀ a,q' = some a->w.heap.size <= a.block:=by
  refine ok_slices_Clone_api_Label_api_Label q l.length c w _ ⟨fun hn w0 h0=>?_,fun hn=>?_⟩
  · cases l with
    | nil => exact ⟨h0,none,0,rfl,fun i x hx => by simp at hx,fun a ha => by cases ha⟩
    | cons x r => exact absurd hn (h.ne (List.mem_cons_self ..) (by simp))
  · refine clone_txt (Q:=fun v w'=>Ext w w'/\∃ q' c',v = .slice q' l.length c'/\Lbs w' q' l/\∀ a,q' = some a->w.heap.size <= a.block) elem_sl_Label (by omega) (recs_cells (enc:=encLb) (s:=2) (fun _=>rfl) h) (recs_len (enc:=encLb) (s:=2) (fun _=>rfl) l) (recs_one (fun x u hu=>?_) l) (by omega) (by omega) hn fun p' c' w' hx o=>⟨hx,p',c',rfl,o.recs fun _ _=>rfl,fun a ha=>(o.lt a ha).1⟩
    simp at hu; rcases hu with rfl | rfl <;> rfl
theorem CloneH_k (p:Option Addr) (c:Nat) (M:List Hm) (h30:M.length <= 30) (w:World) (h:Recs 8 encM w p M) :
    FnP Tryz.prog F_slices_Clone_api_Host_api_Host #[.slice p M.length c] w fun v w'=>Ext w w'/\∃ q' c',v = .slice q' M.length c'/\Own w.heap.size w' T_Host 8 q' M.length c' (M.flatMap encM):=by
  refine ok_slices_Clone_api_Host_api_Host p M.length c w _ ⟨fun hn w0 h0=>?_,fun hn=>?_⟩
  · cases M with
    | nil => exact ⟨h0,none,0,rfl,Own.nil⟩
    | cons x r => exact absurd hn (h.ne (List.mem_cons_self ..) (by simp))
  · exact clone_txt (Q:=fun v w'=>Ext w w'/\∃ q' c',v = .slice q' M.length c'/\Own w.heap.size w' T_Host 8 q' M.length c' (M.flatMap encM)) elem_sl_Host (by omega) (recs_cells encM_len h) (recs_len encM_len M) (recs_one encM_one M) (by omega) (by omega) hn fun p' c' w' hx o=>⟨hx,p',c',rfl,o⟩
def LbA (w:World) (p:Option Addr) (m:Hm):Prop:=Lbs w m.q m.h.labels/\(m.h.labels = []\/Apart m.q p)
def LbN (n:Nat) (m:Hm):Prop:=m.h.labels = []\/∀ a,m.q = some a->n <= a.block
def HsS (n:Nat) (w:World) (p:Option Addr) (L:List Ht):Prop:=∀ S:Nat->Prop,(∀ b,S b->b < n)->∀ w'',Fr S w w''->HsAt w'' p L
theorem HsS.at {n:Nat} {w:World} {p:Option Addr} {L:List Ht} (h:HsS n w p L):HsAt w p L:=h (fun _=>False) (fun _ h=>h.elim) w (Fr.refl _ w)
theorem HsS.ext {n:Nat} {w w':World} {p:Option Addr} {L:List Ht} (h:HsS n w p L) (e:Ext w w'):HsS n w' p L:=fun S hS w'' f=>h S hS w'' ((fr_ext e).tr f)
theorem HsS.weak {n m:Nat} {w:World} {p:Option Addr} {L:List Ht} (h:HsS n w p L) (e:m <= n):HsS m w p L:=fun S hS w'' f=>h S (fun b hb=>Nat.lt_of_lt_of_le (hS b hb) e) w'' f
theorem lbs_fr {S:Nat->Prop} {w w':World} {q:Option Addr} {l:List Lb} (h:Lbs w q l) (ha:l = []\/∀ a,q = some a->¬ S a.block) (k:Fr S w w'):Lbs w' q l:=fun i x hx j u hu=>by
  rcases ha with rfl | ha
  · simp at hx
  · exact cell_fr (h i x hx j u hu) k ha
theorem hsS_of {n N c:Nat} {w:World} {p:Option Addr} {M:List Hm} (o:Own n w T_Host 8 p N c (M.flatMap encM)) (hl:∀ m ∈ M,Lbs w m.q m.h.labels) (hn:∀ m ∈ M,LbN n m):HsS n w p (M.map (·.h)):=fun S hS w'' f=>by
  have lt:∀ {a:Option Addr},(∀ y,a = some y->n <= y.block)->∀ y,a = some y->¬ S y.block:=fun h y hy hs=>by
    have:=h y hy
    have:=hS _ hs
    omega
  refine ms_hs ((o.fr f (lt fun y hy=>(o.lt y hy).1)).recs fun _ _=>rfl) fun m hm=>lbs_fr (hl m hm) ?_ f
  rcases hn m hm with h | h
  · exact .inl h
  · exact .inr (lt h)
theorem own_k (p:Option Addr) (c:Nat) (L:List Ht) (h30:L.length <= 30) (h8:∀ h ∈ L,h.labels.length <= 8) (w:World) (hL:HsAt w p L) :
    FnP Tryz.prog F_host_own #[.slice p L.length c] w fun v w'=>Ext w w'/\∃ p' c',∃ M:List Hm,v = .slice p' L.length c'/\M.map (·.h) = L/\Own w.heap.size w' T_Host 8 p' L.length c' (M.flatMap encM)/\(∀ m ∈ M,LbA w' p' m)/\∀ m ∈ M,LbN w.heap.size m:=by
  refine ok_host_own p L.length c w _ fun w0 h0=>?_
  obtain ⟨M0,hM0,hR0,hl0⟩:=hs_ms (hL.ext h0)
  have hlen0:M0.length = L.length:=by rw [<- hM0]; simp
  rw [<- hlen0]
  refine (CloneH_k p c M0 (by omega) w0 hR0).mono fun v w1 ⟨e1,p',c',hv,o1⟩=>⟨e1,p',M0.length,c',hv,?_⟩
  have lt0:∀ m ∈ M0,LbA w1 p' m:=fun m hm=>⟨(hl0 m hm).ext e1,by
    cases hlb:m.h.labels with
    | nil => exact .inl rfl
    | cons x r =>
      refine .inr fun a b ha hb=>?_
      have:=(hl0 m hm).lt (x:=x) (by rw [hlb]; exact List.mem_cons_self ..) (by simp) a ha
      have:=(o1.lt b hb).1
      omega⟩
  refine ⟨fun k w'=>Ext w w'/\0 <= k/\k <= M0.length/\∃ M:List Hm,M.map (·.h) = L/\Own w0.heap.size w' T_Host 8 p' M0.length c' (M.flatMap encM)/\(∀ m ∈ M,LbA w' p' m)/\∀ j,j < k.toNat->∀ m,M[j]? = some m->LbN w.heap.size m,fun k _=>(M0.length - k).toNat,⟨h0.trans e1,by omega,by omega,M0,hM0,o1,lt0,fun j hj=>by simp at hj⟩,?_⟩
  rintro k w7 ⟨x7,hk0,hk1,M,hM,o7,hA7,hN7⟩
  have hlen:M.length = M0.length:=by rw [hlen0,<- hM]; simp
  refine ⟨fun hlt=>?_,fun hge w8 h8=>⟨x7.trans h8,p',c',M,rfl,hM,(o7.ext h8).weak h0.size,fun m hm=>⟨(hA7 m hm).1.ext h8,(hA7 m hm).2⟩,fun m hm=>by
    obtain ⟨j,hj⟩:=List.mem_iff_getElem?.1 hm
    have hjl:=(List.getElem?_eq_some_iff.1 hj).1
    exact hN7 j (by omega) m hj⟩⟩
  have r7:Recs 8 encM w7 p' M:=o7.recs fun _ _=>rfl
  have g:=r7.idx default hk0 (by omega) (j:=1) rfl
  have hp':=o7.ne1 (by omega) (by omega)
  have hm:=getD_mem M default (i:=k.toNat) (by omega)
  generalize hmd:M.getD k.toNat default = m at g hm
  have hml:m.h ∈ L:=by rw [<- hM]; exact List.mem_map_of_mem hm
  refine ⟨hp',hk0,hlt,fun hq=>hp' (pIdx_none.1 hq),m.q,m.h.labels.length,m.d,by rw [cell_pAdd]; exact g,fun w11 h11=>?_⟩
  refine (CloneL_k m.q m.d m.h.labels (h8 _ hml) w11 ((hA7 m hm).1.ext h11)).mono fun v w12 ⟨e12,q',d',hv,hl',hn'⟩=>⟨e12,q',_,d',hv,hp',hk0,hlt,fun hq=>hp' (pIdx_none.1 hq),?_⟩
  have x12:=h11.trans e12
  have o12:=o7.ext x12
  refine store_own o12 pAdd_map (by rw [recs_len encM_len]; simp; omega) (by simp) (by intro v hv; simp at hv; subst hv; rfl) (by simp) fun w16 o16 g16=>?_
  rw [recs_part encM_len M k.toNat 1 [.slice q' m.h.labels.length d'] ⟨m.h,q',d'⟩ default (by omega) (by simp) (by rw [hmd]; rfl)] at o16
  have hmap:(M.set k.toNat ⟨m.h,q',d'⟩).map (·.h) = L:=by
    rw [List.map_set,hM]
    have hk:k.toNat < L.length:=by omega
    have:L[k.toNat] = m.h:=by
      have h1:(M.map (·.h)).getD k.toNat default = m.h:=by
        rw [<- hmd,List.getD_eq_getElem?_getD,List.getD_eq_getElem?_getD,List.getElem?_map,List.getElem?_eq_getElem (by omega:k.toNat < M.length)]; rfl
      rw [hM] at h1
      simpa [List.getD_eq_getElem?_getD,hk] using h1
    rw [<- this,List.set_getElem_self]
  refine ⟨i64 (by omega),⟨?_,by omega,by omega,_,hmap,o16,fun m' hm'=>?_,fun j hj m' hm'=>?_⟩,by simp only []; omega⟩
  · exact g16.ext (x7.trans x12) (o12.weak (by have:=h0.size; omega))
  · rcases List.mem_or_eq_of_mem_set hm' with hm' | rfl
    · exact ⟨lbs_grew ((hA7 m' hm').1.ext x12) (hA7 m' hm').2 g16,(hA7 m' hm').2⟩
    · have ha:Apart q' p':=fun a b ha hb=>by
        have:=hn' a ha
        have:=(o7.lt b hb).2
        have:=h11.size
        omega
      exact ⟨lbs_grew hl' (.inr ha) g16,.inr ha⟩
  · by_cases hjk:j = k.toNat
    · subst hjk
      rw [List.getElem?_set_self (by omega)] at hm'
      obtain rfl:=Option.some.inj hm'
      exact .inr fun a ha=>(by have:=hn' a ha; have:=x7.size; have:=h11.size; omega)
    · rw [List.getElem?_set_ne (by omega)] at hm'
      exact hN7 j (by omega) m' hm'
def usedH (h:Ht) (s:Nd):Ht:=⟨h.name,h.labels,h.has,s⟩
theorem change_k (R:Ht->Nd->Int->Prop) (p:Option Addr) (c:Nat) (L:List Ht) (h63:(L.length:Int) <= 9223372036854775807) (hO:∀ h ∈ L,HtOk h) (i:Int) (f:Value) (w:World) (hL:HsAt w p L)
    (hf:∀ h ∈ L,okH1 h->∀ q d w',Ext w w'->FnVP Tryz.prog f [hv h q d] w' fun v w''=>Ext w' w''/\∃ s e,v = .tuple #[nv s,.int .i64 e]/\R h s e) :
    FnP Tryz.prog F_host_change #[.slice p L.length c,.int .i64 i,f] w fun v w'=>Ext w w'/\∃ p' n' c' e,v = .tuple #[.slice p' n' c',.int .i64 e] /\
      ((e ≠ 0/\n' = 0/\(okHs L->0 <= i->i < L.length->∃ s,R (L.getD i.toNat default) s e)) \/
       (e = 0/\okHs L/\0 <= i/\i < L.length/\n' = L.length/\n' <= c'/\∃ s,R (L.getD i.toNat default) s 0/\HsS w.heap.size w' p' (L.set i.toNat (usedH (L.getD i.toNat default) s)))):=by
  refine ok_host_change p L.length c i f w _ fun w0 h0=>?_
  refine (hcheck_k p c L h63 hO w0 (hL.ext h0)).mono fun v w1 ⟨e1,e,hv,he,_,_⟩=>⟨e1,e,hv,fun hne w3 h3=>⟨h3,_,_,_,_,rfl,.inl ⟨hne,rfl,fun ho=>absurd (he.2 ho) hne⟩⟩,fun h0'=>?_⟩
  have hok:=he.1 h0'
  refine ⟨fun hout w3 h3=>⟨h3,_,_,_,_,rfl,.inl ⟨by omega,rfl,fun _ _ _=>by omega⟩⟩,fun ⟨hi0,hi1⟩=>?_⟩
  obtain ⟨q,d,hp,hp8,g,hl⟩:=hL.at hi0 hi1
  have hm:=getD_mem L default (i:=i.toNat) (by omega)
  generalize hHd:L.getD i.toNat default = H at g hl hm
  refine ⟨hp,hi0,hi1,hp8,_,g 0 _ rfl,_,_,_,g 1 _ rfl,_,g 2 _ rfl,_,g 3 _ rfl,_,g 4 _ rfl,_,g 5 _ rfl,_,g 6 _ rfl,_,g 7 _ rfl,fun w13 h13=>?_⟩
  obtain ⟨fi,cap,hfe,hfp⟩:=hf H hm (hok.2.1 H hm) q d w13 h13
  refine ⟨fi,cap,hfe,hfp.mono fun v w14 ⟨e14,s,e',hv',hR⟩=>⟨e14,s.c,s.m,s.g,e',hv',fun b19 hb19=>⟨fun hne w20 h20=>⟨h20,_,_,_,_,rfl,.inl ⟨hne,rfl,fun _ _ _=>⟨s,hR⟩⟩⟩,fun h0' w20 x20=>?_⟩⟩⟩
  subst h0'
  have h20:=extB_ext x20
  have hb20:b19 < w20.heap.size:=x20.lt b19 (by simp)
  refine (own_k p c L hok.1 (fun h hh=>(hok.2.1 h hh).2.1) w20 (hL.ext h20)).mono fun v w21 ⟨e21,p',c',M,hv,hM,o21,hA,hN⟩=>⟨e21,p',_,c',hv,?_⟩
  have hp':=o21.ne1 (by omega) (by omega)
  have hlen:M.length = L.length:=by rw [<- hM]; simp
  refine ⟨hp',hi0,hi1,fun hq=>hp' (pIdx_none.1 hq),?_⟩
  refine store_own o21 pAdd_map (by rw [recs_len encM_len]; simp; omega) (by simp) (by intro v hv; simp at hv; rcases hv with rfl | rfl | rfl <;> rfl) (fun b hb x hx=>by simp at hb; subst hb; have:=(o21.lt x hx).1; omega) fun w25 o25 g25 w26 h26=>?_
  have hmd:(M.getD i.toNat default).h = H:=by
    rw [<- hHd,<- hM,List.getD_eq_getElem?_getD,List.getD_eq_getElem?_getD,List.getElem?_map,List.getElem?_eq_getElem (by omega:i.toNat < M.length)]; rfl
  rw [recs_part encM_len M i.toNat 5 _ ⟨usedH H s,(M.getD i.toNat default).q,(M.getD i.toNat default).d⟩ default (by omega) (by simp) (by
    show setAt (encH (M.getD i.toNat default).h (M.getD i.toNat default).q (M.getD i.toNat default).d) 5 _ = encH (usedH H s) _ _
    rw [hmd]; rfl)] at o25
  have hx25:Ext w w25:=g25.ext (h20.trans e21) (o21.weak h20.size)
  refine ⟨hx25.trans h26,p',_,c',0,rfl,.inr ⟨rfl,hok,hi0,hi1,rfl,o21.le.1,s,hR,?_⟩⟩
  have:=hsS_of o25 (fun m hm=>?_) (fun m hm=>?_)
  · have hmap:(M.set i.toNat ⟨usedH H s,(M.getD i.toNat default).q,(M.getD i.toNat default).d⟩).map (·.h) = L.set i.toNat (usedH H s):=by rw [List.map_set,hM]
    rw [hmap] at this
    exact (this.ext h26).weak h20.size
  · rcases List.mem_or_eq_of_mem_set hm with hm | rfl
    · exact lbs_grew (hA m hm).1 (hA m hm).2 g25
    · have hmm:=getD_mem M default (i:=i.toNat) (by omega)
      have:=lbs_grew (hA _ hmm).1 (hA _ hmm).2 g25
      rw [hmd] at this
      exact this
  · rcases List.mem_or_eq_of_mem_set hm with hm | rfl
    · exact hN m hm
    · have hmm:=getD_mem M default (i:=i.toNat) (by omega)
      have:=hN _ hmm
      unfold LbN at this ⊢
      rw [hmd] at this
      exact this
theorem nd_cells {w:World} {p:Option Addr} {a:Nd} (h:NdAt w p a):Go.Sx.cell w p 0 = some (.int .i64 a.c)/\Go.Sx.cell w p 1 = some (.int .i64 a.m)/\Go.Sx.cell w p 2 = some (.int .i64 a.g):=⟨h 0 _ rfl,h 1 _ rfl,h 2 _ rfl⟩
theorem Take_k (p:Option Addr) (c:Nat) (L:List Ht) (h63:(L.length:Int) <= 9223372036854775807) (hO:∀ h ∈ L,HtOk h) (i:Int) (a:Nd) (w:World) (hL:HsAt w p L) :
    FnP Tryz.prog F_host_Take #[.slice p L.length c,.int .i64 i,nv a] w fun v w'=>Ext w w'/\∃ p' n' c' e,v = .tuple #[.slice p' n' c',.int .i64 e] /\
      ((e ≠ 0/\n' = 0/\(okHs L->0 <= i->i < L.length->¬ (okN a/\fitN a (subN (L.getD i.toNat default).has (L.getD i.toNat default).used)))) \/
       (e = 0/\okHs L/\0 <= i/\i < L.length/\n' = L.length/\n' <= c'/\okN a/\fitN a (subN (L.getD i.toNat default).has (L.getD i.toNat default).used)/\HsS w.heap.size w' p' (L.set i.toNat (usedH (L.getD i.toNat default) (addN (L.getD i.toNat default).used a))))):=by
  refine ok_host_Take p L.length c i a.c a.m a.g w _ fun w0 h0=>?_
  refine new_nd (x:=a) fun p1 w1 e1 hN hp1 w2 h2=>?_
  have x2:=(h0.trans e1).trans h2
  refine (change_k (fun h s e=>(e ≠ 0/\¬ (okN a/\fitN a (subN h.has h.used)))\/(e = 0/\s = addN h.used a/\okN a/\fitN a (subN h.has h.used))) p c L h63 hO i _ w2 (hL.ext x2) fun h hh hok q d w3 h3=>?_).mono fun v w4 ⟨e4,p',n',c',e,hv,hr⟩=>⟨e4,_,_,_,_,hv,fun w8 h8=>⟨(x2.trans e4).trans h8,_,_,_,_,rfl,?_⟩⟩
  · refine ⟨F_host_Take_1,#[.pointer p1],rfl,(ok_host_Take_1 h.name q h.labels.length d h.has.c h.has.m h.has.g h.used.c h.used.m h.used.g p1 w3 _ ?_:FnP Tryz.prog F_host_Take_1 #[hv h q d,.pointer p1] w3 _)⟩
    intro b0 hb0 b1 hb1 w5 h5
    refine (nSub_k h.has h.used w5).mono fun v w6 ⟨e6,s,e,hv,hs⟩=>⟨e6,_,_,_,_,hv,fun b8 hb8=>?_⟩
    have hs:e = 0/\s = subN h.has h.used:=by
      rcases hs with ⟨_,_,_,h1,h2⟩ | ⟨hno,_⟩ | ⟨_,_,hno,_⟩
      · exact ⟨h1,h2⟩
      · exact absurd ⟨hok.2.2.2.1,hok.2.2.2.2.1⟩ hno
      · exact absurd hok.2.2.2.2.2 hno
    obtain ⟨rfl,rfl⟩:=hs
    have hN3:=nd_cells (Cells.ext hN (h2.trans h3))
    refine ⟨hp1,_,hN3.1,_,hN3.2.1,_,hN3.2.2,fun w12 h12=>?_⟩
    refine (nSub_k (subN h.has h.used) a w12).mono fun v w13 ⟨e13,s,e,hv,hs⟩=>⟨e13,_,_,_,_,hv,fun b18 hb18=>?_⟩
    have hsub:okN (subN h.has h.used):=by
      obtain ⟨h1,h2,h3⟩:=hok.2.2.2.1
      obtain ⟨h4,h5,h6⟩:=hok.2.2.2.2.1
      obtain ⟨h7,h8,h9⟩:=hok.2.2.2.2.2
      refine ⟨?_,?_,?_⟩ <;> simp only [subN] <;> omega
    rcases hs with ⟨_,ha,hfit,rfl,rfl⟩ | ⟨hno,rfl,rfl⟩ | ⟨_,ha,hno,rfl,rfl⟩
    · refine ⟨fun hne=>absurd rfl hne,fun _=>⟨hp1,_,hN3.1,_,hN3.2.1,_,hN3.2.2,fun w22 h22=>?_⟩⟩
      refine (nAdd_k h.used a w22).mono fun v w23 ⟨e23,s,e,hv,hs⟩=>⟨e23,_,_,_,_,hv,fun w28 h28=>⟨h28,s,e,rfl,.inr ?_⟩⟩
      rcases hs with ⟨_,_,_,h1,h2⟩ | ⟨hno,_⟩ | ⟨_,_,hno,_⟩
      · exact ⟨h1,h2,ha,hfit⟩
      · exact absurd ⟨hok.2.2.2.2.1,ha⟩ hno
      · refine absurd ?_ hno
        obtain ⟨h1,h2,h3⟩:=hok.2.2.2.1
        obtain ⟨h4,h5,h6⟩:=hok.2.2.2.2.1
        obtain ⟨h7,h8,h9⟩:=ha
        obtain ⟨h10,h11,h12⟩:=hfit
        simp only [subN] at h10 h11 h12
        refine ⟨?_,?_,?_⟩ <;> simp only [addN] <;> omega
    · exact ⟨fun _ w19 h19=>⟨h19,zeroN,_,rfl,.inl ⟨by omega,fun hc=>hno ⟨hsub,hc.1⟩⟩⟩,fun h=>by omega⟩
    · exact ⟨fun _ w19 h19=>⟨h19,zeroN,_,rfl,.inl ⟨by omega,fun hc=>hno hc.2⟩⟩,fun h=>by omega⟩
  · rcases hr with ⟨hne,hn,hno⟩ | ⟨he,hok,hi0,hi1,hn,hc,s,hR,hAt⟩
    · refine .inl ⟨hne,hn,fun hok hi0 hi1=>?_⟩
      obtain ⟨s,hR⟩:=hno hok hi0 hi1
      rcases hR with ⟨_,h⟩ | ⟨h,_⟩
      · exact h
      · exact absurd h hne
    · rcases hR with ⟨h,_⟩ | ⟨_,rfl,ha,hfit⟩
      · exact absurd rfl h
      · exact .inr ⟨he,hok,hi0,hi1,hn,hc,ha,hfit,(hAt.ext h8).weak x2.size⟩
theorem Give_k (p:Option Addr) (c:Nat) (L:List Ht) (h63:(L.length:Int) <= 9223372036854775807) (hO:∀ h ∈ L,HtOk h) (i:Int) (a:Nd) (w:World) (hL:HsAt w p L) :
    FnP Tryz.prog F_host_Give #[.slice p L.length c,.int .i64 i,nv a] w fun v w'=>Ext w w'/\∃ p' n' c' e,v = .tuple #[.slice p' n' c',.int .i64 e] /\
      ((e ≠ 0/\n' = 0/\(okHs L->0 <= i->i < L.length->¬ (okN a/\fitN a (L.getD i.toNat default).used))) \/
       (e = 0/\okHs L/\0 <= i/\i < L.length/\n' = L.length/\n' <= c'/\HsS w.heap.size w' p' (L.set i.toNat (usedH (L.getD i.toNat default) (subN (L.getD i.toNat default).used a))))):=by
  refine ok_host_Give p L.length c i a.c a.m a.g w _ fun w0 h0=>?_
  refine new_nd (x:=a) fun p1 w1 e1 hN hp1 w2 h2=>?_
  have x2:=(h0.trans e1).trans h2
  refine (change_k (fun h s e=>(e ≠ 0/\¬ (okN a/\fitN a h.used))\/(e = 0/\s = subN h.used a)) p c L h63 hO i _ w2 (hL.ext x2) fun h hh hok q d w3 h3=>?_).mono fun v w4 ⟨e4,p',n',c',e,hv,hr⟩=>⟨e4,_,_,_,_,hv,fun w8 h8=>⟨(x2.trans e4).trans h8,_,_,_,_,rfl,?_⟩⟩
  · refine ⟨F_host_Give_1,#[.pointer p1],rfl,(ok_host_Give_1 h.name q h.labels.length d h.has.c h.has.m h.has.g h.used.c h.used.m h.used.g p1 w3 _ ?_:FnP Tryz.prog F_host_Give_1 #[hv h q d,.pointer p1] w3 _)⟩
    intro b0 hb0 b1 hb1
    have hN3:=nd_cells (Cells.ext hN (h2.trans h3))
    refine ⟨hp1,_,hN3.1,_,hN3.2.1,_,hN3.2.2,fun w5 h5=>?_⟩
    refine (nSub_k h.used a w5).mono fun v w6 ⟨e6,s,e,hv,hs⟩=>⟨e6,_,_,_,_,hv,fun w11 h11=>⟨h11,s,e,rfl,?_⟩⟩
    rcases hs with ⟨_,ha,hfit,rfl,rfl⟩ | ⟨hno,rfl,rfl⟩ | ⟨_,ha,hno,rfl,rfl⟩
    · exact .inr ⟨rfl,rfl⟩
    · exact .inl ⟨by omega,fun hc=>hno ⟨hok.2.2.2.2.1,hc.1⟩⟩
    · exact .inl ⟨by omega,fun hc=>hno hc.2⟩
  · rcases hr with ⟨hne,hn,hno⟩ | ⟨he,hok,hi0,hi1,hn,hc,s,hR,hAt⟩
    · refine .inl ⟨hne,hn,fun hok hi0 hi1=>?_⟩
      obtain ⟨s,hR⟩:=hno hok hi0 hi1
      rcases hR with ⟨_,h⟩ | ⟨h,_⟩
      · exact h
      · exact absurd h hne
    · rcases hR with ⟨h,_⟩ | ⟨_,rfl⟩
      · exact absurd rfl h
      · exact .inr ⟨he,hok,hi0,hi1,hn,hc,(hAt.ext h8).weak x2.size⟩
end Go.Proofs.YtegephkpdlopaaaGreatDoor
set_option linter.unusedVariables false
set_option linter.unusedSimpArgs false
namespace Go.Proofs.YtegephkpdlopaaaGreatDoor
open Go.Sx Go.RowKit
theorem err1_ne5 (k:Int) (key val:ByteArray) (n:Int) (l:Nat):err1 k key val n l ≠ 5:=by
  unfold err1
  repeat' split
  all_goals omega
theorem errL_ne5:∀ {xs:List AT},(∀ x ∈ xs,errA x ≠ 5)->errL xs ≠ 5
  | [],_ => by unfold errL; omega
  | x :: r,h => by
    unfold errL
    split
    · exact h x (List.mem_cons_self ..)
    · exact errL_ne5 fun y hy=>h y (List.mem_cons_of_mem _ hy)
theorem errA_ne5 (t:AT):errA t ≠ 5:=by
  refine AT.ind (P:=fun t=>errA t ≠ 5) (fun k key val n xs h=>?_) t
  unfold errA
  split
  · exact err1_ne5 _ _ _ _ _
  · exact errL_ne5 h
theorem errC_ne5 (t:AT):errC t ≠ 5:=by
  unfold errC
  split
  · omega
  · exact errA_ne5 t
def leftH (L:List Ht) (i:Int):Nd:=subN (L.getD i.toNat default).has (L.getD i.toNat default).used
def fitI (L:List Ht) (t:AT) (a:Nd) (i:Nat):Bool:=valA (atH (L.getD i default)) t && decide (fitN a (subN (L.getD i default).has (L.getD i default).used))
def fitsTo (L:List Ht) (t:AT) (a:Nd) (k:Nat):List Int:=((List.range k).filter (fitI L t a)).map (Int.ofNat ·)
theorem fitsTo_succ (L:List Ht) (t:AT) (a:Nd) (k:Nat):fitsTo L t a (k + 1) = if fitI L t a k = true then fitsTo L t a k ++ [(k:Int)] else fitsTo L t a k:=by
  unfold fitsTo
  rw [List.range_succ,List.filter_append,List.map_append]
  by_cases h:fitI L t a k = true <;> simp [h]
theorem mem_fits {L:List Ht} {t:AT} {a:Nd} {k:Nat} {x:Int}:x ∈ fitsTo L t a k ↔ 0 <= x/\x < k/\fitI L t a x.toNat = true:=by
  unfold fitsTo
  simp only [List.mem_map,List.mem_filter,List.mem_range]
  constructor
  · rintro ⟨n,⟨h1,h2⟩,rfl⟩
    exact ⟨Int.natCast_nonneg n,by simpa using h1,by simpa using h2⟩
  · rintro ⟨h1,h2,h3⟩
    exact ⟨x.toNat,⟨by omega,h3⟩,Int.toNat_of_nonneg h1⟩
theorem fits_len (L:List Ht) (t:AT) (a:Nd) (k:Nat):(fitsTo L t a k).length <= k:=by
  unfold fitsTo
  rw [List.length_map]
  exact Nat.le_trans (List.length_filter_le _ _) (by simp)
theorem fits_sorted (L:List Ht) (t:AT) (a:Nd) (k:Nat):(fitsTo L t a k).Pairwise (· < ·):=by
  unfold fitsTo
  rw [List.pairwise_map]
  exact ((List.pairwise_lt_range (n:=k)).filter _).imp fun h=>by simpa using h
def okAll (L:List Ht) (t:AT) (a:Nd):Prop:=okHs L/\errC t = 0/\okN a
theorem left_ok {h:Ht} (hok:okH1 h):okN (subN h.has h.used):=by
  obtain ⟨h1,h2,h3⟩:=hok.2.2.2.1
  obtain ⟨h4,h5,h6⟩:=hok.2.2.2.2.1
  obtain ⟨h7,h8,h9⟩:=hok.2.2.2.2.2
  refine ⟨?_,?_,?_⟩ <;> simp only [subN] <;> omega
theorem sub_ok {h:Ht} (hok:okH1 h) (w:World):FnP Tryz.prog F_need_Sub #[nv h.has,nv h.used] w fun v w'=>Ext w w'/\v = .tuple #[nv (subN h.has h.used),.int .i64 0] :=
  (nSub_k h.has h.used w).mono fun v w' ⟨e,s,f,hv,hs⟩=>⟨e,by
    rcases hs with ⟨_,_,_,rfl,rfl⟩ | ⟨hno,_⟩ | ⟨_,_,hno,_⟩
    · exact hv
    · exact absurd ⟨hok.2.2.2.1,hok.2.2.2.2.1⟩ hno
    · exact absurd hok.2.2.2.2.2 hno⟩
theorem Fit_k (p:Option Addr) (c:Nat) (L:List Ht) (h63:(L.length:Int) <= 9223372036854775807) (hO:∀ h ∈ L,HtOk h) (t:AT) (px:Option Addr) (cx:Nat) (hW:WfA t) (a:Nd) (w:World) (hL:HsAt w p L) (hT:IsT w t px cx) :
    FnP Tryz.prog F_host_Fit #[.slice p L.length c,av t px cx,nv a] w fun v w'=>Ext w w'/\∃ q n d e,v = .tuple #[.slice q n d,.int .i64 e]/\e ≠ 5/\(∀ x,q = some x->w.heap.size <= x.block) /\
      ((e ≠ 0/\n = 0/\¬ okAll L t a)\/(e = 0/\okAll L t a/\n = (fitsTo L t a L.length).length/\Ints .i64 w' q (fitsTo L t a L.length))):=by
  refine ok_host_Fit p L.length c t.k t.key t.val t.n px t.xs.length cx a.c a.m a.g w _ fun b0 hb0 b1 hb1 w2 h2=>?_
  refine (hcheck_k p c L h63 hO w2 (hL.ext h2)).mono fun v w3 ⟨e3,e,hv,he,h5,_⟩=>⟨e3,e,hv,fun hne w5 h5'=>⟨h5',_,_,_,_,rfl,h5,fun x hx=>by (cases hx),.inl ⟨hne,rfl,fun ho=>hne (he.2 ho.1)⟩⟩,fun h0 w5 h5=>?_⟩
  have hok:=he.1 h0
  refine (Check_k t px cx w5 (hT.ext h5 _ _ _) hW).mono fun v w6 ⟨e6,hv⟩=>⟨e6,_,hv,fun hne w8 h8=>⟨h8,_,_,_,_,rfl,errC_ne5 t,fun x hx=>by (cases hx),.inl ⟨hne,rfl,fun ho=>hne ho.2.1⟩⟩,fun hc w8 h8=>?_⟩
  refine (ncheck_k a w8).mono fun v w9 ⟨e9,hv⟩=>⟨e9,_,hv,fun hne w11 h11=>⟨h11,_,_,_,_,rfl,(by unfold errN; split <;> omega),fun x hx=>by (cases hx),.inl ⟨hne,rfl,fun ho=>hne (errN_ok.2 ho.2.2)⟩⟩,fun ha=>?_⟩
  have ha:=errN_ok.1 ha
  refine ⟨fun q l d k w'=>Ext w w'/\0 <= k/\k <= L.length/\l = (fitsTo L t a k.toNat).length/\Own w.heap.size w' T_int 1 q l d ((fitsTo L t a k.toNat).map (.int .i64))/\∀ b ∈ [b0,b1],∀ x,q = some x->x.block ≠ b,
    fun _ _ _ k _=>(L.length - k).toNat,⟨Ext.refl w,by omega,by omega,rfl,Own.nil,fun b _ x hx=>by cases hx⟩,?_⟩
  rintro q l d k w14 ⟨x14,hk0,hk1,rfl,o14,hb14⟩
  refine ⟨fun hlt=>?_,fun hge w15 h15=>⟨x14.trans h15,q,_,d,0,rfl,by omega,fun x hx=>(o14.lt x hx).1,.inr ⟨rfl,⟨hok,hc,ha⟩,?_,?_⟩⟩⟩
  · obtain ⟨qh,dh,hp,hp8,g,hLb⟩:=(hL.ext x14).at hk0 hlt
    have hm:=getD_mem L default (i:=k.toNat) (by omega)
    have hfit:fitI L t a k.toNat = (valA (atH (L.getD k.toNat default)) t && decide (fitN a (subN (L.getD k.toNat default).has (L.getD k.toNat default).used))):=rfl
    generalize hHd:L.getD k.toNat default = H at g hLb hm hfit
    have hoH:=hok.2.1 H hm
    refine ⟨hp,hk0,hlt,hp8,_,g 0 _ rfl,_,_,_,g 1 _ rfl,_,g 2 _ rfl,_,g 3 _ rfl,_,g 4 _ rfl,_,g 5 _ rfl,_,g 6 _ rfl,_,g 7 _ rfl,fun b25 hb25 w26 h26=>?_⟩
    refine (sub_ok hoH w26).mono fun v w27 ⟨e27,hv⟩=>⟨e27,_,_,_,_,hv,fun b32 hb32 w33 h33=>?_⟩
    refine (Holds_k t px cx H qh dh (hO H hm).2.1 w33 (hT.ext (x14.trans h33) _ _ _) hW (hLb.ext h33)).mono fun v w34 ⟨e34,hv⟩=>⟨e34,_,_,hv,fun w37 h37=>?_⟩
    rw [if_pos hc]
    refine (nFits_k a (subN H.has H.used) w37).mono fun v w38 ⟨e38,tt,e,hv,ht⟩=>⟨e38,_,_,hv,?_⟩
    have ht:tt = decide (fitN a (subN H.has H.used)):=by
      rcases ht with ⟨_,_,_,h⟩ | ⟨hno,_⟩
      · exact h
      · exact absurd ⟨ha,left_ok hoH⟩ hno
    subst ht
    have hsucc:=fitsTo_succ L t a k.toNat
    refine ⟨fun hb w41 x41=>?_,fun hb=>?_⟩
    · have hyes:fitI L t a k.toNat = true:=by rw [hfit,hb.1,hb.2]; rfl
      rw [if_pos hyes] at hsucc
      have hln:=fits_len L t a k.toNat
      have hs14:=x14.size
      have h30:=hok.1
      refine push_intB (e:=T_int) (B:=w.heap.size) (ns:=[b0,b1,b25,b32]) elem_sl_int o14 hs14 (fun b hb x hx=>?_) (by omega) (by omega) (fun p' c' w' o' g' hp' hns'=>⟨i64 (by omega),⟨?_,by omega,by omega,?_,?_,fun b hb x hx=>hns' b (by simp at hb ⊢; rcases hb with rfl | rfl <;> simp) x hx⟩,by simp only []; omega⟩) w41 x41
      · have:=o14.lt x hx
        simp at hb
        rcases hb with rfl | rfl | rfl | rfl
        · exact hb14 _ (by simp) x hx
        · exact hb14 _ (by simp) x hx
        · omega
        · omega
      · exact g'.ext x14 o14
      · rw [show (k + 1).toNat = k.toNat + 1 by omega,hsucc]; simp
      · rw [show (k + 1).toNat = k.toNat + 1 by omega,hsucc]
        rw [show ((k.toNat:Nat):Int) = k by omega]
        exact o'
    · have hno:fitI L t a k.toNat = false:=by
        rw [hfit]
        rcases hb with hb | hb <;> rw [hb] <;> simp
      rw [hno] at hsucc
      rw [if_neg (by simp)] at hsucc
      refine ⟨i64 (by omega),⟨x14,by omega,by omega,?_,?_,hb14⟩,by simp only []; omega⟩
      · rw [show (k + 1).toNat = k.toNat + 1 by omega,hsucc]
      · rw [show (k + 1).toNat = k.toNat + 1 by omega,hsucc]; exact o14
  · rw [show k.toNat = L.length by omega]
  · rw [show k.toNat = L.length by omega] at o14
    exact (o14.ext h15).cells
theorem MinFunc_k (p:Option Addr) (c:Nat) (X:List Int) (h63:(X.length:Int) <= 9223372036854775807) (hX:X ≠ []) (f:Value) (C:Int->Int->Int) (hC:∀ x y z,C x y < 0->0 <= C z y->0 <= C z x) (hR:∀ x,0 <= C x x) (w:World) (h:Ints .i64 w p X)
    (hT:∀ x y,C x y < 0->0 <= C y x) (hS:∀ x y z,C x y < 0->0 <= C z y->C x z < 0)
    (hf:∀ x ∈ X,∀ y ∈ X,∀ w',Ext w w'->FnVP Tryz.prog f [.int .i64 x,.int .i64 y] w' fun v w''=>Ext w' w''/\v = .int .i64 (C x y)) :
    FnP Tryz.prog F_slices_MinFunc_int_int #[.slice p X.length c,f] w fun v w'=>Ext w w'/\∃ m,v = .int .i64 m/\m ∈ X/\(∀ y ∈ X,0 <= C y m)/\∃ a:Nat,a < X.length/\X.getD a 0 = m/\∀ j,j < a->C m (X.getD j 0) < 0:=by
  have hlen:0 < X.length:=by cases X with | nil=>exact absurd rfl hX | cons=>simp
  refine ok_slices_MinFunc_int_int p X.length c f w _ ⟨fun hlt=>by omega,fun _=>?_⟩
  have g0:=Ints.idx h (i:=0) (by omega) (by omega)
  have hm0:=getD_mem X 0 (i:=0) (by omega)
  refine ⟨fun hq=>cell_p g0 (pIdx_none.2 hq),by omega,by omega,_,g0,?_⟩
  refine ⟨fun m i w'=>w' = w/\1 <= i/\i <= X.length/\m ∈ X/\(∀ j:Nat,(j:Int) < i->0 <= C (X.getD j 0) m)/\∃ a:Nat,(a:Int) < i/\X.getD a 0 = m/\∀ j,j < a->C m (X.getD j 0) < 0,fun _ i _=>(X.length - i).toNat,⟨rfl,by omega,by omega,hm0,fun j hj=>?_,0,by omega,rfl,fun j hj=>by omega⟩,?_⟩
  · obtain rfl:j = 0:=by omega
    exact hR _
  rintro m i w4 ⟨rfl,hi0,hi1,hmm,hall,a,ha,ham,haj⟩
  refine ⟨fun hlt=>?_,fun hge w5 h5=>⟨h5,m,rfl,hmm,fun y hy=>?_,a,by omega,ham,haj⟩⟩
  · have g:=Ints.idx h (i:=i) (by omega) hlt
    have hx:=getD_mem X 0 (i:=i.toNat) (by omega)
    have hp:p ≠ none:=fun hq=>cell_p g (pIdx_none.2 hq)
    refine ⟨hp,by omega,hlt,_,g,fun w6 h6=>?_⟩
    obtain ⟨fi,cap,hfe,hfp⟩:=hf _ hx m hmm w6 h6
    refine ⟨fi,cap,hfe,hfp.mono fun v w7 ⟨e7,hv⟩=>⟨e7,_,hv,fun hneg=>⟨hp,by omega,hlt,_,g,i64 (by omega),⟨rfl,by omega,by omega,hx,fun j hj=>?_,i.toNat,by omega,rfl,fun j hj=>hS _ _ _ hneg (hall j (by omega))⟩,by simp only []; omega⟩,fun hpos=>⟨i64 (by omega),⟨rfl,by omega,by omega,hmm,fun j hj=>?_,a,by omega,ham,haj⟩,by simp only []; omega⟩⟩⟩
    · by_cases hji:(j:Int) < i
      · exact hC _ _ _ hneg (hall j hji)
      · obtain rfl:j = i.toNat:=by omega
        exact hR _
    · by_cases hji:(j:Int) < i
      · exact hall j hji
      · obtain rfl:j = i.toNat:=by omega
        exact hpos
  · obtain ⟨j,hj,rfl⟩:=List.getElem_of_mem hy
    have:=hall j (by omega)
    simpa [List.getD_eq_getElem?_getD,hj] using this
def cmpI (a b:Int):Int:=if a < b then -1 else if b < a then 1 else 0
theorem Compare_k (x y:Int) (w:World):FnP Tryz.prog F_cmp_Compare_int64 #[.int .i64 x,.int .i64 y] w fun v w'=>Ext w w'/\v = .int .i64 (cmpI x y):=by
  have nan:∀ (x:Int) (w:World),FnP Tryz.prog F_cmp_isNaN_int64 #[.int .i64 x] w fun v w'=>Ext w w'/\v = .bool false:=fun x w=>ok_cmp_isNaN_int64 x w _ fun w0 h0=>⟨h0,by simp⟩
  refine ok_cmp_Compare_int64 x y w _ fun w0 h0=>(nan x w0).mono fun v w1 ⟨e1,hv⟩=>⟨e1,_,hv,fun w3 h3=>(nan y w3).mono fun v w4 ⟨e4,hv⟩=>⟨e4,_,hv,fun h=>by (cases h),fun _=>⟨fun h=>by (cases h),fun _=>⟨fun hlt w6 h6=>⟨h6,?_⟩,fun hge=>⟨fun hlt w6 h6=>⟨h6,?_⟩,fun hle w6 h6=>⟨h6,?_⟩⟩⟩⟩⟩⟩
  · unfold cmpI; rw [if_pos hlt]
  · unfold cmpI; rw [if_neg (by omega),if_pos hlt]
  · unfold cmpI; rw [if_neg (by omega),if_neg (by omega)]
theorem Or3_k (p:Option Addr) (c:Nat) (a b d:Int) (w:World) (h:Ints .i64 w p [a,b,d]):FnP Tryz.prog F_cmp_Or_int #[.slice p 3 c] w fun v w'=>Ext w w'/\v = .int .i64 (if a ≠ 0 then a else if b ≠ 0 then b else d):=by
  refine ok_cmp_Or_int p 3 c w _ ?_
  refine ⟨fun k w'=>w' = w/\0 <= k/\k <= 3/\∀ j:Nat,(j:Int) < k->[a,b,d].getD j 0 = 0,fun k _=>(3 - k).toNat,⟨rfl,by omega,by omega,fun j hj=>by omega⟩,?_⟩
  rintro k w2 ⟨rfl,hk0,hk1,hz⟩
  refine ⟨fun hlt=>?_,fun hge w3 h3=>⟨h3,?_⟩⟩
  · have hlt:k < 3:=by simpa using hlt
    have g:=Ints.idx h hk0 (by simpa using hlt)
    refine ⟨fun hq=>cell_p g (pIdx_none.2 hq),hk0,by simpa using hlt,_,g,fun hne w4 h4=>⟨h4,?_⟩,fun he=>⟨i64 (by omega),⟨rfl,by omega,by omega,fun j hj=>?_⟩,by simp only []; omega⟩⟩
    · have:k = 0\/k = 1\/k = 2:=by omega
      rcases this with rfl | rfl | rfl
      · rw [if_pos (by simpa using hne)]; rfl
      · have h0:=hz 0 (by omega)
        rw [if_neg (by simpa using h0),if_pos (by simpa using hne)]; rfl
      · have h0:=hz 0 (by omega)
        have h1:=hz 1 (by omega)
        rw [if_neg (by simpa using h0),if_neg (by simpa using h1)]; rfl
    · by_cases hjk:(j:Int) < k
      · exact hz j hjk
      · obtain rfl:j = k.toNat:=by omega
        exact he
  · obtain rfl:k = 3:=by simp at hge; omega
    have h0:=hz 0 (by omega)
    have h1:=hz 1 (by omega)
    have h2:=hz 2 (by omega)
    rw [if_neg (by simpa using h0),if_neg (by simpa using h1)]
    exact congrArg _ (by simpa using h2.symm)
def cmpN (a b:Nd):Int:=if cmpI a.c b.c ≠ 0 then cmpI a.c b.c else if cmpI a.m b.m ≠ 0 then cmpI a.m b.m else cmpI a.g b.g
theorem cmpN_neg {a b:Nd}:cmpN a b < 0 ↔ a.c < b.c\/a.c = b.c/\(a.m < b.m\/a.m = b.m/\a.g < b.g):=by
  unfold cmpN cmpI
  repeat' split
  all_goals omega
theorem left1_k (p1 p:Option Addr) (c:Nat) (L:List Ht) (hok:okHs L) (i:Int) (hi0:0 <= i) (hi1:i < L.length) (w:World) (hc:Go.Sx.cell w p1 0 = some (.slice p L.length c)) (hL:HsAt w p L) :
    FnP Tryz.prog F_host_Best_1 #[.int .i64 i,.pointer p1] w fun v w'=>Ext w w'/\v = nv (leftH L i):=by
  obtain ⟨q,d,hp,hp8,g,_⟩:=hL.at hi0 hi1
  have hm:=hok.2.1 _ (getD_mem L default (i:=i.toNat) (by omega))
  have hlf:leftH L i = subN (L.getD i.toNat default).has (L.getD i.toNat default).used:=rfl
  generalize hHd:L.getD i.toNat default = H at g hm hlf
  have g':∀ (o j:Nat) u,(encH H q d)[o + j]? = some u->Go.Sx.cell w (pAdd (pIdx p i 8) o) j = some u:=fun o j u hu=>by rw [cell_pAdd]; exact g _ u hu
  have x2:=cell_p (g' 2 0 _ rfl)
  have x5:=cell_p (g' 5 0 _ rfl)
  refine ok_host_Best_1 i p1 w _ fun b0 hb0=>⟨fun n e w'=>Ext w w'/\NdAt w' n (leftH L i),⟨p,L.length,c,hc,hp,hi0,hi1,hp8,x2,_,g' 2 0 _ rfl,_,g' 2 1 _ rfl,_,g' 2 2 _ rfl,p,L.length,c,hc,hp,hi0,hi1,hp8,x5,_,g' 5 0 _ rfl,_,g' 5 1 _ rfl,_,g' 5 2 _ rfl,?_,?_⟩,?_⟩
  · intro w17 h17
    refine (sub_ok hm w17).mono fun v w18 ⟨e18,hv⟩=>⟨e18,_,_,_,_,hv,fun w23 x23=>?_⟩
    have hb:b0 < w23.heap.size:=x23.lt b0 (by simp)
    refine (Held.nil (ns:=[b0]) (extB_ext x23)).new_row (by intro v hv; simp at hv; subst hv; rfl) (by simpa using hb) fun p24 w24 H24 e24=>?_
    refine H24.store 0 rfl 0 (map_add0 _) (by simp) (by simp) (by intro v hv; simp at hv; rcases hv with rfl | rfl | rfl <;> rfl) (by have:=e24.size; simp; omega) fun w25 H25 g25=>⟨H25.ext,?_⟩
    rw [hlf]
    exact (H25.get 0 rfl).cells
  · intro w17 x17
    have hb:b0 < w17.heap.size:=x17.lt b0 (by simp)
    refine (Held.nil (ns:=[b0]) (extB_ext x17)).new_row (by intro v hv; simp at hv; subst hv; rfl) (by simpa using hb) fun p18 w18 H18 e18 w19 h19=>?_
    refine (sub_ok hm w19).mono fun v w20 ⟨e20,hv⟩=>⟨e20,_,_,_,_,hv,?_⟩
    refine H18.store 0 rfl 0 (map_add0 _) (by simp) (by simp) (by intro v hv; simp at hv; rcases hv with rfl | rfl | rfl <;> rfl) (by have:=e18.size; simp; omega) fun w25 H25 g25=>⟨H25.ext,?_⟩
    rw [hlf]
    exact (H25.get 0 rfl).cells
  · rintro n e w4 ⟨x4,hN⟩
    have hN3:=nd_cells hN
    exact ⟨cell_p hN3.1,_,hN3.1,_,hN3.2.1,_,hN3.2.2,fun w8 x8=>⟨extB1 x8 x4 hb0,rfl⟩⟩
theorem left2_k (p14 p1 p:Option Addr) (c:Nat) (L:List Ht) (hok:okHs L) (i:Int) (hi0:0 <= i) (hi1:i < L.length) (k:Int) (hk0:0 <= k) (hk1:k < L.length) (w:World) (hc:Go.Sx.cell w p1 0 = some (.slice p L.length c)) (hL:HsAt w p L)
    (hf:Go.Sx.cell w p14 0 = some (.func (.func F_host_Best_1) #[] #[.pointer p1])) :
    FnP Tryz.prog F_host_Best_2 #[.int .i64 i,.int .i64 k,.pointer p14] w fun v w'=>Ext w w'/\v = .int .i64 (cmpN (leftH L i) (leftH L k)):=by
  have call:∀ j:Int,0 <= j->j < L.length->∀ w',Ext w w'->FnVP Tryz.prog (.func (.func F_host_Best_1) #[] #[.pointer p1]) [.int .i64 j] w' fun v w''=>Ext w' w''/\v = nv (leftH L j):=fun j h0 h1 w' hx =>
    ⟨F_host_Best_1,#[.pointer p1],rfl,left1_k p1 p c L hok j h0 h1 w' (ext_cell hx hc) (hL.ext hx)⟩
  have calli:=call i hi0 hi1
  have callk:=call k hk0 hk1
  have vmono:∀ {f:Value} {args:List Value} {w:World} {K K':Value->World->Prop},FnVP Tryz.prog f args w K->(∀ v w',K v w'->K' v w')->FnVP Tryz.prog f args w K':=fun ⟨f,c,h1,h2⟩ hk=>⟨f,c,h1,h2.mono hk⟩
  have H0:Held w [] w []:=Held.nil (Ext.refl w)
  let row:Option Addr->Nd->HRow:=fun p x=>⟨T_Need,3,p,1,1,encN x⟩
  refine ok_host_Best_2 i k p14 w _ ⟨fun a b w'=>∃ rs,Held w [] w' rs/\∃ m n:Nat,rs[m]? = some (row a (leftH L i))/\rs[n]? = some (row b (leftH L k)),⟨_,hf,_,hf,?_⟩,?_⟩
  · repeat' (first
      | exact ⟨_,by assumption,0,1,rfl,rfl⟩
      | exact ⟨_,by assumption,1,0,rfl,rfl⟩
      | (refine (by assumption:Held w [] _ _).new_row (by intro v hv; simp at hv; subst hv; rfl) (by simp) fun _ _ _ _ => ?_)
      | (refine Held.store (by assumption) 0 (e:=T_Need) (s:=3) rfl 0 (map_add0 _) (by simp) (by simp) (by intro v hv; simp at hv; rcases hv with rfl | rfl | rfl <;> rfl) (by simp) fun _ _ _ => ?_)
      | (refine Held.store (by assumption) 1 (e:=T_Need) (s:=3) rfl 0 (map_add0 _) (by simp) (by simp) (by intro v hv; simp at hv; rcases hv with rfl | rfl | rfl <;> rfl) (by simp) fun _ _ _ => ?_)
      | (refine vmono (calli _ (by first | assumption | exact Held.ext (by assumption))) fun _ _ ⟨ex,hv⟩ => ⟨ex,_,_,_,hv,?_⟩)
      | (refine vmono (callk _ (by first | assumption | exact Held.ext (by assumption))) fun _ _ ⟨ex,hv⟩ => ⟨ex,_,_,_,hv,?_⟩)
      | (refine ⟨?_,?_⟩)
      | (intro wx hx; have Hx:=Held.to (w0:=w) (ns:=[]) (by assumption) hx))
  · rintro a b w3 ⟨rs,H3,m,n,hm,hn⟩
    have ca:NdAt w3 a (leftH L i):=(H3.get m hm).cells
    have cb:NdAt w3 b (leftH L k):=(H3.get n hn).cells
    have ca':=nd_cells ca
    have cb':=nd_cells cb
    have z:∀ {p:Option Addr} {o:Nat} {v:Value},Go.Sx.cell w3 p o = some v->Go.Sx.cell w3 (pAdd p o) 0 = some v:=fun h=>by rw [cell_pAdd]; exact h
    refine ⟨cell_p ca'.1,_,z ca'.1,cell_p cb'.1,_,z cb'.1,cell_p ca'.1,_,z ca'.2.1,cell_p cb'.1,_,z cb'.2.1,cell_p ca'.1,_,z ca'.2.2,cell_p cb'.1,_,z cb'.2.2,fun w10 h10=>?_⟩
    refine (Compare_k _ _ w10).mono fun v w11 ⟨e11,hv⟩=>⟨e11,_,hv,fun w13 h13=>?_⟩
    refine (Compare_k _ _ w13).mono fun v w14 ⟨e14,hv⟩=>⟨e14,_,hv,fun w16 h16=>?_⟩
    refine (Compare_k _ _ w16).mono fun v w17 ⟨e17,hv⟩=>⟨e17,_,hv,fun w19 h19=>?_⟩
    refine run_lit elem_sl_int [.int .i64 (cmpI (leftH L i).c (leftH L k).c),.int .i64 (cmpI (leftH L i).m (leftH L k).m),.int .i64 (cmpI (leftH L i).g (leftH L k).g)] rfl rfl (by intro v hv; simp at hv; rcases hv with rfl | rfl | rfl <;> rfl) (by omega) (by omega) fun w20 o20 e20=>⟨e20,_,_,_,rfl,fun w24 h24=>?_⟩
    refine (Or3_k _ 3 (cmpI (leftH L i).c (leftH L k).c) (cmpI (leftH L i).m (leftH L k).m) (cmpI (leftH L i).g (leftH L k).g) w24 (by have:=((o20 0 (Nat.zero_le _)).ext h24).cells; simpa [Value.cells,Ints] using this)).mono fun v w25 ⟨e25,hv⟩=>⟨e25,_,hv,fun w27 h27=>⟨((H3.ext.trans h19).trans e20).trans h27,?_⟩⟩
    rfl
def BestIs (L:List Ht) (t:AT) (a:Nd) (k:Int):Prop:=k ∈ fitsTo L t a L.length/\∀ j ∈ fitsTo L t a L.length,0 <= cmpN (leftH L j) (leftH L k)/\(j < k->cmpN (leftH L k) (leftH L j) < 0)
theorem best_one {L:List Ht} {t:AT} {a:Nd} {k m:Int} (h:BestIs L t a k) (g:BestIs L t a m):k = m:=by
  have h1:=h.2 m g.1
  have g1:=g.2 k h.1
  rcases Int.lt_trichotomy k m with hl | hl | hl
  · have:=g1.2 hl; have:=h1.1; omega
  · exact hl
  · have:=h1.2 hl; have:=g1.1; omega
theorem Best_k (p:Option Addr) (c:Nat) (L:List Ht) (h63:(L.length:Int) <= 9223372036854775807) (hO:∀ h ∈ L,HtOk h) (t:AT) (px:Option Addr) (cx:Nat) (hW:WfA t) (a:Nd) (w:World) (hL:HsAt w p L) (hT:IsT w t px cx) :
    FnP Tryz.prog F_host_Best #[.slice p L.length c,av t px cx,nv a] w fun v w'=>Ext w w'/\∃ k e,v = .tuple #[.int .i64 k,.int .i64 e] /\
      ((e ≠ 0/\k = 0/\(e = 5 ↔ okAll L t a)/\(okAll L t a->fitsTo L t a L.length = []))\/(e = 0/\okAll L t a/\BestIs L t a k)):=by
  refine ok_host_Best p L.length c t.k t.key t.val t.n px t.xs.length cx a.c a.m a.g w _ fun w0 h0=>?_
  refine new_own (by intro v hv; simp at hv; subst hv; rfl) fun w1 o1 e1=>?_
  generalize hp1:(some ⟨w0.heap.size,0,none⟩:Option Addr) = p1
  rw [hp1] at o1
  have c1:Go.Sx.cell w1 p1 0 = some (.slice p L.length c):=(o1 0 (Nat.zero_le _)).cells 0 _ rfl
  intro b2 hb2 b3 hb3
  refine ⟨p,L.length,c,c1,fun w7 x7=>?_⟩
  have x7':=(h0.trans e1).trans (extB_ext x7)
  refine (Fit_k p c L h63 hO t px cx hW a w7 (hL.ext x7') (hT.ext x7' _ _ _)).mono fun v w8 ⟨e8,q,n,d,e,hv,h5,hnew,hr⟩=>⟨e8,q,n,d,e,hv,?_⟩
  have x8:=x7'.trans e8
  rcases hr with ⟨hne,rfl,hno⟩ | ⟨rfl,hok,rfl,hI⟩
  · exact ⟨fun _ w13 h13=>⟨x8.trans h13,_,_,rfl,.inl ⟨hne,rfl,⟨fun h=>absurd h h5,fun h=>absurd h hno⟩,fun h=>absurd h hno⟩⟩,fun h=>absurd h hne⟩
  refine ⟨fun h=>absurd rfl h,fun _=>⟨fun hz w13 h13=>⟨x8.trans h13,_,_,rfl,.inl ⟨by omega,rfl,⟨fun _=>hok,fun _=>rfl⟩,fun _=>List.length_eq_zero_iff.1 (by omega)⟩⟩,fun hnz w13 x13=>?_⟩⟩
  have x13':=x8.trans (extB_ext x13)
  refine (Held.nil (w0:=w13) (ns:=[b2,b3]) (Ext.refl w13)).new_row (by intro v hv; simp at hv; subst hv; rfl) (x13.lt) fun p14 w14 H14 e14=>?_
  refine H14.store 0 rfl 0 (map_add0 _) (by simp) (by simp) (by intro v hv; simp at hv; subst hv; rfl) (fun b hb=>Nat.lt_of_lt_of_le (x13.lt b hb) e14.size) fun w15 H15 g15 w16 h16=>?_
  have e15:=H15.ext
  have x16:=(x13'.trans e15).trans h16
  have cf:Go.Sx.cell w16 p14 0 = some (.func (.func F_host_Best_1) #[] #[.pointer p1]):=ext_cell h16 ((H15.get 0 rfl).cells 0 _ rfl)
  have c16:Go.Sx.cell w16 p1 0 = some (.slice p L.length c):=ext_cell ((((extB_ext x7).trans e8).trans (extB_ext x13)).trans (e15.trans h16)) c1
  have hln:=fits_len L t a L.length
  refine (MinFunc_k q d (fitsTo L t a L.length) (by omega) (by intro h; rw [h] at hnz; simp at hnz) _ (fun x y=>cmpN (leftH L x) (leftH L y)) (fun x y z h1 h2=>?_) (fun x=>?_) w16 (hI.ext (((extB_ext x13).trans e15).trans h16)) (fun x y h1=>?_) (fun x y z h1 h2=>?_) fun x hx y hy w' hx'=>?_).mono fun v w17 ⟨e17,m,hv,hm,hall,a',ha',ham,haj⟩=>⟨e17,m,hv,fun w19 h19=>⟨(x13'.trans e15).trans h19,_,_,rfl,.inr ⟨rfl,hok,hm,fun j hj=>⟨hall j hj,fun hjm=>?_⟩⟩⟩⟩
  · have h1:=cmpN_neg.1 h1
    have h2:¬ cmpN (leftH L z) (leftH L y) < 0:=by omega
    rw [cmpN_neg] at h2
    have h3:¬ cmpN (leftH L z) (leftH L x) < 0:=by rw [cmpN_neg]; omega
    show 0 <= cmpN (leftH L z) (leftH L x)
    omega
  · have:¬ cmpN (leftH L x) (leftH L x) < 0:=by rw [cmpN_neg]; omega
    show 0 <= cmpN (leftH L x) (leftH L x)
    omega
  · have h1:=cmpN_neg.1 h1
    have:¬ cmpN (leftH L y) (leftH L x) < 0:=by rw [cmpN_neg]; omega
    show 0 <= cmpN (leftH L y) (leftH L x)
    omega
  · have h1:=cmpN_neg.1 h1
    have h2:¬ cmpN (leftH L z) (leftH L y) < 0:=by omega
    rw [cmpN_neg] at h2
    show cmpN (leftH L x) (leftH L z) < 0
    rw [cmpN_neg]
    omega
  · have hx1:=mem_fits.1 hx
    have hy1:=mem_fits.1 hy
    exact ⟨F_host_Best_2,#[.pointer p14],rfl,left2_k p14 p1 p c L hok.1 x hx1.1 hx1.2.1 y hy1.1 hy1.2.1 w' (ext_cell hx' c16) (hL.ext (x16.trans hx')) (ext_cell hx' cf)⟩
  · obtain ⟨b,hb,rfl⟩:=List.getElem_of_mem hj
    have hbg:(fitsTo L t a L.length).getD b 0 = (fitsTo L t a L.length)[b]:=by simp [List.getD_eq_getElem?_getD,hb]
    have hba:b < a':=by
      rcases Nat.lt_or_ge b a' with h | h
      · exact h
      exfalso
      have hs:=fits_sorted L t a L.length
      have ham':(fitsTo L t a L.length)[a'] = m:=by rw [<- ham]; simp [List.getD_eq_getElem?_getD,ha']
      rcases Nat.lt_or_ge a' b with h2 | h2
      · have:=(List.pairwise_iff_getElem.1 hs) a' b ha' hb h2
        omega
      · obtain rfl:a' = b:=by omega
        omega
    have:=haj b hba
    rw [hbg] at this
    exact this
end Go.Proofs.YtegephkpdlopaaaGreatDoor
set_option linter.unusedVariables false
set_option linter.unusedSimpArgs false
namespace Go.Proofs.YtegephkpdlopaaaGreatDoor
open Go.Sx Go.RowKit
theorem hosts_arg {W:World} {p:Option Addr} {l c:Nat} (h:SlcArg Tryz.prog W T_Host p l c):∃ L:List Ht,L.length = l/\(L.length:Int) <= 9223372036854775807/\(∀ h ∈ L,HtOk h)/\HsAt W p L:=by
  have labels:∀ {q:Option Addr} {m d:Nat},SlcArg Tryz.prog W T_Label q m d->∃ L:List Lb,L.length = m/\(∀ l ∈ L,l.key.size <= 9223372036854775807/\l.val.size <= 9223372036854775807)/\Lbs W q L:=by
    intro q m d h
    obtain ⟨L,h1,h2,h3⟩:=h.list (α:=Lb) encLb (fun l=>l.key.size <= 9223372036854775807/\l.val.size <= 9223372036854775807) (fun n es hg he=>by
      have hlv:=leaves_ok (P:=Tryz.prog) 6 T_Label [T_string,T_string] n es (by kernel_rfl) hg
      obtain ⟨v0,r0,rfl,l0,hlv⟩:=lvs_cons hlv
      obtain ⟨v1,r1,rfl,l1,hlv⟩:=lvs_cons hlv
      obtain rfl:=lvs_nil hlv
      obtain ⟨a,rfl,ha⟩:=leaf_str (by kernel_rfl) l0
      obtain ⟨b,rfl,hb⟩:=leaf_str (by kernel_rfl) l1
      exact ⟨⟨a,b⟩,rfl,ha,hb⟩)
    refine ⟨L,h1,h2,fun i x hx j u hu=>?_⟩
    have:=h3 i x hx j u hu
    rwa [show Tryz.prog.cellsOf T_Label = 2 by kernel_rfl] at this
  obtain ⟨M,h1,h2,h3⟩:=h.list (α:=Hm) encM (fun m=>HtOk m.h/\Lbs W m.q m.h.labels) (fun n es hg he=>by
    have hlv:=leaves_ok (P:=Tryz.prog) 6 T_Host [T_string,T_sl_Label,T_int64,T_int64,T_int64,T_int64,T_int64,T_int64] n es (by kernel_rfl) hg
    obtain ⟨v0,r0,rfl,l0,hlv⟩:=lvs_cons hlv
    obtain ⟨v1,r1,rfl,l1,hlv⟩:=lvs_cons hlv
    obtain ⟨v2,r2,rfl,l2,hlv⟩:=lvs_cons hlv
    obtain ⟨v3,r3,rfl,l3,hlv⟩:=lvs_cons hlv
    obtain ⟨v4,r4,rfl,l4,hlv⟩:=lvs_cons hlv
    obtain ⟨v5,r5,rfl,l5,hlv⟩:=lvs_cons hlv
    obtain ⟨v6,r6,rfl,l6,hlv⟩:=lvs_cons hlv
    obtain ⟨v7,r7,rfl,l7,hlv⟩:=lvs_cons hlv
    obtain rfl:=lvs_nil hlv
    obtain ⟨nm,rfl,hnm⟩:=leaf_str (by kernel_rfl) l0
    obtain ⟨q,m,d,rfl,s1,s2,s3,s4⟩:=leaf_slice (e:=T_Label) (by kernel_rfl) l1
    obtain ⟨x2,rfl,_⟩:=leaf_int (k:=.i64) (by kernel_rfl) l2
    obtain ⟨x3,rfl,_⟩:=leaf_int (k:=.i64) (by kernel_rfl) l3
    obtain ⟨x4,rfl,_⟩:=leaf_int (k:=.i64) (by kernel_rfl) l4
    obtain ⟨x5,rfl,_⟩:=leaf_int (k:=.i64) (by kernel_rfl) l5
    obtain ⟨x6,rfl,_⟩:=leaf_int (k:=.i64) (by kernel_rfl) l6
    obtain ⟨x7,rfl,_⟩:=leaf_int (k:=.i64) (by kernel_rfl) l7
    obtain ⟨L,rfl,hLo,hLl⟩:=labels (SlcArg.mk s1 s2 s3 s4)
    exact ⟨⟨⟨nm,L,⟨x2,x3,x4⟩,⟨x5,x6,x7⟩⟩,q,d⟩,rfl,⟨hnm,by simp only []; omega,hLo⟩,hLl⟩)
  rw [show Tryz.prog.cellsOf T_Host = 8 by kernel_rfl] at h3
  have hle:=h.le
  have hmx:=h.max
  refine ⟨M.map (·.h),by simpa using h1,by simp; omega,fun x hx=>?_,ms_hs h3 fun m hm=>(h2 m hm).2⟩
  obtain ⟨m,hm,rfl⟩:=List.mem_map.1 hx
  exact (h2 m hm).1
theorem IndexF_k (p:Option Addr) (c:Nat) (X:List Int) (h63:(X.length:Int) <= 9223372036854775807) (f:Value) (Pr:Int->Bool) (w:World) (h:Ints .i64 w p X)
    (hf:∀ x ∈ X,∀ w',Ext w w'->FnVP Tryz.prog f [.int .i64 x] w' fun v w''=>Ext w' w''/\v = .bool (Pr x)) :
    FnP Tryz.prog F_slices_IndexFunc_int_int #[.slice p X.length c,f] w fun v w'=>Ext w w'/\∃ t,v = .int .i64 t/\(0 <= t ↔ ∃ x ∈ X,Pr x = true):=by
  refine ok_slices_IndexFunc_int_int p X.length c f w _ ?_
  refine ⟨fun k w'=>w' = w/\0 <= k/\k <= X.length/\∀ j:Nat,(j:Int) < k->Pr (X.getD j 0) = false,fun k _=>(X.length - k).toNat,⟨rfl,by omega,by omega,fun j hj=>by omega⟩,?_⟩
  rintro k w ⟨rfl,hk0,hk1,hno⟩
  refine ⟨fun hlt=>?_,fun hge w4 h4=>⟨h4,_,rfl,?_⟩⟩
  · have g:=Ints.idx h hk0 hlt
    refine ⟨fun hq=>cell_p g (pIdx_none.2 hq),hk0,hlt,_,g,fun w4 h4=>?_⟩
    obtain ⟨fi,cap,hfe,hfp⟩:=hf _ (getD_mem X 0 (i:=k.toNat) (by omega)) w4 h4
    refine ⟨fi,cap,hfe,hfp.mono fun v w5 ⟨e5,hv⟩=>⟨e5,_,hv,fun hyes w9 h9=>⟨h9,_,rfl,fun _=>⟨_,getD_mem X 0 (by omega),hyes⟩,fun _=>hk0⟩,fun hn=>⟨i64 (by omega),⟨rfl,by omega,by omega,fun j hj=>?_⟩,by simp only []; omega⟩⟩⟩
    by_cases hjk:(j:Int) < k
    · exact hno j hjk
    · obtain rfl:j = k.toNat:=by omega
      exact hn
  · constructor
    · intro h; omega
    · rintro ⟨x,hm,hx⟩
      obtain ⟨j,hj,rfl⟩:=List.getElem_of_mem hm
      have:=hno j (by omega)
      rw [show X.getD j 0 = X[j] by simp [List.getD_eq_getElem?_getD,hj],hx] at this
      cases this
theorem ContainsF_k (p:Option Addr) (c:Nat) (X:List Int) (h63:(X.length:Int) <= 9223372036854775807) (f:Value) (Pr:Int->Bool) (w:World) (h:Ints .i64 w p X)
    (hf:∀ x ∈ X,∀ w',Ext w w'->FnVP Tryz.prog f [.int .i64 x] w' fun v w''=>Ext w' w''/\v = .bool (Pr x)) :
    FnP Tryz.prog F_slices_ContainsFunc_int_int #[.slice p X.length c,f] w fun v w'=>Ext w w'/\∃ b:Bool,v = .bool b/\(b = true ↔ ∃ x ∈ X,Pr x = true):=by
  refine ok_slices_ContainsFunc_int_int p X.length c f w _ ?_
  intro w1 h1
  refine (IndexF_k p c X h63 f Pr w1 (h.ext h1) fun x hx w' hw=>hf x hx w' (h1.trans hw)).mono fun v w2 ⟨e2,t,hv,ht⟩=>⟨e2,t,hv,fun w4 h4=>⟨h4,_,rfl,?_⟩⟩
  rw [decide_eq_true_iff]; exact ht
end Go.Proofs.YtegephkpdlopaaaGreatDoor
set_option linter.unusedVariables false
set_option linter.unusedSimpArgs false
namespace Go.Proofs.YtegephkpdlopaaaGreatDoor
open Go.Sx Go.RowKit
theorem eqLb_k (p:Option Addr) (c:Nat) (q:Option Addr) (d:Nat) (l:List Lb) (h63:l.length <= 9223372036854775807) (w:World) (hp:Lbs w p l) (hq:Lbs w q l) :
    FnP Tryz.prog F_slices_Equal_api_Label_api_Label #[.slice p l.length c,.slice q l.length d] w fun v w'=>Ext w w'/\v = .bool true:=by
  refine ok_slices_Equal_api_Label_api_Label p l.length c q l.length d w _ ⟨fun h=>absurd rfl h,fun _=>?_⟩
  refine ⟨fun k w'=>w' = w/\0 <= k/\k <= l.length,fun k _=>(l.length - k).toNat,⟨rfl,by omega,by omega⟩,?_⟩
  rintro k w2 ⟨rfl,hk0,hk1⟩
  refine ⟨fun hlt=>?_,fun _ w3 h3=>⟨h3,rfl⟩⟩
  have a0:=hp.idx default hk0 hlt (j:=0) rfl
  have a1:=hp.idx default hk0 hlt (j:=1) rfl
  have b0:=hq.idx default hk0 hlt (j:=0) rfl
  have b1:=hq.idx default hk0 hlt (j:=1) rfl
  refine ⟨fun h=>cell_p a0 (pIdx_none.2 h),hk0,hlt,cell_p a0,_,a0,_,a1,fun h=>cell_p b0 (pIdx_none.2 h),hk0,hlt,cell_p b0,_,b0,_,b1,fun w7 h7=>?_⟩
  refine run_eqF (op:=.neq) (n:=2) (by kernel_rfl) (by kernel_rfl) (by kernel_rfl) (by kernel_rfl) [.string (l.getD k.toNat default).key,.string (l.getD k.toNat default).val] [.string (l.getD k.toNat default).key,.string (l.getD k.toNat default).val] rfl rfl
    [some .string,some .string] (by kernel_rfl) (fun i o ho u v hu hv=>?_) (.inr rfl) fun b hb=>⟨Ext.refl _,b,rfl,fun ht=>?_,fun _=>⟨i64 (by omega),⟨rfl,by omega,by omega⟩,by simp only []; omega⟩⟩
  · match i with
    | 0 => simp at ho hu hv; subst ho hu hv; exact ⟨⟨_,rfl⟩,_,rfl⟩
    | 1 => simp at ho hu hv; subst ho hu hv; exact ⟨⟨_,rfl⟩,_,rfl⟩
    | i + 2 => simp at ho
  · have:=hb.1 ht
    simp at this
theorem sameH_k (p:Option Addr) (c:Nat) (q:Option Addr) (d:Nat) (L:List Ht) (h63:(L.length:Int) <= 9223372036854775807) (hO:∀ h ∈ L,HtOk h) (w:World) (hp:HsAt w p L) (hq:HsAt w q L) :
    FnP Tryz.prog F_shiftbellkeep_sameHosts #[.slice p L.length c,.slice q L.length d] w fun v w'=>Ext w w'/\v = .bool true:=by
  refine ok_shiftbellkeep_sameHosts p L.length c q L.length d w _ fun w0 h0=>?_
  refine FnP.mono (K:=fun v w'=>Ext w0 w'/\v = .bool true) ?_ fun v w1 ⟨e1,hv⟩=>⟨e1,_,hv,fun w3 h3=>⟨h3,rfl⟩⟩
  refine ok_slices_EqualFunc_api_Host_api_Host_api_Host_api_Host p L.length c q L.length d _ w0 _ ⟨fun h=>absurd rfl h,fun _=>?_⟩
  refine ⟨fun k w'=>w' = w0/\0 <= k/\k <= L.length,fun k _=>(L.length - k).toNat,⟨rfl,by omega,by omega⟩,?_⟩
  rintro k w2 ⟨rfl,hk0,hk1⟩
  refine ⟨fun hlt=>?_,fun _ w3 h3=>⟨h3,rfl⟩⟩
  obtain ⟨q1,d1,a1,a2,g,l1⟩:=(hp.ext h0).at hk0 hlt
  obtain ⟨q2,d2,b1,b2,g',l2⟩:=(hq.ext h0).at hk0 hlt
  have hm:=hO _ (getD_mem L default (i:=k.toNat) (by omega))
  generalize hHd:L.getD k.toNat default = H at g g' l1 l2 hm
  refine ⟨a1,hk0,hlt,a2,_,g 0 _ rfl,_,_,_,g 1 _ rfl,_,g 2 _ rfl,_,g 3 _ rfl,_,g 4 _ rfl,_,g 5 _ rfl,_,g 6 _ rfl,_,g 7 _ rfl,fun b13 _=>?_⟩
  refine ⟨b1,hk0,hlt,b2,_,g' 0 _ rfl,_,_,_,g' 1 _ rfl,_,g' 2 _ rfl,_,g' 3 _ rfl,_,g' 4 _ rfl,_,g' 5 _ rfl,_,g' 6 _ rfl,_,g' 7 _ rfl,fun b24 _ w25 h25=>?_⟩
  refine ⟨F_shiftbellkeep_sameHosts_1,#[],rfl,?_⟩
  refine FnP.mono (K:=fun v w'=>Ext w25 w'/\v = .bool true) (ok_shiftbellkeep_sameHosts_1 H.name q1 H.labels.length d1 H.has.c H.has.m H.has.g H.used.c H.used.m H.used.g H.name q2 H.labels.length d2 H.has.c H.has.m H.has.g H.used.c H.used.m H.used.g w25 _ fun x0 _ x1 _=>⟨fun _ w2' h2'=>?_,fun h=>absurd rfl h⟩:FnP Tryz.prog F_shiftbellkeep_sameHosts_1 #[hv H q1 d1,hv H q2 d2] w25 _) fun v w26 ⟨e26,hv⟩=>⟨e26,_,hv,fun h=>by (cases h),fun _=>⟨i64 (by omega),⟨rfl,by omega,by omega⟩,by simp only []; omega⟩⟩
  refine eqN_k (a:=H.has) (b:=H.has) ⟨Ext.refl _,_,rfl,fun _ w5 h5=>?_,fun h=>by simp at h⟩
  refine eqN_k (a:=H.used) (b:=H.used) ⟨Ext.refl _,_,rfl,fun _ w8 h8=>?_,fun h=>by simp at h⟩
  exact (eqLb_k q1 d1 q2 d2 H.labels hm.2.1 w8 (l1.ext (h25.trans h8)) (l2.ext (h25.trans h8))).mono fun v w9 ⟨e9,hv⟩=>⟨e9,_,hv,fun w11 h11=>⟨h11,rfl⟩⟩
theorem getD_set_ne {α:Type} (L:List α) (d x:α) {i k:Nat} (h:i ≠ k):(L.set i x).getD k d = L.getD k d:=by
  rw [List.getD_eq_getElem?_getD,List.getElem?_set_ne h,List.getD_eq_getElem?_getD]
end Go.Proofs.YtegephkpdlopaaaGreatDoor
set_option linter.unusedVariables false
set_option linter.unusedSimpArgs false
namespace Go.Proofs.YtegephkpdlopaaaGreatDoor
open Go.Sx Go.RowKit
structure Th where
  b:Nat
  prio:Int
  id:Int
  born:Int
  deriving DecidableEq
def th0:Th:=⟨0,0,0,0⟩
def ahead (t u:Th):Prop:=u.prio < t.prio\/t.prio = u.prio/\t.born < u.born
instance (t u:Th):Decidable (ahead t u):=by unfold ahead; infer_instance
theorem ahead_asymm {t u:Th} (h:ahead t u):¬ ahead u t:=by unfold ahead at *; omega
theorem ahead_trans {t u v:Th} (h:ahead t u) (k:ahead u v):ahead t v:=by unfold ahead at *; omega
theorem not_ahead_trans {t u v:Th} (h:¬ ahead t u) (k:¬ ahead u v):¬ ahead t v:=by unfold ahead at *; omega
theorem not_ahead_of {t u v:Th} (h:¬ ahead t u) (k:ahead v u):¬ ahead t v:=fun h'=>h (ahead_trans h' k)
def at_ (H:List Th) (k:Nat):Th:=H.getD k th0
def swp (H:List Th) (i j:Nat):List Th:=(H.set i (at_ H j)).set j (at_ H i)
theorem swp_len (H:List Th) (i j:Nat):(swp H i j).length = H.length:=by simp [swp]
theorem at_set (H:List Th) (i k:Nat) (x:Th) (hi:i < H.length):at_ (H.set i x) k = if k = i then x else at_ H k:=by
  unfold at_
  rw [List.getD_eq_getElem?_getD,List.getD_eq_getElem?_getD,List.getElem?_set]
  by_cases h:i = k
  · subst h; simp [hi]
  · rw [if_neg h,if_neg (Ne.symm h)]
theorem swp_at (H:List Th) {i j:Nat} (hi:i < H.length) (hj:j < H.length) (k:Nat):at_ (swp H i j) k = if k = j then at_ H i else if k = i then at_ H j else at_ H k:=by
  unfold swp
  rw [at_set _ _ _ _ (by simpa using hj),at_set _ _ _ _ hi]
theorem swp_perm (H:List Th) {i j:Nat} (hi:i < H.length) (hj:j < H.length):(swp H i j).Perm H:=by
  unfold swp at_
  rw [List.getD_eq_getElem?_getD,List.getD_eq_getElem?_getD,List.getElem?_eq_getElem hi,List.getElem?_eq_getElem hj]
  exact List.set_set_perm hi hj
theorem at_mem (H:List Th) {k:Nat} (h:k < H.length):at_ H k ∈ H:=getD_mem H th0 h
theorem mem_at {H:List Th} {t:Th} (h:t ∈ H):∃ k,k < H.length/\at_ H k = t:=by
  obtain ⟨k,hk⟩:=List.mem_iff_getElem?.1 h
  exact ⟨k,(List.getElem?_eq_some_iff.1 hk).1,by unfold at_; rw [List.getD_eq_getElem?_getD,hk]; rfl⟩
def par (k:Nat):Nat:=(k - 1) / 2
def Hp (H:List Th) (n:Nat):Prop:=∀ k,1 <= k->k < n->¬ ahead (at_ H k) (at_ H (par k))
def Up (H:List Th) (n j:Nat):Prop:=(∀ k,1 <= k->k < n->k ≠ j->¬ ahead (at_ H k) (at_ H (par k)))/\(1 <= j->∀ k,1 <= k->k < n->par k = j->¬ ahead (at_ H k) (at_ H (par j)))
def Dn (H:List Th) (n i0 i:Nat):Prop:=(∀ k,1 <= k->k < n->par k ≠ i->(k ≠ i\/i ≠ i0)->¬ ahead (at_ H k) (at_ H (par k)))/\(1 <= i->∀ k,1 <= k->k < n->par k = i->¬ ahead (at_ H k) (at_ H (par i)))
theorem up_zero {H:List Th} {n:Nat} (h:Up H n 0):Hp H n:=fun k h1 hn=>h.1 k h1 hn (by omega)
theorem up_stop {H:List Th} {n j:Nat} (h:Up H n j) (hs:¬ ahead (at_ H j) (at_ H (par j))):Hp H n:=fun k h1 hn=>by
  by_cases hk:k = j
  · rw [hk]; exact hs
  · exact h.1 k h1 hn hk
theorem up_step {H:List Th} {n j:Nat} (hl:n <= H.length) (hj:j < n) (h1:1 <= j) (h:Up H n j) (ha:ahead (at_ H j) (at_ H (par j))):Up (swp H (par j) j) n (par j):=by
  have hp:par j < j:=by unfold par; omega
  have sa:=swp_at H (i:=par j) (j:=j) (by omega) (by omega)
  refine ⟨fun k k1 kn hk=>?_,fun hp1 k k1 kn hk=>?_⟩
  · rw [sa k,sa (par k)]
    by_cases hkj:k = j
    · subst hkj
      rw [if_pos rfl,if_neg (by omega),if_pos rfl]
      exact ahead_asymm ha
    · rw [if_neg hkj,if_neg hk]
      by_cases hpk:par k = j
      · rw [if_pos hpk]; exact h.2 h1 k k1 kn hpk
      · rw [if_neg hpk]
        by_cases hpp:par k = par j
        · rw [if_pos hpp]
          have:=h.1 k k1 kn hkj
          rw [hpp] at this
          exact not_ahead_of this ha
        · rw [if_neg hpp]; exact h.1 k k1 kn hkj
  · have hpp:par (par j) < par j:=by unfold par at *; omega
    have e:=h.1 (par j) hp1 (by omega) (by omega)
    rw [sa k,sa (par (par j)),if_neg (show ¬ par (par j) = j by omega),if_neg (show ¬ par (par j) = par j by omega)]
    by_cases hkj:k = j
    · rw [if_pos hkj]; exact e
    · rw [if_neg hkj]
      have hkp:k ≠ par j:=fun h=>by rw [h] at hk; omega
      rw [if_neg hkp]
      have:=h.1 k k1 kn hkj
      rw [hk] at this
      exact not_ahead_trans this e
theorem dn_step {H:List Th} {n i0 i j:Nat} (hl:n <= H.length) (hj:j < n) (h1:1 <= j) (hi:par j = i) (hi0:i0 <= i) (h:Dn H n i0 i) (ha:ahead (at_ H j) (at_ H i))
    (hs:∀ k,1 <= k->k < n->par k = i->¬ ahead (at_ H k) (at_ H j)):Dn (swp H i j) n i0 j:=by
  have hij:i < j:=by subst hi; unfold par; omega
  have sa:=swp_at H (i:=i) (j:=j) (by omega) (by omega)
  refine ⟨fun k k1 kn hk _=>?_,fun _ k k1 kn hk=>?_⟩
  · rw [sa k,sa (par k),if_neg (show ¬ par k = j from hk)]
    by_cases hkj:k = j
    · subst hkj
      rw [if_pos rfl,if_pos hi]
      exact ahead_asymm ha
    · rw [if_neg hkj]
      by_cases hki:k = i
      · rw [if_pos hki]
        subst hki
        have hpk:par k ≠ k:=by unfold par; omega
        rw [if_neg hpk]
        exact h.2 k1 j h1 hj hi
      · rw [if_neg hki]
        by_cases hpi:par k = i
        · rw [if_pos hpi]; exact hs k k1 kn hpi
        · rw [if_neg hpi]; exact h.1 k k1 kn hpi (.inl hki)
  · have hkj:k ≠ j:=fun he=>by subst he; unfold par at hk; omega
    have hki:k ≠ i:=fun he=>by subst he; unfold par at hk; omega
    rw [hi,sa k,sa i,if_neg hkj,if_neg hki,if_neg (by omega),if_pos rfl]
    have:=h.1 k k1 kn (by rw [hk]; omega) (.inl hki)
    rw [hk] at this
    exact this
theorem dn_stop_moved {H:List Th} {n i0 i:Nat} (h:Dn H n i0 i) (hi:i ≠ i0) (hs:∀ k,1 <= k->k < n->par k = i->¬ ahead (at_ H k) (at_ H i)):Hp H n:=fun k k1 kn=>by
  by_cases hp:par k = i
  · rw [hp]; exact hs k k1 kn hp
  · exact h.1 k k1 kn hp (.inr hi)
theorem dn_stop_same {H:List Th} {n i:Nat} (h:Dn H n i i) (hs:∀ k,1 <= k->k < n->par k = i->¬ ahead (at_ H k) (at_ H i)):Up H n i:=by
  refine ⟨fun k k1 kn hk=>?_,h.2⟩
  by_cases hp:par k = i
  · rw [hp]; exact hs k k1 kn hp
  · exact h.1 k k1 kn hp (.inl hk)
theorem dn_start {H G:List Th} {n i:Nat} (h:Hp G n) (he:∀ k,k < n->k ≠ i->at_ H k = at_ G k) (hi:i < n):Dn H n i i:=by
  refine ⟨fun k k1 kn hp hk=>?_,fun i1 k k1 kn hp=>?_⟩
  · have hki:k ≠ i:=hk.resolve_right fun h=>h rfl
    rw [he k kn hki,he (par k) (by unfold par; omega) hp]
    exact h k k1 kn
  · have hki:k ≠ i:=fun e=>by subst e; unfold par at hp; omega
    have hpp:par i ≠ i:=by unfold par; omega
    rw [he k kn hki,he (par i) (by unfold par; omega) hpp]
    have a1:=h k k1 kn
    rw [hp] at a1
    exact not_ahead_trans a1 (h i i1 hi)
theorem up_start {H:List Th} {n:Nat} (h:Hp H n):Up H (n + 1) n:=by
  refine ⟨fun k k1 kn hk=>h k k1 (by omega),fun n1 k k1 kn hp=>?_⟩
  unfold par at hp; omega
theorem hp_first {H:List Th} {n:Nat} (h:Hp H n):∀ k,k < n->¬ ahead (at_ H k) (at_ H 0):=by
  intro k
  induction k using Nat.strongRecOn with
  | ind k ih =>
    intro hk
    by_cases h0:k = 0
    · subst h0; unfold ahead; omega
    · exact not_ahead_trans (h k (by omega) hk) (ih (par k) (by unfold par; omega) (by unfold par; omega))
theorem hp_less {H:List Th} {m n:Nat} (h:Hp H n) (hm:m <= n):Hp H m:=fun k k1 km=>h k k1 (by omega)
theorem hp_congr {H G:List Th} {n:Nat} (h:Hp G n) (he:∀ k,k < n->at_ H k = at_ G k):Hp H n:=fun k k1 kn=>by
  rw [he k kn,he (par k) (by unfold par; omega)]; exact h k k1 kn
end Go.Proofs.YtegephkpdlopaaaGreatDoor
set_option linter.unusedVariables false
set_option linter.unusedSimpArgs false
namespace Go.Proofs.YtegephkpdlopaaaGreatDoor
open Go.Sx Go.RowKit
theorem elem_queue_row:slEl Tryz.prog T_queue_row = some (T_ptr_queue_thing,1,8,.pointer none):=by kernel_rfl
def thc (t:Th) (k:Nat):List Value:=[.int .i64 t.prio,.int .i64 t.id,.int .i64 t.born,.int .i64 (k:Int)]
def ptr (b:Nat):Option Addr:=some ⟨b,0,none⟩
def pv (t:Th):Value:=.pointer (ptr t.b)
theorem ptr_ne (b:Nat):ptr b ≠ none:=by simp [ptr]
theorem apart_ptr {a b:Nat} (h:a ≠ b):Apart (ptr a) (ptr b):=fun x y hx hy=>by cases hx; cases hy; exact h
theorem apart_to {a:Nat} {p:Option Addr} (h:∀ x,p = some x->a ≠ x.block):Apart (ptr a) p:=fun x y hx hy=>by cases hx; exact h y hy
def Foot (qb:Nat) (p:Option Addr) (H:List Th) (b:Nat):Prop:=b = qb\/(∃ a,p = some a/\a.block = b)\/∃ t ∈ H,t.b = b
theorem foot_perm {qb:Nat} {p:Option Addr} {H G:List Th} (h:H.Perm G) (b:Nat):Foot qb p H b ↔ Foot qb p G b:=by
  unfold Foot
  constructor <;> rintro (h1 | h1 | ⟨t,ht,h1⟩)
  · exact .inl h1
  · exact .inr (.inl h1)
  · exact .inr (.inr ⟨t,h.mem_iff.1 ht,h1⟩)
  · exact .inl h1
  · exact .inr (.inl h1)
  · exact .inr (.inr ⟨t,h.mem_iff.2 ht,h1⟩)
structure QI (B:Nat) (w:World) (qb:Nat) (x y:Value) (p:Option Addr) (c:Nat) (H:List Th):Prop where
  slot:Own B w T_queue_Queue 3 (ptr qb) 1 1 [.slice p H.length c,x,y]
  arr:Own B w T_ptr_queue_thing 1 p H.length c (H.map pv)
  th:∀ k,k < H.length->Own B w T_queue_thing 4 (ptr (at_ H k).b) 1 1 (thc (at_ H k) k)
  inj:∀ i k,i < H.length->k < H.length->(at_ H i).b = (at_ H k).b->i = k
  aq:∀ i,i < H.length->(at_ H i).b ≠ qb
  ap:∀ a,p = some a->a.block ≠ qb/\∀ i,i < H.length->(at_ H i).b ≠ a.block
section
variable {B qb:Nat} {x y:Value} {p:Option Addr} {c:Nat} {H:List Th} {w:World}
theorem QI.ext {w':World} (q:QI B w qb x y p c H) (h:Ext w w'):QI B w' qb x y p c H:=⟨q.slot.ext h,q.arr.ext h,fun k hk=>(q.th k hk).ext h,q.inj,q.aq,q.ap⟩
theorem QI.fr {S:Nat->Prop} {w':World} (q:QI B w qb x y p c H) (h:Fr S w w') (hs:∀ b,Foot qb p H b->¬ S b):QI B w' qb x y p c H :=
  ⟨q.slot.fr h fun a ha=>by cases ha; exact hs _ (.inl rfl),q.arr.fr h fun a ha=>hs _ (.inr (.inl ⟨a,ha,rfl⟩)),fun k hk=>(q.th k hk).fr h fun a ha=>by cases ha; exact hs _ (.inr (.inr ⟨_,at_mem H hk,rfl⟩)),q.inj,q.aq,q.ap⟩
theorem QI.foot (q:QI B w qb x y p c H) {b:Nat} (h:Foot qb p H b):B <= b/\b < w.heap.size:=by
  rcases h with rfl | ⟨a,ha,rfl⟩ | ⟨t,ht,rfl⟩
  · exact q.slot.lt _ rfl
  · exact q.arr.lt a ha
  · obtain ⟨k,hk,rfl⟩:=mem_at ht
    exact (q.th k hk).lt _ rfl
theorem QI.ne (q:QI B w qb x y p c H) (h:0 < H.length):p ≠ none:=q.arr.ne1 h (by omega)
theorem map_at {i:Nat} (h:i < H.length):(H.map pv)[i]? = some (pv (at_ H i)):=by
  unfold at_
  rw [List.getElem?_map,List.getElem?_eq_getElem h,List.getD_eq_getElem?_getD,List.getElem?_eq_getElem h]; rfl
theorem arr_at {e:TypeId} {n:Nat} (o:Own B w e 1 p n c (H.map pv)) {i:Int} (h0:0 <= i) (h:i.toNat < H.length):cell w (pIdx p i 1) 0 = some (.pointer (ptr (at_ H i.toNat).b)):=by
  rw [cell_pIdx]
  have:=o.cells (i.toNat * 1 + 0) (pv (at_ H i.toNat)) (by rw [Nat.mul_one,Nat.add_zero]; exact map_at h)
  exact this
theorem store_idx {e:TypeId} {n:Nat} {q:Option Addr} {xs:List Value} {v:Value} {ns:List Nat} {i:Int} {K:World->Prop} (ho:Own B w e 1 q n c xs) (hi:i.toNat < xs.length) (h1:v.oneCell' = true) (hns:∀ b ∈ ns,∀ x,q = some x->x.block ≠ b)
    (hk:∀ w',Own B w' e 1 q n c (xs.set i.toNat v)->Grew w w' q q->K w'):Store w (pIdx q i 1) [v] ns K :=
  store_own ho (by rw [pIdx_map,Nat.mul_one]) (by simp; omega) (by simp) (by simpa using h1) hns hk
theorem ahead_k {t u:Th} {i k:Nat} (ht:Own B w T_queue_thing 4 (ptr t.b) 1 1 (thc t i)) (hu:Own B w T_queue_thing 4 (ptr u.b) 1 1 (thc u k)) :
    FnP Tryz.prog F_queue_thing_ahead #[.pointer (ptr t.b),.pointer (ptr u.b)] w fun v w'=>Ext w w'/\v = .bool (decide (ahead t u)):=by
  refine ok_queue_thing_ahead (ptr t.b) (ptr u.b) w _ ?_
  unfold wp_queue_thing_ahead
  simp only [pAdd_zero]
  have nt:=ptr_ne t.b
  have nu:=ptr_ne u.b
  refine ⟨nt,nt,nt,_,ht.cellAt (i:=0) rfl,nu,nu,nu,_,hu.cellAt (i:=0) rfl,fun _=>nt,fun _=>nt,fun _=>nt,fun hlt w2 h2=>⟨h2,?_⟩,
    fun hle=>⟨_,ht.cellAt (i:=0) rfl,nu,nu,nu,_,hu.cellAt (i:=0) rfl,fun _=>nt,fun _=>nt,fun he=>⟨_,ht.cellAt0 (i:=2) rfl,nu,nu,_,hu.cellAt0 (i:=2) rfl,fun w6 h6=>⟨h6,?_⟩⟩,fun hne w4 h4=>⟨h4,?_⟩⟩⟩
  · rw [decide_eq_true (show ahead t u from .inl hlt)]
  · congr 1
    refine decide_eq_decide.2 ?_
    unfold ahead; omega
  · rw [decide_eq_false]
    unfold ahead; omega
theorem less_k (q:QI B w qb x y p c H) {i k:Int} (i0:0 <= i) (hi:i < H.length) (k0:0 <= k) (hk:k < H.length) :
    FnP Tryz.prog F_queue_row_Less #[.slice p H.length c,.int .i64 i,.int .i64 k] w fun v w'=>Ext w w'/\v = .bool (decide (ahead (at_ H i.toNat) (at_ H k.toNat))):=by
  have hp:=q.ne (by omega)
  refine ok_queue_row_Less p H.length c i k w _ ⟨hp,i0,hi,_,arr_at q.arr i0 (by omega),hp,k0,hk,_,arr_at q.arr k0 (by omega),fun w2 h2=>?_⟩
  exact (ahead_k ((q.th i.toNat (by omega)).ext h2) ((q.th k.toNat (by omega)).ext h2)).mono fun v w3 ⟨e3,qhv⟩=>⟨e3,_,qhv,fun w5 h5=>⟨h5,rfl⟩⟩
theorem len_k:FnP Tryz.prog F_queue_row_Len #[.slice p H.length c] w fun v w'=>Ext w w'/\v = .int .i64 H.length :=
  ok_queue_row_Len p H.length c w _ fun w0 h0=>⟨h0,rfl⟩
theorem swap_k (q:QI B w qb x y p c H) {i k:Int} (i0:0 <= i) (hi:i < H.length) (k0:0 <= k) (hk:k < H.length) :
    FnP Tryz.prog F_queue_row_Swap #[.slice p H.length c,.int .i64 i,.int .i64 k] w fun v w'=>v = .tuple #[]/\QI B w' qb x y p c (swp H i.toNat k.toNat)/\Fr (Foot qb p H) w w':=by
  have hp:=q.ne (by omega)
  obtain ⟨a,rfl⟩:∃ a,p = some a:=by cases p with | none=>exact absurd rfl hp | some a=>exact ⟨a,rfl⟩
  obtain ⟨aq',ath⟩:=q.ap a rfl
  have hni:i.toNat < H.length:=by omega
  have hnk:k.toNat < H.length:=by omega
  refine ok_queue_row_Swap (some a) H.length c i k w _ ⟨hp,k0,hk,_,arr_at q.arr k0 hnk,hp,i0,hi,_,arr_at q.arr i0 hni,hp,i0,hi,?_⟩
  refine store_idx q.arr (by simpa using hni) rfl (by simp) fun w2 o2 g2=>⟨hp,k0,hk,store_idx o2 (by simpa using hnk) rfl (by simp) fun w3 o3 g3=>?_⟩
  have e3:((H.map pv).set i.toNat (.pointer (ptr (at_ H k.toNat).b))).set k.toNat (.pointer (ptr (at_ H i.toNat).b)) = (swp H i.toNat k.toNat).map pv:=by unfold swp; rw [List.map_set,List.map_set]; rfl
  rw [e3] at o3
  have hl:=swp_len H i.toNat k.toNat
  have th3:∀ m,m < H.length->Own B w3 T_queue_thing 4 (ptr (at_ H m).b) 1 1 (thc (at_ H m) m):=fun m hm =>
    ((q.th m hm).st (apart_to fun x hx=>by cases hx; exact ath m hm) g2).st (apart_to fun x hx=>by cases hx; exact ath m hm) g3
  have ci:=arr_at o3 i0 (by omega)
  have ck:=arr_at o3 k0 (by omega)
  rw [swp_at H hni hnk] at ci ck
  rw [if_pos rfl] at ck
  have ci':cell w3 (pIdx (some a) i 1) 0 = some (.pointer (ptr (at_ H k.toNat).b)):=by
    rw [ci]; by_cases h:i.toNat = k.toNat
    · rw [if_pos h,h]
    · rw [if_neg h,if_pos rfl]
  refine ⟨hp,i0,hi,_,ci',hp,k0,hk,_,ck,ptr_ne _,ptr_ne _,?_⟩
  refine store_one (th3 k.toNat hnk) (by simp [thc]) rfl (by simp) fun w4 o4 g4=>⟨ptr_ne _,ptr_ne _,?_⟩
  have o4':Own B w4 T_queue_thing 4 (ptr (at_ H k.toNat).b) 1 1 (thc (at_ H k.toNat) i.toNat):=by
    have:(thc (at_ H k.toNat) k.toNat).set 3 (.int .i64 i) = thc (at_ H k.toNat) i.toNat:=by simp only [thc,List.set_cons_succ,List.set_cons_zero]; rw [Int.toNat_of_nonneg i0]
    rw [<- this]; exact o4
  have h5:Own B w4 T_queue_thing 4 (ptr (at_ H i.toNat).b) 1 1 (thc (at_ H i.toNat) i.toNat):=by
    by_cases h:i.toNat = k.toNat
    · rw [<- h] at o4'; exact o4'
    · exact (th3 i.toNat hni).st (apart_ptr fun he=>h (q.inj _ _ hni hnk he)) g4
  refine store_one h5 (by simp [thc]) rfl (by simp) fun w5 o5 g5=>?_
  have o5':Own B w5 T_queue_thing 4 (ptr (at_ H i.toNat).b) 1 1 (thc (at_ H i.toNat) k.toNat):=by
    have:(thc (at_ H i.toNat) i.toNat).set 3 (.int .i64 k) = thc (at_ H i.toNat) k.toNat:=by simp only [thc,List.set_cons_succ,List.set_cons_zero]; rw [Int.toNat_of_nonneg k0]
    rw [<- this]; exact o5
  intro w8 h8
  have sa:=swp_at H hni hnk
  have mem:∀ m,m < H.length->∃ m',m' < H.length/\at_ (swp H i.toNat k.toNat) m = at_ H m'/\(m' = if m = k.toNat then i.toNat else if m = i.toNat then k.toNat else m):=fun m hm=>by
    rw [sa m]
    by_cases h1:m = k.toNat
    · rw [if_pos h1,if_pos h1]; exact ⟨_,hni,rfl,rfl⟩
    · rw [if_neg h1,if_neg h1]
      by_cases h2:m = i.toNat
      · rw [if_pos h2,if_pos h2]; exact ⟨_,hnk,rfl,rfl⟩
      · rw [if_neg h2,if_neg h2]; exact ⟨_,hm,rfl,rfl⟩
  have out:∀ m,m < H.length->m ≠ i.toNat->m ≠ k.toNat->Own B w5 T_queue_thing 4 (ptr (at_ H m).b) 1 1 (thc (at_ H m) m):=fun m hm h1 h2 =>
    ((th3 m hm).st (apart_ptr fun he=>h2 (q.inj _ _ hm hnk he)) g4).st (apart_ptr fun he=>h1 (q.inj _ _ hm hni he)) g5
  refine ⟨rfl,QI.ext ⟨?_,?_,fun m hm=>?_,fun m n hm hn he=>?_,fun m hm=>?_,fun b hb=>⟨?_,fun m hm=>?_⟩⟩ h8,?_⟩
  · rw [hl]
    have s3:=(q.slot.st (apart_to fun x hx=>by cases hx; exact Ne.symm aq') g2).st (apart_to fun x hx=>by cases hx; exact Ne.symm aq') g3
    exact (s3.st (apart_ptr (Ne.symm (q.aq _ hnk))) g4).st (apart_ptr (Ne.symm (q.aq _ hni))) g5
  · rw [hl]
    have f:∀ m,m < H.length->Apart (some a) (ptr (at_ H m).b):=fun m hm u v hu qhv=>by cases hu; cases qhv; exact Ne.symm (ath m hm)
    exact (o3.st (f _ hnk) g4).st (f _ hni) g5
  · rw [hl] at hm
    rw [sa m]
    by_cases h1:m = k.toNat
    · rw [if_pos h1,h1]; exact o5'
    · rw [if_neg h1]
      by_cases h2:m = i.toNat
      · rw [if_pos h2,h2]
        exact o4'.st (apart_ptr fun he=>by have:=q.inj _ _ hnk hni he; omega) g5
      · rw [if_neg h2]; exact out m hm h2 h1
  · rw [hl] at hm hn
    obtain ⟨m',h1,h2,h3⟩:=mem m hm
    obtain ⟨n',h4,h5,h6⟩:=mem n hn
    rw [h2,h5] at he
    have:=q.inj _ _ h1 h4 he
    subst this
    rw [h3] at h6
    split at h6 <;> split at h6 <;> (try split at h6) <;> (try split at h6) <;> omega
  · rw [hl] at hm
    obtain ⟨m',h1,h2,-⟩:=mem m hm
    rw [h2]; exact q.aq _ h1
  · cases hb; exact aq'
  · rw [hl] at hm
    cases hb
    obtain ⟨m',h1,h2,-⟩:=mem m hm
    rw [h2]; exact ath _ h1
  · have fa:Fr (Foot qb (some a) H) w w3:=(fr_grew g2 fun x hx=>.inr (.inl ⟨x,hx,rfl⟩)).tr (fr_grew g3 fun x hx=>.inr (.inl ⟨x,hx,rfl⟩))
    have ft:∀ m,m < H.length->∀ x,ptr (at_ H m).b = some x->Foot qb (some a) H x.block:=fun m hm x hx=>by cases hx; exact .inr (.inr ⟨_,at_mem H hm,rfl⟩)
    exact ((fa.tr (fr_grew g4 (ft _ hnk))).tr (fr_grew g5 (ft _ hni))).tr (fr_ext h8)
def qhv (qb:Nat):Value:=.iface T_ptr_queue_row (.pointer (ptr qb))
theorem inv_of {name:String} {f:FuncId} {pr:Bool} {r:Value} {args:List Value} {K:Value->World->Prop}
    (hm:((Tryz.prog.info? T_ptr_queue_row).bind fun i=>i.methods.find? (·.name == name)).map (fun m=>(m.path.toList,m.func)) = some ([],some (f,pr)))
    (hr : (receiverAt T_ptr_queue_row (.val (.pointer (ptr qb))) pr (some ((name.splitOn ".").getLastD name))).run Tryz.prog w = .ok r w) (h : FnP Tryz.prog f (#[r] ++ args.toArray) w K) : InvP Tryz.prog name (qhv qb) args w K := by
  cases hi:Tryz.prog.info? T_ptr_queue_row with
  | none => rw [hi] at hm; simp at hm
  | some i =>
    rw [hi] at hm
    simp only [Option.bind_some] at hm
    cases hq:i.methods.find? (·.name == name) with
    | none => rw [hq] at hm; simp at hm
    | some m =>
      rw [hq] at hm
      simp only [Option.map_some,Option.some.injEq,Prod.mk.injEq] at hm
      refine ⟨T_ptr_queue_row,.pointer (ptr qb),f,r,rfl,?_,h⟩
      obtain ⟨n,hn⟩:∃ n,Tryz.prog.types.size + Made.depth = n + 1:=⟨Tryz.prog.types.size + Made.depth - 1,by unfold Made.depth; omega⟩
      rw [hn]
      exact method_at hi hq (by have:=hm.1; exact Array.toList_eq_nil_iff.1 this) hm.2 hr
theorem QI.recv (q:QI B w qb x y p c H) {o:Option String}:(receiverAt T_ptr_queue_row (.val (.pointer (ptr qb))) false o).run Tryz.prog w = .ok (.slice p H.length c) w :=
  recv_load (e:=T_queue_row) (d:=.slice T_ptr_queue_thing) (by kernel_rfl) (by kernel_rfl) (by kernel_rfl) (q.slot.cellAt (i:=0) rfl)
theorem inv_len (q : QI B w qb x y p c H) {K : Value -> World -> Prop} (h : FnP Tryz.prog F_queue_row_Len #[.slice p H.length c] w K) : InvP Tryz.prog "Len" (qhv qb) [] w K := inv_of (pr := false) (by kernel_rfl) q.recv h
theorem inv_less (q : QI B w qb x y p c H) {a b : Value} {K : Value -> World -> Prop} (h : FnP Tryz.prog F_queue_row_Less #[.slice p H.length c, a, b] w K) : InvP Tryz.prog "Less" (qhv qb) [a, b] w K := inv_of (pr := false) (by kernel_rfl) q.recv h
theorem inv_swap (q : QI B w qb x y p c H) {a b : Value} {K : Value -> World -> Prop} (h : FnP Tryz.prog F_queue_row_Swap #[.slice p H.length c, a, b] w K) : InvP Tryz.prog "Swap" (qhv qb) [a, b] w K := inv_of (pr := false) (by kernel_rfl) q.recv h
theorem inv_push {a : Value} {K : Value -> World -> Prop} (h : FnP Tryz.prog F_queue_row_Push #[.pointer (ptr qb), a] w K) : InvP Tryz.prog "Push" (qhv qb) [a] w K := inv_of (pr := true) (by kernel_rfl) (recv_ptr (e := T_queue_row) (by kernel_rfl)) h
theorem inv_pop {K : Value -> World -> Prop} (h : FnP Tryz.prog F_queue_row_Pop #[.pointer (ptr qb)] w K) : InvP Tryz.prog "Pop" (qhv qb) [] w K := inv_of (pr := true) (by kernel_rfl) (recv_ptr (e := T_queue_row) (by kernel_rfl)) h
theorem tdiv2 {j:Int} (h:0 <= j):(j - 1).tdiv 2 = ((par j.toNat:Nat):Int):=by
  unfold par
  by_cases h0:j = 0
  · subst h0; decide
  · rw [Int.tdiv_eq_ediv_of_nonneg (by omega)]; omega
theorem up_k (q:QI B w qb x y p c H) {j:Int} {n:Nat} (j0:0 <= j) (hj:j < n) (hnl:n <= H.length) (hn:H.length <= 1000) (hu:Up H n j.toNat) :
    FnP Tryz.prog F_container_heap_up #[qhv qb,.int .i64 j] w fun v w'=>v = .tuple #[]/\∃ Y,QI B w' qb x y p c Y/\Y.Perm H/\(∀ k,n <= k->at_ Y k = at_ H k)/\Hp Y n/\Fr (Foot qb p H) w w':=by
  refine ok_container_heap_up (qhv qb) j w _ ⟨fun j1 w'=>0 <= j1/\j1 < n/\∃ Y,QI B w' qb x y p c Y/\Y.Perm H/\(∀ k,n <= k->at_ Y k = at_ H k)/\Up Y n j1.toNat/\Fr (Foot qb p H) w w',fun j1 _=>j1.toNat,⟨j0,hj,H,q,.refl _,fun _ _=>rfl,hu,Fr.refl _ _⟩,?_⟩
  rintro j1 w2 ⟨h0,h1,Y,qy,hp,hout,hu,hf⟩
  have hl:=hp.length_eq
  simp only [tdiv2 h0]
  have hpar:par j1.toNat <= j1.toNat:=by unfold par; omega
  refine ⟨i64 (by omega),i64 (by omega),fun he w3 h3=>?_,fun hne w3 h3=>inv_less (qy.ext h3) ((less_k (qy.ext h3) h0 (by omega) (by omega) (by omega)).mono fun v w4 ⟨e4,qhv⟩=>⟨_,qhv,fun hb w6 h6=>?_,fun hb w6 h6=>?_⟩)⟩
  · have:j1.toNat = 0:=by unfold par at he; omega
    rw [this] at hu
    exact ⟨trivial,Y,qy.ext h3,hp,hout,up_zero hu,hf.tr (fr_ext h3)⟩
  · simp only [Int.toNat_natCast,decide_eq_false_iff_not] at hb
    exact ⟨trivial,Y,((qy.ext h3).ext e4).ext h6,hp,hout,up_stop hu hb,((hf.tr (fr_ext h3)).tr (fr_ext e4)).tr (fr_ext h6)⟩
  · simp only [Int.toNat_natCast,decide_eq_true_eq] at hb
    have q6:=((qy.ext h3).ext e4).ext h6
    have hlt:par j1.toNat < j1.toNat:=by unfold par at hne ⊢; omega
    refine inv_swap q6 ((swap_k q6 (by omega) (by omega) h0 (by omega)).mono fun v w7 ⟨qhv,q7,f7⟩=>⟨qhv,⟨by omega,by omega,_,q7,?_,fun k hk=>?_,?_,?_⟩,by omega⟩)
    · exact (swp_perm Y (by omega) (by omega)).trans hp
    · rw [swp_at Y (by omega) (by omega),if_neg (by omega),if_neg (by omega)]; exact hout k hk
    · simp only [Int.toNat_natCast]
      exact up_step (by omega) (by omega) (by omega) hu hb
    · exact (((hf.tr (fr_ext h3)).tr (fr_ext e4)).tr (fr_ext h6)).tr (f7.mono fun b=>(foot_perm hp b).1)
theorem down_k (q:QI B w qb x y p c H) {i0 n:Int} (h00:0 <= i0) (n0:0 <= n) (hn:n <= H.length) (hH:H.length <= 1000) (hi:i0 <= 1000) (hu:Dn H n.toNat i0.toNat i0.toNat) :
    FnP Tryz.prog F_container_heap_down #[qhv qb,.int .i64 i0,.int .i64 n] w fun v w'=>∃ (r:Bool) (Y:List Th),v = .bool r/\QI B w' qb x y p c Y/\Y.Perm H/\(∀ k,n.toNat <= k->at_ Y k = at_ H k)/\(r = true->Hp Y n.toNat)/\(r = false->Y = H/\Up Y n.toNat i0.toNat)/\Fr (Foot qb p H) w w':=by
  refine ok_container_heap_down (qhv qb) i0 n w _ ⟨fun i w'=>i0 <= i/\(i < n\/i = i0)/\∃ Y,QI B w' qb x y p c Y/\Y.Perm H/\(∀ k,n.toNat <= k->at_ Y k = at_ H k)/\(i = i0->Y = H)/\Dn Y n.toNat i0.toNat i.toNat/\Fr (Foot qb p H) w w',fun i _=>(2001 - i).toNat,⟨Int.le_refl _,.inr rfl,H,q,.refl _,fun _ _=>rfl,fun _=>rfl,hu,Fr.refl _ _⟩,?_⟩
  rintro i w2 ⟨hi0,hin,Y,qy,hp,hout,hsame,hd,hf⟩
  have hl:=hp.length_eq
  have stop:∀ w',QI B w' qb x y p c Y->Fr (Foot qb p H) w w'->(∀ k,1 <= k->k < n.toNat->par k = i.toNat->¬ ahead (at_ Y k) (at_ Y i.toNat))->∃ (r:Bool) (Y:List Th),Value.bool (decide (i0 < i)) = .bool r/\QI B w' qb x y p c Y/\Y.Perm H/\(∀ k,n.toNat <= k->at_ Y k = at_ H k)/\(r = true->Hp Y n.toNat)/\(r = false->Y = H/\Up Y n.toNat i0.toNat)/\Fr (Foot qb p H) w w':=by
    intro w' qw fw hs
    refine ⟨_,Y,rfl,qw,hp,hout,fun h=>?_,fun h=>?_,fw⟩
    · simp only [decide_eq_true_eq] at h
      exact dn_stop_moved hd (by omega) hs
    · simp only [decide_eq_false_iff_not] at h
      obtain rfl:i = i0:=by omega
      exact ⟨hsame rfl,dn_stop_same hd hs⟩
  have kid:∀ k,1 <= k->k < n.toNat->par k = i.toNat->(k:Int) = 2 * i + 1\/(k:Int) = 2 * i + 1 + 1:=fun k k1 kn hk=>by unfold par at hk; omega
  have step:∀ (j:Int) (w6:World),(j = 2 * i + 1\/j = 2 * i + 1 + 1)->j < n->QI B w6 qb x y p c Y->Fr (Foot qb p H) w w6->ahead (at_ Y j.toNat) (at_ Y i.toNat)->(∀ k,1 <= k->k < n.toNat->par k = i.toNat->¬ ahead (at_ Y k) (at_ Y j.toNat)) ->
      InvP Tryz.prog "Swap" (qhv qb) [.int .i64 i, .int .i64 j] w6 fun v7 w7 => v7 = .tuple #[] /\ ((i0 <= j /\ (j < n \/ j = i0) /\ ∃ Y, QI B w7 qb x y p c Y /\ Y.Perm H /\ (∀ k, n.toNat <= k -> at_ Y k = at_ H k) /\ (j = i0 -> Y = H) /\ Dn Y n.toNat i0.toNat j.toNat /\ Fr (Foot qb p H) w w7) /\ (2001 - j).toNat < (2001 - i).toNat) := by
    intro j w6 hj hjn qw fw ha hs
    refine inv_swap qw ((swap_k qw (by omega) (by omega) (by omega) (by omega)).mono fun v w7 ⟨qhv,q7,f7⟩=>⟨qhv,⟨by omega,.inl hjn,_,q7,?_,fun k hk=>?_,fun h=>by omega,?_,?_⟩,by omega⟩)
    · exact (swp_perm Y (by omega) (by omega)).trans hp
    · rw [swp_at Y (by omega) (by omega),if_neg (by omega),if_neg (by omega)]; exact hout k hk
    · exact dn_step (by omega) (by omega) (by omega) (by unfold par; omega) (by omega) hd ha hs
    · exact fw.tr (f7.mono fun b=>(foot_perm hp b).1)
  refine ⟨i64 (by omega),i64 (by omega),fun hge w3 h3=>stop w3 (qy.ext h3) (hf.tr (fr_ext h3)) fun k k1 kn hk=>by rcases kid k k1 kn hk with h | h <;> omega,fun hlt=>⟨i64 (by omega),fun h2 w3 h3=>?_,fun h2 w3 h3=>?_⟩⟩
  · have q3:=qy.ext h3
    refine inv_less q3 ((less_k q3 (by omega) (by omega) (by omega) (by omega)).mono fun v w4 ⟨e4,qhv⟩=>⟨_,qhv,fun hb w6 h6=>?_,fun hb w6 h6=>?_⟩)
    all_goals
      have q6:=(q3.ext e4).ext h6
      have f6:=((hf.tr (fr_ext h3)).tr (fr_ext e4)).tr (fr_ext h6)
      simp only [decide_eq_true_eq,decide_eq_false_iff_not] at hb
      refine inv_less q6 ((less_k q6 (by omega) (by omega) (by omega) (by omega)).mono fun v w7 ⟨e7,qhv⟩=>⟨_,qhv,fun hc w9 h9=>?_,fun hc w9 h9=>?_⟩)
      all_goals
        have q9:=(q6.ext e7).ext h9
        have f9:=(f6.tr (fr_ext e7)).tr (fr_ext h9)
        simp only [decide_eq_true_eq,decide_eq_false_iff_not] at hc
    · refine stop w9 q9 f9 fun k k1 kn hk=>?_
      rcases kid k k1 kn hk with h | h
      · have:k = (2 * i + 1).toNat:=by omega
        rw [this]; exact fun h'=>hc (ahead_trans hb h')
      · have:k = (2 * i + 1 + 1).toNat:=by omega
        rw [this]; exact hc
    · refine step _ w9 (.inr rfl) h2 q9 f9 hc fun k k1 kn hk=>?_
      rcases kid k k1 kn hk with h | h
      · have:k = (2 * i + 1).toNat:=by omega
        rw [this]; exact ahead_asymm hb
      · have:k = (2 * i + 1 + 1).toNat:=by omega
        rw [this]; unfold ahead; omega
    · refine stop w9 q9 f9 fun k k1 kn hk=>?_
      rcases kid k k1 kn hk with h | h
      · have:k = (2 * i + 1).toNat:=by omega
        rw [this]; exact hc
      · have:k = (2 * i + 1 + 1).toNat:=by omega
        rw [this]; exact not_ahead_trans hb hc
    · refine step _ w9 (.inl rfl) hlt.1 q9 f9 hc fun k k1 kn hk=>?_
      rcases kid k k1 kn hk with h | h
      · have:k = (2 * i + 1).toNat:=by omega
        rw [this]; unfold ahead; omega
      · have:k = (2 * i + 1 + 1).toNat:=by omega
        rw [this]; exact hb
  · have q3:=qy.ext h3
    refine inv_less q3 ((less_k q3 (by omega) (by omega) (by omega) (by omega)).mono fun v w4 ⟨e4,qhv⟩=>⟨_,qhv,fun hb w6 h6=>?_,fun hb w6 h6=>?_⟩)
    all_goals
      have q6:=(q3.ext e4).ext h6
      have f6:=((hf.tr (fr_ext h3)).tr (fr_ext e4)).tr (fr_ext h6)
      simp only [decide_eq_true_eq,decide_eq_false_iff_not] at hb
    · refine stop w6 q6 f6 fun k k1 kn hk=>?_
      rcases kid k k1 kn hk with h | h
      · have:k = (2 * i + 1).toNat:=by omega
        rw [this]; exact hb
      · omega
    · refine step _ w6 (.inl rfl) hlt.1 q6 f6 hb fun k k1 kn hk=>?_
      rcases kid k k1 kn hk with h | h
      · have:k = (2 * i + 1).toNat:=by omega
        rw [this]; unfold ahead; omega
      · omega
end
end Go.Proofs.YtegephkpdlopaaaGreatDoor
