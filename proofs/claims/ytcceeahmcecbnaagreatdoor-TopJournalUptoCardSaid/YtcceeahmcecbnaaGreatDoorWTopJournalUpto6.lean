/- The framework, the program's texts and what is shown of them: part 6. -/
import Derived.Test.YtcceeahmcecbnaaGreatDoorWTopJournalUpto5
import Derived.WalkKit
import Derived.Test.YtcceeahmcecbnaaGreatDoorRows
import Derived.LaidEql
import Derived.Stop.Asserts
import Derived.RowKitTokens
import Derived.Shelf.Spec.TrailingZeros
import Derived.Lay
set_option linter.unusedVariables false
set_option linter.unusedSimpArgs false
set_option maxRecDepth 100000
namespace Go.Proofs.YtcceeahmcecbnaaGreatDoor
open Go.Sx Go.RowKit
noncomputable def zeJ:Array Oper:=match Tryz.f151.body with
 |some (.seq _ (.seq _ (.seq _ (.seq (.region _ ops _) _)))) => ops
 |_ => #[]
noncomputable def zcF (i : Nat) : Oper := (zeJ[i]?).getD ⟨none, .move (.const undef), 0, "", #[], none⟩
theorem zoE:zeJ.size=59:=by kernel_rfl
theorem zjX{i:Nat}(h:i<59):zeJ[i]?=some (zcF i):=by
 have:i<zeJ.size:=by rw[zoE];exact h
 simp[zcF,this]
def zbr(db:Addr)(F:FuncId)(v:Value):Prop:=v=.func (.func F) #[.pointer (some db)] #[]
def zgT(pb:Addr)(F:FuncId)(v:Value):Prop:=v=.func (.func F) #[] #[.pointer (some pb)]
def zf5(pb:Addr)(F:FuncId)(v:Value)(w:World):Prop :=
 ∃p3:Addr,v=.func (.func 207) #[] #[.pointer (some pb),.pointer (some p3)]/\w.cell? p3=some (.func (.func F) #[] #[.pointer (some pb)])
def zdi(pb:Addr)(F:FuncId)(v:Value)(w:World):Prop :=
 ∃p2 p1:Addr,v=.func (.func 251) #[] #[.pointer (some p2)]/\w.cell? p2=some (.func (.func 204) #[] #[.pointer (some p1)])/\∃u,w.cell? p1=some u/\zf5 pb F u w
def znG(pb:Addr)(v:Value)(w:World):Prop :=
 ∃p2:Addr,v=.func (.func 251) #[] #[.pointer (some p2)]/\w.cell? p2=some (.func (.func 218) #[] #[.pointer (some pb)])
def zd5(n:Int)(b:Bool)(R:Value->World->Prop)(v:Value)(w:World):Prop :=
 ∃f bd cap,v=.agg #[.int .i64 n,.bool b,.func f bd cap]/\R (.func f bd cap) w
def zKY(w w':World):Prop:=∀(p:Addr)(v:Value),(match v with|.pointer (some _)=>True|.func _ _ _=>True|_=>False)->w.cell? p=some v->w'.cell? p=some v
theorem Cst.cel{w w':World}(h:Cst w w'):zKY w w':=fun p v _ hc=>h.cell hc
theorem zf5.cst{pb:Addr}{F:FuncId}{v:Value}{w w':World}(h:zf5 pb F v w)(k:zKY w w'):zf5 pb F v w':=by
 obtain⟨p,e1,e2⟩:=h;exact⟨p,e1,k _ _ trivial e2⟩
theorem zdi.cst{pb:Addr}{F:FuncId}{v:Value}{w w':World}(h:zdi pb F v w)(k:zKY w w'):zdi pb F v w':=by
 obtain⟨p,q,e1,e2,u,e3,e4⟩:=h
 have e4':=e4.cst k
 obtain⟨p3,rfl,_⟩:=e4
 exact⟨p,q,e1,k _ _ trivial e2,_,k _ _ trivial e3,e4'⟩
theorem znG.cst{pb:Addr}{v:Value}{w w':World}(h:znG pb v w)(k:zKY w w'):znG pb v w':=by
 obtain⟨p,e1,e2⟩:=h;exact⟨p,e1,k _ _ trivial e2⟩
theorem zd5.cst{n:Int}{b:Bool}{R:Value->World->Prop}{v:Value}{w w':World}(h:zd5 n b R v w)(k:∀v,R v w->R v w'):zd5 n b R v w':=by
 obtain⟨f,bd,cap,e1,e2⟩:=h;exact⟨f,bd,cap,e1,k _ e2⟩
def PV(db pb:Addr):Nat->Value->World->Prop
 |1,v,w => v=.pointer (some db)
 |2,v,w => zbr db 208 v
 |3,v,w => zd5 4 false (fun f _ => zbr db 208 f) v w
 |5,v,w => v=.pointer (some db)
 |6,v,w => zbr db 209 v
 |7,v,w => zd5 1 false (fun f _ => zbr db 209 f) v w
 |9,v,w => v=.pointer (some db)
 |10,v,w => zbr db 210 v
 |11,v,w => zd5 7 false (fun f _ => zbr db 210 f) v w
 |13,v,w => v=.pointer (some db)
 |14,v,w => zbr db 211 v
 |15,v,w => zd5 6 true (fun f _ => zbr db 211 f) v w
 |17,v,w => v=.func (.func 202) #[] #[]
 |18,v,w => zgT pb 206 v
 |19,v,w => zgT pb 212 v
 |20,v,w => zf5 pb 212 v w
 |21,v,w => zdi pb 212 v w
 |22,v,w => zd5 2 false (zdi pb 212) v w
 |24,v,w => v=.pointer (some db)
 |25,v,w => zbr db 213 v
 |26,v,w => zd5 1 true (fun f _ => zbr db 213 f) v w
 |28,v,w => v=.func (.func 202) #[] #[]
 |29,v,w => zgT pb 206 v
 |30,v,w => zgT pb 214 v
 |31,v,w => zf5 pb 214 v w
 |32,v,w => zdi pb 214 v w
 |33,v,w => zd5 2 false (zdi pb 214) v w
 |35,v,w => v=.func (.func 202) #[] #[]
 |36,v,w => zgT pb 206 v
 |37,v,w => zgT pb 216 v
 |38,v,w => zf5 pb 216 v w
 |39,v,w => zdi pb 216 v w
 |40,v,w => zd5 2 false (zdi pb 216) v w
 |42,v,w => v=.func (.func 202) #[] #[]
 |43,v,w => zgT pb 206 v
 |44,v,w => zgT pb 217 v
 |45,v,w => zf5 pb 217 v w
 |46,v,w => zdi pb 217 v w
 |47,v,w => zd5 2 false (zdi pb 217) v w
 |49,v,w => zgT pb 218 v
 |50,v,w => znG pb v w
 |51,v,w => zd5 2 false (znG pb) v w
 |53,v,w => v=.pointer (some db)
 |54,v,w => zbr db 222 v
 |55,v,w => zd5 2 true (fun f _ => zbr db 222 f) v w
 |_,_,_ => True
theorem zHD(db pb:Addr)(i:Nat)(v:Value)(w w':World)(k:zKY w w')(h:PV db pb i v w):PV db pb i v w':=by
 unfold PV at h ⊢
 split at h
 ·exact h
 ·exact h
 ·exact h.cst (fun _ x=>x)
 ·exact h
 ·exact h
 ·exact h.cst (fun _ x=>x)
 ·exact h
 ·exact h
 ·exact h.cst (fun _ x=>x)
 ·exact h
 ·exact h
 ·exact h.cst (fun _ x=>x)
 ·exact h
 ·exact h
 ·exact h
 ·exact h.cst k
 ·exact h.cst k
 ·exact h.cst (fun _ x=>x.cst k)
 ·exact h
 ·exact h
 ·exact h.cst (fun _ x=>x)
 ·exact h
 ·exact h
 ·exact h
 ·exact h.cst k
 ·exact h.cst k
 ·exact h.cst (fun _ x=>x.cst k)
 ·exact h
 ·exact h
 ·exact h
 ·exact h.cst k
 ·exact h.cst k
 ·exact h.cst (fun _ x=>x.cst k)
 ·exact h
 ·exact h
 ·exact h
 ·exact h.cst k
 ·exact h.cst k
 ·exact h.cst (fun _ x=>x.cst k)
 ·exact h
 ·exact h.cst k
 ·exact h.cst (fun _ x=>x.cst k)
 ·exact h
 ·exact h
 ·exact h.cst (fun _ x=>x)
 ·exact trivial
theorem zj2(db pb:Addr)(i:Nat)(v:Value)(w w':World)(k:Cst w w')(h:PV db pb i v w):PV db pb i v w':=zHD db pb i v w w' k.cel h
def KL:List (ByteArray×Nat×Nat):=[((⟨#[104,111,115,116]⟩:ByteArray),4,3),((⟨#[111,112,101,110]⟩:ByteArray),8,7),((⟨#[110,101,120,116]⟩:ByteArray),12,11),((⟨#[115,117,98,109,105,116]⟩:ByteArray),16,15),((⟨#[116,105,99,107]⟩:ByteArray),23,22),((⟨#[112,108,97,110]⟩:ByteArray),27,26),((⟨#[103,111,111,100]⟩:ByteArray),34,33),((⟨#[98,97,100]⟩:ByteArray),41,40),((⟨#[99,97,110,99,101,108]⟩:ByteArray),48,47),((⟨#[115,104,111,119]⟩:ByteArray),52,51),((⟨#[102,114,101,101]⟩:ByteArray),56,55)]
def TI:List (Nat×Nat):=[(57,52),(58,2)]
theorem zxw:zoe zeJ KL TI [1,3,4] 53=true:=by kernel_rfl
abbrev zFb(db pb:Addr)(b0:Act)(w0:World):=DI (PV db pb) zeJ KL TI [1,3,4] b0 w0
structure zKX(db pb:Addr)(b0:Act)(w0:World):Prop where
 size:b0.tmps.size=53
 t1:b0.tmps.getD 1 undef=.pointer (some pb)
 t3:b0.tmps.getD 3 undef=.func (.func 202) #[] #[]
 t4:b0.tmps.getD 4 undef=.func (.func 206) #[] #[.pointer (some pb)]
 cell:w0.cell? pb=some (.pointer (some db))
 lt:pb.block<w0.heap.size
def zc9(db pb:Addr)(i:Nat):Prop:=∀(Q:Exit->Act->World->Prop)(b0:Act)(w0:World),zKX db pb b0 w0->∀(l:Array Bool)(a:Act)(w:World),zFb db pb b0 w0 l a w->i∈Region.ready .any zeJ l ->
 wpOp Tryz.prog zeJ Q i (zFb db pb b0 w0 (l.setIfInBounds i true)) a w
theorem dep{i j:Nat}{l:Array Bool}(hi:i<59)(h:i∈Region.ready .any zeJ l)(hb:(zcF i).after.any (fun e=>e.on==j&&Region.binds .any e)=true):l.getD j false=true:=by
 obtain⟨_,o,ho,hall⟩:=mem_ready.1 h
 rw[zjX hi] at ho;injection ho with ho;subst ho
 obtain⟨e,he,hb⟩:=Array.any_eq_true'.1 hb
 simp only[Bool.and_eq_true,beq_iff_eq] at hb
 rw[<-hb.1];exact hall e he hb.2
theorem zls{i d:Nat}(hi:i<59)(hd:(zcF i).dst=some d):(zcF i).guard=none:=(zzD zxw (zjX hi) hd).1
theorem ev_t{db pb:Addr}{b0:Act}{w0:World}{l:Array Bool}{a:Act}{w:World}(hB:zKX db pb b0 w0)(h:zFb db pb b0 w0 l a w) :
  a.eval (.tmp 1)=.pointer (some pb)/\a.eval (.tmp 3)=.func (.func 202) #[] #[]/\a.eval (.tmp 4)=.func (.func 206) #[] #[.pointer (some pb)]/\w.cell? pb=some (.pointer (some db)) :=
 ⟨(h.base 1 (by decide)).trans hB.t1,(h.base 3 (by decide)).trans hB.t3,(h.base 4 (by decide)).trans hB.t4,(h.ext.cell hB.lt).trans hB.cell⟩
theorem zgY{db pb:Addr}{b0:Act}{w0:World}{l:Array Bool}{a:Act}{w:World}(h:zFb db pb b0 w0 l a w){j d:Nat}(hj:j<59)(hd:(zcF j).dst=some d)(hl:l.getD j false=true) :
 PV db pb j (a.eval (.tmp d)) w:=h.val j _ d (zjX hj) hl hd
theorem zKl{i:Nat}(h:i<57):∀x∈TI,x.1=i->False:=by
 intro x hx he
 have:x.1=57\/x.1=58:=by
  simp only[TI,List.mem_cons,List.not_mem_nil,or_false] at hx
  rcases hx with rfl|rfl
  ·exact .inl rfl
  ·exact .inr rfl
 omega
theorem zl2{db pb:Addr}{i d:Nat}(h0:0<i)(hi:i<57)(hd:(zcF i).dst=some d)
  (hr:∀(b0:Act)(w0:World),zKX db pb b0 w0->∀(l:Array Bool)(a:Act)(w:World),zFb db pb b0 w0 l a w->i∈Region.ready .any zeJ l->∃v,(execOp a.eval (zcF i)).run Tryz.prog w=.ok (.value v) w/\PV db pb i v w):zc9 db pb i:=by
 intro Q b0 w0 hB l a w h hm
 obtain⟨v,e1,e2⟩:=hr b0 w0 hB l a w h hm
 exact zoO (zjX (by omega)) (zls (by omega) hd) e1 (h.put zxw hB.size (zj2 db pb) (zjX (by omega)) hd (Ext.refl w) e2 (fun hh=>by omega) (fun x hx he=>(zKl hi x hx he).elim))
theorem zKe(pb:Addr)(v:Addr)(w:World)(h:w.cell? pb=some (.pointer (some v))):(Instr.loadAt 115 (.pointer (some pb))).run Tryz.prog w=.ok (.pointer (some v)) w:=by
 have ha:(isAgg 115).run Tryz.prog w=.ok false w:=by kernel_rfl
 simp only[Instr.loadAt,Instr.sureAddr,Sem.run_bind,Sem.run_pure,Result.andThen_ok,loadVar,ha]
 simp[h]
theorem znk{db pb:Addr}(i d:Nat)(h0:0<i)(hi:i<57)(hop:(zcF i).op=.load 115 (.tmp 1))(hd:(zcF i).dst=some d)(hp:∀v w,v=.pointer (some db)->PV db pb i v w):zc9 db pb i :=
 zl2 h0 hi hd fun b0 w0 hB l a w h hm=>by
  obtain⟨e1,_,_,e4⟩:=ev_t hB h
  refine⟨_,?_,hp _ w rfl⟩
  simp only[execOp,hop,e1,Sem.run_bind,zKe pb db w e4,Result.andThen_ok,Sem.run_pure]
theorem zjl{db pb:Addr}(i d t:Nat)(h0:0<i)(hi:i<57)(hop:(zcF i).op=.move (.tmp t))(hd:(zcF i).dst=some d)
  (hp:(t=3/\∀v w,v=.func (.func 202) #[] #[]->PV db pb i v w)\/(t=4/\∀v w,zgT pb 206 v->PV db pb i v w)):zc9 db pb i :=
 zl2 h0 hi hd fun b0 w0 hB l a w h hm=>by
  obtain⟨_,e2,e3,_⟩:=ev_t hB h
  rcases hp with⟨rfl,hp⟩|⟨rfl,hp⟩
  ·exact⟨_,by simp only[execOp,hop,e2,Sem.run_pure],hp _ w rfl⟩
  ·exact⟨_,by simp only[execOp,hop,e3,Sem.run_pure],hp _ w rfl⟩
theorem zvX{db pb:Addr}(i d F:Nat)(h0:0<i)(hi:i<57)(hop:(zcF i).op=.makeFunc (.func F) #[] #[.tmp 1])(hd:(zcF i).dst=some d)(hp:∀v w,zgT pb F v->PV db pb i v w):zc9 db pb i :=
 zl2 h0 hi hd fun b0 w0 hB l a w h hm=>by
  obtain⟨e1,_,_,_⟩:=ev_t hB h
  refine⟨_,?_,hp _ w rfl⟩
  simp only[execOp,hop,Instr.makeFunc,List.map_toArray,List.map_cons,List.map_nil,e1,Sem.run_bind,Sem.run_pure,Result.andThen_ok]
theorem znl{db pb:Addr}(i d t j F:Nat)(h0:0<i)(hi:i<57)(hj:j<57)(hop:(zcF i).op=.makeFunc (.func F) #[.tmp t] #[])(hd:(zcF i).dst=some d)(hdj:(zcF j).dst=some t)
  (hb:(zcF i).after.any (fun e=>e.on==j&&Region.binds .any e)=true) (hq:∀v w,PV db pb j v w->v=.pointer (some db)) (hp:∀v w,zbr db F v->PV db pb i v w):zc9 db pb i :=
 zl2 h0 hi hd fun b0 w0 hB l a w h hm=>by
  have e1:=hq _ _ (zgY h (by omega) hdj (dep (by omega) hm hb))
  refine⟨_,?_,hp _ w rfl⟩
  simp only[execOp,hop,Instr.makeFunc,List.map_toArray,List.map_cons,List.map_nil,e1,Sem.run_bind,Sem.run_pure,Result.andThen_ok]
theorem zFy(n:Int)(b:Bool)(f:Fn)(bd cap:Array Value)(w:World):(Instr.build 252 #[(0,.int .i64 n),(1,.bool b),(2,.func f bd cap)]).run Tryz.prog w=.ok (.agg #[.int .i64 n,.bool b,.func f bd cap]) w:=by kernel_rfl
theorem zd2{db pb:Addr}{n:Int}{b:Bool}{R:Value->World->Prop}(i d t j:Nat)(h0:0<i)(hi:i<57)(hj:j<57)(hop:(zcF i).op=.build 252 #[(0,.const (.int .i64 n)),(1,.const (.bool b)),(2,.tmp t)])(hd:(zcF i).dst=some d)(hdj:(zcF j).dst=some t)
  (hb:(zcF i).after.any (fun e=>e.on==j&&Region.binds .any e)=true) (hq:∀v w,PV db pb j v w->(∃f bd cap,v=.func f bd cap)/\R v w) (hp:∀v w,zd5 n b R v w->PV db pb i v w):zc9 db pb i :=
 zl2 h0 hi hd fun b0 w0 hB l a w h hm=>by
  obtain⟨⟨f,bd,cap,e1⟩,e2⟩:=hq _ _ (zgY h (by omega) hdj (dep (by omega) hm hb))
  rw[e1] at e2
  refine⟨_,?_,hp _ w ⟨f,bd,cap,rfl,e2⟩⟩
  have e3:∀n:Int,a.eval (.const (.int .i64 n))=.int .i64 n:=fun _=>rfl
  have e4:∀n:Bool,a.eval (.const (.bool n))=.bool n:=fun _=>rfl
  simp only[execOp,hop,List.map_toArray,List.map_cons,List.map_nil,e1,e3,e4,Sem.run_bind,zFy,Sem.run_pure,Result.andThen_ok]
theorem zh3{db pb:Addr}(i d:Nat)(f x:Operand)(h0:0<i)(hi:i<57)(hop:(zcF i).op=.call { callee:=.value f,args:=#[x],argTypes:=#[70] }\/(zcF i).op=.call { callee:=.value f,args:=#[x],argTypes:=#[322] })(hd:(zcF i).dst=some d)
  (hr:∀(b0:Act)(w0:World),zKX db pb b0 w0->∀(l:Array Bool)(a:Act)(w:World),zFb db pb b0 w0 l a w->i∈Region.ready .any zeJ l ->
   ∃g cap,a.eval f=.func (.func g) #[] cap/\FnP Tryz.prog g (#[a.eval x]++cap) w fun v w'=>Ext w w'/\PV db pb i v w'):zc9 db pb i:=by
 intro Q b0 w0 hB l a w h hm
 obtain⟨g,cap,e1,e2⟩:=hr b0 w0 hB l a w h hm
 have hrun:(execOp a.eval (zcF i)).run Tryz.prog w=.ok (.enter g (#[a.eval x]++cap)) w:=by
  rcases hop with hop|hop
  ·have hh:=zhZ (w:=w) hop e1 e2.1
   rwa [List.map_toArray,List.map_cons,List.map_nil] at hh
  ·have hh:=zhZ (w:=w) hop e1 e2.1
   rwa [List.map_toArray,List.map_cons,List.map_nil] at hh
 exact zBh (zjX (by omega)) (zls (by omega) hd) hrun (e2.mono fun v w' hv=>h.put zxw hB.size (zj2 db pb) (zjX (by omega)) hd hv.1 hv.2 (fun hh=>by omega) (fun x hx he=>(zKl hi x hx he).elim))
theorem zlC{w w1:World}{t:TypeId}{v:Value}{p:Option Addr}(h:zAi w t [v] p w1):∃q:Addr,p=some q/\w1.cell? q=some v :=
 ⟨⟨w.heap.size,0,none⟩,h.at_,by simp[World.cell?,h.block]⟩
theorem zsX(pb:Addr)(F:FuncId)(w:World):FnP Tryz.prog 206 #[.func (.func F) #[] #[.pointer (some pb)],.pointer (some pb)] w fun v w'=>Ext w w'/\zf5 pb F v w' :=
 zhP _ (some pb) w _ fun w0 x0=>by
  refine⟨fun v hv=>by simp at hv;subst hv;rfl,fun p w1 hn w2 x2=>?_⟩
  obtain⟨q,rfl,hq⟩:=zlC hn
  exact⟨(x0.trans hn.ext).trans x2,q,rfl,(Cst.of_ext x2).cell hq⟩
theorem zIe(u:Value)(hu:u.oneCell'=true)(w:World):FnP Tryz.prog 203 #[u] w fun v w'=>Ext w w'/\∃p2:Addr,v=.func (.func 251) #[] #[.pointer (some p2)]/\w'.cell? p2=some u :=
 zn7 _ w _ fun w0 x0=>by
  refine⟨fun v hv=>by simp at hv;subst hv;exact hu,fun p w1 hn w2 x2=>?_⟩
  obtain⟨q,rfl,hq⟩:=zlC hn
  exact⟨(x0.trans hn.ext).trans x2,q,rfl,(Cst.of_ext x2).cell hq⟩
theorem zs0(pb:Addr)(F:FuncId)(u:Value)(w:World)(hu:zf5 pb F u w):FnP Tryz.prog 202 #[u] w fun v w'=>Ext w w'/\zdi pb F v w' :=
 zhO _ w _ fun w0 x0=>by
  have ho:u.oneCell'=true:=by obtain⟨p3,rfl,_⟩:=hu;rfl
  refine⟨fun v hv=>by simp at hv;subst hv;exact ho,fun p w1 hn w2 x2=>?_⟩
  obtain⟨q,rfl,hq⟩:=zlC hn
  refine(zIe (.func (.func 204) #[] #[.pointer (some q)]) rfl w2).mono fun v w3 hv=>?_
  obtain⟨x3,p2,e1,e2⟩:=hv
  refine⟨x3,v,rfl,fun w5 x5=>⟨((((x0.trans hn.ext).trans x2).trans x3).trans x5),p2,q,e1,(Cst.of_ext x5).cell e2,u,?_,?_⟩⟩
  ·exact(Cst.of_ext (x2.trans (x3.trans x5))).cell hq
  ·exact hu.cst (Cst.of_ext ((((x0.trans hn.ext).trans x2).trans x3).trans x5)).cel
theorem kstr:zBk Tryz.prog 9 Value.string .string:=zsQ (by kernel_rfl)
theorem zIw:Tryz.prog.underlying 254=some (.map 9 252):=by kernel_rfl
theorem zjk{db pb:Addr}(i t j:Nat)(K:ByteArray)(h0:0<i)(hi:i<57)(hj:j<57)(hop:(zcF i).op=.insert 254 (.tmp 6) (.const (.string K)) (.tmp t))(hd:(zcF i).dst=none)(hgu:(zcF i).guard=none)(hdj:(zcF j).dst=some t)
  (hb:(zcF i).after.any (fun e=>e.on==j&&Region.binds .any e)=true) (hb0:(zcF i).after.any (fun e=>e.on==0&&Region.binds .any e)=true)
  (hk:KL.find? (fun x=>decide (x.1=K))=some (K,i,j)) (hu:∀x∈KL,x.2.1=i->x.1=K):zc9 db pb i:=by
 intro Q b0 w0 hB l a w h hm
 have hv:=zgY h (by omega) hdj (dep (by omega) hm hb)
 have hl0:=dep (by omega) hm hb0
 obtain⟨mb,M,e1,e2,e3,e4⟩:=h.mp hl0
 obtain⟨v',w',hr,hw⟩:=zh0 (P:=Tryz.prog) kstr zIw e3 (a:=K) (v:=a.eval (.tmp t)) (Q:=fun v w'=>v=undef/\zdc Value.string w' mb (zqz M K (a.eval (.tmp t)))/\zco w w' (some ⟨mb,0,none⟩) (some ⟨mb,0,none⟩)) (fun w' h1 h2=>⟨rfl,h1,h2⟩)
 obtain⟨rfl,hm',hg⟩:=hw
 have hr':(Instr.mapUpdate 254 (.map (some mb)) (.string K) (a.eval (.tmp t))).run Tryz.prog w=.ok () w':=by
  have hr2:(do Instr.mapUpdate 254 (.map (some mb)) (.string K) (a.eval (.tmp t));pure undef:Sem Value).run Tryz.prog w=.ok undef w':=hr
  simp only[Sem.run_bind] at hr2
  cases hq:(Instr.mapUpdate 254 (.map (some mb)) (.string K) (a.eval (.tmp t))).run Tryz.prog w with
  |ok u w2 => rw[hq] at hr2;simp at hr2;rw[hr2]
  |halt x w2 => rw[hq] at hr2;simp at hr2
 refine zEJ (zjX (by omega)) hgu ?_ (h.ins zxw (zj2 db pb) (zjX (by omega)) hd (by omega) hl0 e1 e2 e3 e4 hk hu hv hm' hg)
 have e5:a.eval (.tmp 6)=.map (some mb):=e1
 have e6:a.eval (.const (.string K))=.string K:=rfl
 simp only[execOp,hop,e5,e6,Sem.run_bind,hr',Result.andThen_ok,Sem.run_pure]
theorem zKL{db pb:Addr}:zc9 db pb 0:=by
 intro Q b0 w0 hB l a w h hm
 have hl0:l.getD 0 false=false:=by
  have:=(mem_ready.1 hm).1
  cases hq:l[0]? with
  |none => simp[hq]
  |some b => simp[hq] at this ⊢;exact this
 obtain⟨v',w',hr,hw⟩:=zkS (P:=Tryz.prog) (enc:=(Value.string:ByteArray->Value)) (t:=254) (w:=w) (K:=fun v w'=>v=.map (some w.heap.size)/\zdc Value.string w' w.heap.size []/\Ext w w') (fun w' h1 h2=>⟨rfl,h1,h2⟩)
 obtain⟨rfl,hm',hx⟩:=hw
 have hop:(zcF 0).op=.makeMap 254 none:=by kernel_rfl
 have hr':(Instr.makeMap 254 none).run Tryz.prog w=.ok (.map (some w.heap.size)) w':=hr
 refine zoO (zjX (by omega)) (zls (d:=6) (by omega) (by kernel_rfl)) ?_ (h.put zxw hB.size (zj2 db pb) (zjX (by omega)) (d:=6) (by kernel_rfl) hx (by unfold PV;exact trivial) (fun _=>⟨hl0,rfl,hm'⟩) (fun x hx he=>(zKl (by omega) x hx he).elim))
 simp only[execOp,hop,Option.map_none,Sem.run_bind,hr',Result.andThen_ok,Sem.run_pure]
theorem st_57{db pb:Addr}:zc9 db pb 57:=by
 intro Q b0 w0 hB l a w h hm
 have hl0:=dep (j:=0) (by omega) hm (by kernel_rfl)
 have hop:(zcF 57).op=.move (.tmp 6):=by kernel_rfl
 refine zoO (v:=a.eval (.tmp 6)) (zjX (by omega)) (zls (d:=52) (by omega) (by kernel_rfl)) ?_ (h.put zxw hB.size (zj2 db pb) (zjX (by omega)) (d:=52) (by kernel_rfl) (Ext.refl w) (by unfold PV;exact trivial) (fun hh=>by omega) (fun x hx he=>⟨hl0,rfl⟩))
 simp only[execOp,hop,Sem.run_pure]
theorem st_58{db pb:Addr}:zc9 db pb 58:=by
 intro Q b0 w0 hB l a w h hm
 have hl0:=dep (j:=0) (by omega) hm (by kernel_rfl)
 have hl7:=dep (j:=57) (by omega) hm (by kernel_rfl)
 have hop:(zcF 58).op=.assign (.tmp 52):=by kernel_rfl
 refine zoO (v:=a.eval (.tmp 52)) (zjX (by omega)) (zls (d:=2) (by omega) (by kernel_rfl)) ?_ (h.put zxw hB.size (zj2 db pb) (zjX (by omega)) (d:=2) (by kernel_rfl) (Ext.refl w) (by unfold PV;exact trivial) (fun hh=>by omega) (fun x hx he=>⟨hl0,(h.tie (57,52) (by decide) hl7).2⟩))
 simp only[execOp,hop,Sem.run_pure]
theorem st_1{db pb:Addr}:zc9 db pb 1 :=
 znk 1 7 (by decide) (by decide) (by kernel_rfl) (by kernel_rfl) (fun v w e=>e)
theorem st_2{db pb:Addr}:zc9 db pb 2 :=
 znl 2 8 7 1 208 (by decide) (by decide) (by decide) (by kernel_rfl) (by kernel_rfl) (by kernel_rfl) (by kernel_rfl) (fun v w e=>e) (fun v w e=>e)
theorem st_3{db pb:Addr}:zc9 db pb 3 :=
 zd2 (n:=4) (b:=false) (R:=(fun f _=>zbr db 208 f)) 3 9 8 2 (by decide) (by decide) (by decide) (by kernel_rfl) (by kernel_rfl) (by kernel_rfl) (by kernel_rfl) (fun v w e=>⟨⟨_,_,_,e⟩,e⟩) (fun v w e=>e)
theorem st_4{db pb:Addr}:zc9 db pb 4 :=
 zjk 4 9 3 (⟨#[104,111,115,116]⟩:ByteArray) (by decide) (by decide) (by decide) (by kernel_rfl) (by kernel_rfl) (by kernel_rfl) (by kernel_rfl) (by kernel_rfl) (by kernel_rfl) (by kernel_rfl) (by decide)
theorem st_5{db pb:Addr}:zc9 db pb 5 :=
 znk 5 10 (by decide) (by decide) (by kernel_rfl) (by kernel_rfl) (fun v w e=>e)
theorem st_6{db pb:Addr}:zc9 db pb 6 :=
 znl 6 11 10 5 209 (by decide) (by decide) (by decide) (by kernel_rfl) (by kernel_rfl) (by kernel_rfl) (by kernel_rfl) (fun v w e=>e) (fun v w e=>e)
theorem st_7{db pb:Addr}:zc9 db pb 7 :=
 zd2 (n:=1) (b:=false) (R:=(fun f _=>zbr db 209 f)) 7 12 11 6 (by decide) (by decide) (by decide) (by kernel_rfl) (by kernel_rfl) (by kernel_rfl) (by kernel_rfl) (fun v w e=>⟨⟨_,_,_,e⟩,e⟩) (fun v w e=>e)
theorem st_8{db pb:Addr}:zc9 db pb 8 :=
 zjk 8 12 7 (⟨#[111,112,101,110]⟩:ByteArray) (by decide) (by decide) (by decide) (by kernel_rfl) (by kernel_rfl) (by kernel_rfl) (by kernel_rfl) (by kernel_rfl) (by kernel_rfl) (by kernel_rfl) (by decide)
theorem st_9{db pb:Addr}:zc9 db pb 9 :=
 znk 9 13 (by decide) (by decide) (by kernel_rfl) (by kernel_rfl) (fun v w e=>e)
theorem st_10{db pb:Addr}:zc9 db pb 10 :=
 znl 10 14 13 9 210 (by decide) (by decide) (by decide) (by kernel_rfl) (by kernel_rfl) (by kernel_rfl) (by kernel_rfl) (fun v w e=>e) (fun v w e=>e)
theorem st_11{db pb:Addr}:zc9 db pb 11 :=
 zd2 (n:=7) (b:=false) (R:=(fun f _=>zbr db 210 f)) 11 15 14 10 (by decide) (by decide) (by decide) (by kernel_rfl) (by kernel_rfl) (by kernel_rfl) (by kernel_rfl) (fun v w e=>⟨⟨_,_,_,e⟩,e⟩) (fun v w e=>e)
theorem st_12{db pb:Addr}:zc9 db pb 12 :=
 zjk 12 15 11 (⟨#[110,101,120,116]⟩:ByteArray) (by decide) (by decide) (by decide) (by kernel_rfl) (by kernel_rfl) (by kernel_rfl) (by kernel_rfl) (by kernel_rfl) (by kernel_rfl) (by kernel_rfl) (by decide)
theorem st_13{db pb:Addr}:zc9 db pb 13 :=
 znk 13 16 (by decide) (by decide) (by kernel_rfl) (by kernel_rfl) (fun v w e=>e)
theorem st_14{db pb:Addr}:zc9 db pb 14 :=
 znl 14 17 16 13 211 (by decide) (by decide) (by decide) (by kernel_rfl) (by kernel_rfl) (by kernel_rfl) (by kernel_rfl) (fun v w e=>e) (fun v w e=>e)
theorem st_15{db pb:Addr}:zc9 db pb 15 :=
 zd2 (n:=6) (b:=true) (R:=(fun f _=>zbr db 211 f)) 15 18 17 14 (by decide) (by decide) (by decide) (by kernel_rfl) (by kernel_rfl) (by kernel_rfl) (by kernel_rfl) (fun v w e=>⟨⟨_,_,_,e⟩,e⟩) (fun v w e=>e)
theorem st_16{db pb:Addr}:zc9 db pb 16 :=
 zjk 16 18 15 (⟨#[115,117,98,109,105,116]⟩:ByteArray) (by decide) (by decide) (by decide) (by kernel_rfl) (by kernel_rfl) (by kernel_rfl) (by kernel_rfl) (by kernel_rfl) (by kernel_rfl) (by kernel_rfl) (by decide)
theorem st_17{db pb:Addr}:zc9 db pb 17 :=
 zjl 17 19 3 (by decide) (by decide) (by kernel_rfl) (by kernel_rfl) (.inl ⟨rfl,fun v w e=>e⟩)
theorem st_18{db pb:Addr}:zc9 db pb 18 :=
 zjl 18 20 4 (by decide) (by decide) (by kernel_rfl) (by kernel_rfl) (.inr ⟨rfl,fun v w e=>e⟩)
theorem st_19{db pb:Addr}:zc9 db pb 19 :=
 zvX 19 21 212 (by decide) (by decide) (by kernel_rfl) (by kernel_rfl) (fun v w e=>e)
theorem st_20{db pb:Addr}:zc9 db pb 20 :=
 zh3 20 22 (.tmp 20) (.tmp 21) (by decide) (by decide) (.inl (by kernel_rfl)) (by kernel_rfl) fun b0 w0 hB l a w h hm=>by
  have e1:zgT pb 206 (a.eval (.tmp 20)):=zgY h (j:=18) (by decide) (by kernel_rfl) (dep (by decide) hm (by kernel_rfl))
  have e2:zgT pb 212 (a.eval (.tmp 21)):=zgY h (j:=19) (by decide) (by kernel_rfl) (dep (by decide) hm (by kernel_rfl))
  refine⟨206,#[.pointer (some pb)],e1,?_⟩
  rw[e2]
  exact zsX pb 212 w
theorem st_21{db pb:Addr}:zc9 db pb 21 :=
 zh3 21 23 (.tmp 19) (.tmp 22) (by decide) (by decide) (.inl (by kernel_rfl)) (by kernel_rfl) fun b0 w0 hB l a w h hm=>by
  have e1:a.eval (.tmp 19)=.func (.func 202) #[] #[]:=zgY h (j:=17) (by decide) (by kernel_rfl) (dep (by decide) hm (by kernel_rfl))
  have e2:zf5 pb 212 (a.eval (.tmp 22)) w:=zgY h (j:=20) (by decide) (by kernel_rfl) (dep (by decide) hm (by kernel_rfl))
  exact⟨202,#[],e1,zs0 pb 212 _ w e2⟩
theorem st_22{db pb:Addr}:zc9 db pb 22 :=
 zd2 (n:=2) (b:=false) (R:=(zdi pb 212)) 22 24 23 21 (by decide) (by decide) (by decide) (by kernel_rfl) (by kernel_rfl) (by kernel_rfl) (by kernel_rfl) (fun v w e=>⟨by obtain⟨p,q,e1,_⟩:=e;exact⟨_,_,_,e1⟩,e⟩) (fun v w e=>e)
theorem st_23{db pb:Addr}:zc9 db pb 23 :=
 zjk 23 24 22 (⟨#[116,105,99,107]⟩:ByteArray) (by decide) (by decide) (by decide) (by kernel_rfl) (by kernel_rfl) (by kernel_rfl) (by kernel_rfl) (by kernel_rfl) (by kernel_rfl) (by kernel_rfl) (by decide)
theorem st_24{db pb:Addr}:zc9 db pb 24 :=
 znk 24 25 (by decide) (by decide) (by kernel_rfl) (by kernel_rfl) (fun v w e=>e)
theorem st_25{db pb:Addr}:zc9 db pb 25 :=
 znl 25 26 25 24 213 (by decide) (by decide) (by decide) (by kernel_rfl) (by kernel_rfl) (by kernel_rfl) (by kernel_rfl) (fun v w e=>e) (fun v w e=>e)
theorem st_26{db pb:Addr}:zc9 db pb 26 :=
 zd2 (n:=1) (b:=true) (R:=(fun f _=>zbr db 213 f)) 26 27 26 25 (by decide) (by decide) (by decide) (by kernel_rfl) (by kernel_rfl) (by kernel_rfl) (by kernel_rfl) (fun v w e=>⟨⟨_,_,_,e⟩,e⟩) (fun v w e=>e)
theorem st_27{db pb:Addr}:zc9 db pb 27 :=
 zjk 27 27 26 (⟨#[112,108,97,110]⟩:ByteArray) (by decide) (by decide) (by decide) (by kernel_rfl) (by kernel_rfl) (by kernel_rfl) (by kernel_rfl) (by kernel_rfl) (by kernel_rfl) (by kernel_rfl) (by decide)
theorem st_28{db pb:Addr}:zc9 db pb 28 :=
 zjl 28 28 3 (by decide) (by decide) (by kernel_rfl) (by kernel_rfl) (.inl ⟨rfl,fun v w e=>e⟩)
theorem st_29{db pb:Addr}:zc9 db pb 29 :=
 zjl 29 29 4 (by decide) (by decide) (by kernel_rfl) (by kernel_rfl) (.inr ⟨rfl,fun v w e=>e⟩)
theorem st_30{db pb:Addr}:zc9 db pb 30 :=
 zvX 30 30 214 (by decide) (by decide) (by kernel_rfl) (by kernel_rfl) (fun v w e=>e)
theorem st_31{db pb:Addr}:zc9 db pb 31 :=
 zh3 31 31 (.tmp 29) (.tmp 30) (by decide) (by decide) (.inl (by kernel_rfl)) (by kernel_rfl) fun b0 w0 hB l a w h hm=>by
  have e1:zgT pb 206 (a.eval (.tmp 29)):=zgY h (j:=29) (by decide) (by kernel_rfl) (dep (by decide) hm (by kernel_rfl))
  have e2:zgT pb 214 (a.eval (.tmp 30)):=zgY h (j:=30) (by decide) (by kernel_rfl) (dep (by decide) hm (by kernel_rfl))
  refine⟨206,#[.pointer (some pb)],e1,?_⟩
  rw[e2]
  exact zsX pb 214 w
theorem st_32{db pb:Addr}:zc9 db pb 32 :=
 zh3 32 32 (.tmp 28) (.tmp 31) (by decide) (by decide) (.inl (by kernel_rfl)) (by kernel_rfl) fun b0 w0 hB l a w h hm=>by
  have e1:a.eval (.tmp 28)=.func (.func 202) #[] #[]:=zgY h (j:=28) (by decide) (by kernel_rfl) (dep (by decide) hm (by kernel_rfl))
  have e2:zf5 pb 214 (a.eval (.tmp 31)) w:=zgY h (j:=31) (by decide) (by kernel_rfl) (dep (by decide) hm (by kernel_rfl))
  exact⟨202,#[],e1,zs0 pb 214 _ w e2⟩
theorem st_33{db pb:Addr}:zc9 db pb 33 :=
 zd2 (n:=2) (b:=false) (R:=(zdi pb 214)) 33 33 32 32 (by decide) (by decide) (by decide) (by kernel_rfl) (by kernel_rfl) (by kernel_rfl) (by kernel_rfl) (fun v w e=>⟨by obtain⟨p,q,e1,_⟩:=e;exact⟨_,_,_,e1⟩,e⟩) (fun v w e=>e)
theorem st_34{db pb:Addr}:zc9 db pb 34 :=
 zjk 34 33 33 (⟨#[103,111,111,100]⟩:ByteArray) (by decide) (by decide) (by decide) (by kernel_rfl) (by kernel_rfl) (by kernel_rfl) (by kernel_rfl) (by kernel_rfl) (by kernel_rfl) (by kernel_rfl) (by decide)
theorem st_35{db pb:Addr}:zc9 db pb 35 :=
 zjl 35 34 3 (by decide) (by decide) (by kernel_rfl) (by kernel_rfl) (.inl ⟨rfl,fun v w e=>e⟩)
theorem st_36{db pb:Addr}:zc9 db pb 36 :=
 zjl 36 35 4 (by decide) (by decide) (by kernel_rfl) (by kernel_rfl) (.inr ⟨rfl,fun v w e=>e⟩)
theorem st_37{db pb:Addr}:zc9 db pb 37 :=
 zvX 37 36 216 (by decide) (by decide) (by kernel_rfl) (by kernel_rfl) (fun v w e=>e)
theorem st_38{db pb:Addr}:zc9 db pb 38 :=
 zh3 38 37 (.tmp 35) (.tmp 36) (by decide) (by decide) (.inl (by kernel_rfl)) (by kernel_rfl) fun b0 w0 hB l a w h hm=>by
  have e1:zgT pb 206 (a.eval (.tmp 35)):=zgY h (j:=36) (by decide) (by kernel_rfl) (dep (by decide) hm (by kernel_rfl))
  have e2:zgT pb 216 (a.eval (.tmp 36)):=zgY h (j:=37) (by decide) (by kernel_rfl) (dep (by decide) hm (by kernel_rfl))
  refine⟨206,#[.pointer (some pb)],e1,?_⟩
  rw[e2]
  exact zsX pb 216 w
theorem st_39{db pb:Addr}:zc9 db pb 39 :=
 zh3 39 38 (.tmp 34) (.tmp 37) (by decide) (by decide) (.inl (by kernel_rfl)) (by kernel_rfl) fun b0 w0 hB l a w h hm=>by
  have e1:a.eval (.tmp 34)=.func (.func 202) #[] #[]:=zgY h (j:=35) (by decide) (by kernel_rfl) (dep (by decide) hm (by kernel_rfl))
  have e2:zf5 pb 216 (a.eval (.tmp 37)) w:=zgY h (j:=38) (by decide) (by kernel_rfl) (dep (by decide) hm (by kernel_rfl))
  exact⟨202,#[],e1,zs0 pb 216 _ w e2⟩
theorem st_40{db pb:Addr}:zc9 db pb 40 :=
 zd2 (n:=2) (b:=false) (R:=(zdi pb 216)) 40 39 38 39 (by decide) (by decide) (by decide) (by kernel_rfl) (by kernel_rfl) (by kernel_rfl) (by kernel_rfl) (fun v w e=>⟨by obtain⟨p,q,e1,_⟩:=e;exact⟨_,_,_,e1⟩,e⟩) (fun v w e=>e)
theorem st_41{db pb:Addr}:zc9 db pb 41 :=
 zjk 41 39 40 (⟨#[98,97,100]⟩:ByteArray) (by decide) (by decide) (by decide) (by kernel_rfl) (by kernel_rfl) (by kernel_rfl) (by kernel_rfl) (by kernel_rfl) (by kernel_rfl) (by kernel_rfl) (by decide)
theorem st_42{db pb:Addr}:zc9 db pb 42 :=
 zjl 42 40 3 (by decide) (by decide) (by kernel_rfl) (by kernel_rfl) (.inl ⟨rfl,fun v w e=>e⟩)
theorem st_43{db pb:Addr}:zc9 db pb 43 :=
 zjl 43 41 4 (by decide) (by decide) (by kernel_rfl) (by kernel_rfl) (.inr ⟨rfl,fun v w e=>e⟩)
theorem st_44{db pb:Addr}:zc9 db pb 44 :=
 zvX 44 42 217 (by decide) (by decide) (by kernel_rfl) (by kernel_rfl) (fun v w e=>e)
theorem st_45{db pb:Addr}:zc9 db pb 45 :=
 zh3 45 43 (.tmp 41) (.tmp 42) (by decide) (by decide) (.inl (by kernel_rfl)) (by kernel_rfl) fun b0 w0 hB l a w h hm=>by
  have e1:zgT pb 206 (a.eval (.tmp 41)):=zgY h (j:=43) (by decide) (by kernel_rfl) (dep (by decide) hm (by kernel_rfl))
  have e2:zgT pb 217 (a.eval (.tmp 42)):=zgY h (j:=44) (by decide) (by kernel_rfl) (dep (by decide) hm (by kernel_rfl))
  refine⟨206,#[.pointer (some pb)],e1,?_⟩
  rw[e2]
  exact zsX pb 217 w
theorem st_46{db pb:Addr}:zc9 db pb 46 :=
 zh3 46 44 (.tmp 40) (.tmp 43) (by decide) (by decide) (.inl (by kernel_rfl)) (by kernel_rfl) fun b0 w0 hB l a w h hm=>by
  have e1:a.eval (.tmp 40)=.func (.func 202) #[] #[]:=zgY h (j:=42) (by decide) (by kernel_rfl) (dep (by decide) hm (by kernel_rfl))
  have e2:zf5 pb 217 (a.eval (.tmp 43)) w:=zgY h (j:=45) (by decide) (by kernel_rfl) (dep (by decide) hm (by kernel_rfl))
  exact⟨202,#[],e1,zs0 pb 217 _ w e2⟩
theorem st_47{db pb:Addr}:zc9 db pb 47 :=
 zd2 (n:=2) (b:=false) (R:=(zdi pb 217)) 47 45 44 46 (by decide) (by decide) (by decide) (by kernel_rfl) (by kernel_rfl) (by kernel_rfl) (by kernel_rfl) (fun v w e=>⟨by obtain⟨p,q,e1,_⟩:=e;exact⟨_,_,_,e1⟩,e⟩) (fun v w e=>e)
theorem st_48{db pb:Addr}:zc9 db pb 48 :=
 zjk 48 45 47 (⟨#[99,97,110,99,101,108]⟩:ByteArray) (by decide) (by decide) (by decide) (by kernel_rfl) (by kernel_rfl) (by kernel_rfl) (by kernel_rfl) (by kernel_rfl) (by kernel_rfl) (by kernel_rfl) (by decide)
theorem st_49{db pb:Addr}:zc9 db pb 49 :=
 zvX 49 46 218 (by decide) (by decide) (by kernel_rfl) (by kernel_rfl) (fun v w e=>e)
theorem st_50{db pb:Addr}:zc9 db pb 50 :=
 zh3 50 47 (.func 203) (.tmp 46) (by decide) (by decide) (.inr (by kernel_rfl)) (by kernel_rfl) fun b0 w0 hB l a w h hm=>by
  have e2:zgT pb 218 (a.eval (.tmp 46)):=zgY h (j:=49) (by decide) (by kernel_rfl) (dep (by decide) hm (by kernel_rfl))
  refine⟨203,#[],rfl,?_⟩
  rw[e2]
  exact zIe _ rfl w
theorem st_51{db pb:Addr}:zc9 db pb 51 :=
 zd2 (n:=2) (b:=false) (R:=(znG pb)) 51 48 47 50 (by decide) (by decide) (by decide) (by kernel_rfl) (by kernel_rfl) (by kernel_rfl) (by kernel_rfl) (fun v w e=>⟨by obtain⟨p,e1,_⟩:=e;exact⟨_,_,_,e1⟩,e⟩) (fun v w e=>e)
theorem st_52{db pb:Addr}:zc9 db pb 52 :=
 zjk 52 48 51 (⟨#[115,104,111,119]⟩:ByteArray) (by decide) (by decide) (by decide) (by kernel_rfl) (by kernel_rfl) (by kernel_rfl) (by kernel_rfl) (by kernel_rfl) (by kernel_rfl) (by kernel_rfl) (by decide)
theorem st_53{db pb:Addr}:zc9 db pb 53 :=
 znk 53 49 (by decide) (by decide) (by kernel_rfl) (by kernel_rfl) (fun v w e=>e)
theorem st_54{db pb:Addr}:zc9 db pb 54 :=
 znl 54 50 49 53 222 (by decide) (by decide) (by decide) (by kernel_rfl) (by kernel_rfl) (by kernel_rfl) (by kernel_rfl) (fun v w e=>e) (fun v w e=>e)
theorem st_55{db pb:Addr}:zc9 db pb 55 :=
 zd2 (n:=2) (b:=true) (R:=(fun f _=>zbr db 222 f)) 55 51 50 54 (by decide) (by decide) (by decide) (by kernel_rfl) (by kernel_rfl) (by kernel_rfl) (by kernel_rfl) (fun v w e=>⟨⟨_,_,_,e⟩,e⟩) (fun v w e=>e)
theorem st_56{db pb:Addr}:zc9 db pb 56 :=
 zjk 56 51 55 (⟨#[102,114,101,101]⟩:ByteArray) (by decide) (by decide) (by decide) (by kernel_rfl) (by kernel_rfl) (by kernel_rfl) (by kernel_rfl) (by kernel_rfl) (by kernel_rfl) (by kernel_rfl) (by decide)
theorem zHk{db pb:Addr}:∀i,i<59->zc9 db pb i
 |0,_ => zKL
 |1,_ => st_1
 |2,_ => st_2
 |3,_ => st_3
 |4,_ => st_4
 |5,_ => st_5
 |6,_ => st_6
 |7,_ => st_7
 |8,_ => st_8
 |9,_ => st_9
 |10,_ => st_10
 |11,_ => st_11
 |12,_ => st_12
 |13,_ => st_13
 |14,_ => st_14
 |15,_ => st_15
 |16,_ => st_16
 |17,_ => st_17
 |18,_ => st_18
 |19,_ => st_19
 |20,_ => st_20
 |21,_ => st_21
 |22,_ => st_22
 |23,_ => st_23
 |24,_ => st_24
 |25,_ => st_25
 |26,_ => st_26
 |27,_ => st_27
 |28,_ => st_28
 |29,_ => st_29
 |30,_ => st_30
 |31,_ => st_31
 |32,_ => st_32
 |33,_ => st_33
 |34,_ => st_34
 |35,_ => st_35
 |36,_ => st_36
 |37,_ => st_37
 |38,_ => st_38
 |39,_ => st_39
 |40,_ => st_40
 |41,_ => st_41
 |42,_ => st_42
 |43,_ => st_43
 |44,_ => st_44
 |45,_ => st_45
 |46,_ => st_46
 |47,_ => st_47
 |48,_ => st_48
 |49,_ => st_49
 |50,_ => st_50
 |51,_ => st_51
 |52,_ => st_52
 |53,_ => st_53
 |54,_ => st_54
 |55,_ => st_55
 |56,_ => st_56
 |57,_ => st_57
 |58,_ => st_58
 |n+59,h => by omega
theorem zGN:((List.range 59).all fun i=>(zcF i).after.all fun e=>decide (e.on<i))=true:=by kernel_rfl
theorem zAS{l:Array Bool}(hl:l.size=zeJ.size)(hr:Region.ready .any zeJ l=[]):∀i,i<59->l.getD i false=true:=by
 intro i
 induction i using Nat.strongRecOn with
 |_ i ih =>
  intro hi
  rcases hq:l.getD i true with _|_
  ·have:i∈Region.ready .any zeJ l:=mem_ready.2 ⟨hq,zcF i,zjX hi,fun e he _=>by
    have h1:=zGN
    rw[List.all_eq_true] at h1
    have h2:=h1 i (List.mem_range.2 hi)
    rw[Array.all_eq_true_iff_forall_mem] at h2
    have h3:=of_decide_eq_true (h2 e he)
    exact ih _ h3 (by omega)⟩
   rw[hr] at this;cases this
  ·have hs:i<l.size:=by rw[hl,zoE];exact hi
   simp[hs] at hq ⊢;exact hq
def Tab(db pb:Addr)(w:World)(k:ByteArray)(g:Option Value):Prop :=
 match KL.find? (fun x=>decide (x.1=k)) with
 |some (_,_,b) => ∃v,g=some v/\PV db pb b v w
 |none => g=none
theorem tab_of{db pb:Addr}{l:Array Bool}{w:World}{k:ByteArray}{g:Option Value}(hl:∀i,i<59->l.getD i false=true)(h:MAt (PV db pb) KL l w k g):Tab db pb w k g:=by
 unfold MAt at h;unfold Tab
 split at h
 ·rename_i y j b he
  try rw[he]
  have hj:j<59:=by
   have hm:=List.mem_of_find?_eq_some he
   have:∀x∈KL,x.2.1<59:=by decide
   exact this _ hm
  rw[if_pos (hl j hj)] at h
  exact h
 ·rename_i he
  first|exact h|(rw[he];exact h)
theorem end151{db pb:Addr}{b0:Act}{w0:World}{l:Array Bool}{a:Act}{w:World}(h:zFb db pb b0 w0 l a w)(hr:Region.ready .any zeJ l=[]) :
  Ext w0 w/\a.tmps.size=b0.tmps.size/\a.defers=b0.defers/\∃mb M,a.tmps.getD 2 undef=.map (some mb)/\w0.heap.size<=mb/\zdc Value.string w mb M/\∀k,Tab db pb w k (ziC M k):=by
 have hl:=zAS h.lsz hr
 obtain⟨mb,M,e1,e2,e3,e4⟩:=h.mp (hl 0 (by decide))
 exact⟨h.ext,h.size,h.defers,mb,M,by rw[(h.tie (58,2) (by decide) (hl 58 (by decide))).2];exact e1,e2,e3,fun k=>tab_of hl (e4 k)⟩
theorem zHj{db pb:Addr}{b0:Act}{w0:World}(hB:zKX db pb b0 w0):zFb db pb b0 w0 (Array.replicate 59 false) b0 w0:=by
 have hf:∀i,(Array.replicate 59 false).getD i false=false:=fun i=>by
  simp[Array.getElem?_replicate];split<;>rfl
 refine⟨by rw[zoE];simp,rfl,rfl,fun d hd=>rfl,Ext.refl w0,fun i o d _ hl=>?_,fun hl=>?_,fun _ x _=>hf _,fun x _ hl=>?_⟩
 ·rw[hf] at hl;cases hl
 ·rw[hf] at hl;cases hl
 ·rw[hf] at hl;cases hl
theorem any151{db pb:Addr}{b0:Act}{w0:World}{Q:Exit->Act->World->Prop}(hB:zKX db pb b0 w0)
  (hQ:∀a w,Ext w0 w->a.tmps.size=b0.tmps.size->a.defers=b0.defers->(∃mb M,a.tmps.getD 2 undef=.map (some mb)/\w0.heap.size<=mb/\zdc Value.string w mb M/\∀k,Tab db pb w k (ziC M k))->Q .normal a w) :
  wpAny Tryz.prog .any zeJ Q 59 (Array.replicate 59 false) b0 w0:=by
 refine zEI (I:=zFb db pb b0 w0) (fun l a w i h hm=>?_) (fun l a w h hr=>?_) 59 _ b0 w0 (by decide) (zHj hB)
 ·have hi:i<59:=by
   obtain⟨_,o,ho,_⟩:=mem_ready.1 hm
   have:=(Array.getElem?_eq_some_iff.1 ho).1
   rwa [zoE] at this
  exact zHk i hi Q b0 w0 hB l a w h hm
 ·obtain⟨h1,h2,h3,h4⟩:=end151 h hr
  exact hQ a w h1 h2 h3 h4
theorem zI4(w:World)(v:Value):(w.alloc (.cells #[v] 115)).cell? ⟨w.heap.size,0,none⟩=some v:=by
 have h:(w.alloc (.cells #[v] 115)).heap[w.heap.size]?=some (.cells #[v] 115):=heap_alloc_new w _
 unfold World.cell?
 simp only[h];rfl
theorem zBY(w:World)(o:Obj):(w.alloc o).heap.size=w.heap.size+1:=Array.size_push ..
theorem zAw(db:Addr)(w:World):FnP Tryz.prog 151 #[.pointer (some db)] w fun v w'=>Ext w w'/\∃pb mb M,v=.map (some mb)/\w'.cell? pb=some (.pointer (some db))/\zdc Value.string w' mb M/\∀k,Tab db pb w' k (ziC M k):=by
 refine⟨fun args w=>Tryz.call151 args w,?_⟩
 go_enter Tryz.func151,Tryz.ntmps151
 go_wp2
 rename_i K hK
 refine wp_region_any (by kernel_rfl) ?_
 change wpAny _ _ zeJ _ 59 (Array.replicate 59 false) _ _
 have hx0:Ext w { (w.alloc (.cells #[.pointer (some db)] 115)) with drawn:=(w.alloc (.cells #[.pointer (some db)] 115)).drawn+1 } :=
  Below.drew (Below.alloc (Below.refl _ _) (Nat.le_refl _) _)
 have hc0:(w.alloc (.cells #[.pointer (some db)] 115)).cell? ⟨w.heap.size,0,none⟩=some (.pointer (some db)):=zI4 w _
 have hz0:(w.alloc (.cells #[.pointer (some db)] 115)).heap.size=w.heap.size+1:=zBY w _
 refine any151 (db:=db) (pb:=⟨w.heap.size,0,none⟩) ⟨by simp,by rfl,by rfl,by rfl,hc0,by show w.heap.size<(w.alloc (.cells #[.pointer (some db)] 115)).heap.size;omega⟩ fun a w1 hx hs hd ht=>?_
 obtain⟨mb,M,e1,e2,e3,e4⟩:=ht
 refine hK a w1 ?_
 obtain⟨tm,df⟩:=a
 have hd':df=[]:=hd
 subst hd'
 refine wp_ret ?_
 refine bodyPost_ret (results_tmp (t:=2) rfl _ _ _) rfl ?_
 refine⟨_,rfl,hx0.trans hx,⟨w.heap.size,0,none⟩,mb,M,e1,?_,e3,e4⟩
 refine(hx.cell ?_).trans hc0
 show w.heap.size<(w.alloc (.cells #[.pointer (some db)] 115)).heap.size
 omega
end Go.Proofs.YtcceeahmcecbnaaGreatDoor
namespace Go.Proofs.YtcceeahmcecbnaaGreatDoor
open Go.RowKit Go.Extern.Stop Go.Stop Go.Extern
theorem as_nil(t:Value)(w:World):Calls Tryz.prog 104 #[.nilIface,t] w fun e w'=>e=.returned (.bool false)/\w'=w:=by
 go_enter Tryz.func104,Tryz.ntmps104
 go_wp2
 go_ret
 exact⟨rfl,rfl⟩
namespace As
theorem valueOf196(t:Addr)(w:World):(ReflectliteValue.unpack (.iface 196 (.pointer (some t)))).run Tryz.prog w
 = .ok (.agg #[.pointer (some ⟨11,196,none⟩),.pointer (some ⟨w.heap.size,0,none⟩),.int .u64 150]) (w.alloc (.cells #[.pointer (some t)] 196)):=by kernel_rfl
theorem type196 (a : Addr) (w : World) : (ReflectliteValue.methodAny (ReflectliteValue.valueError "reflectlite.Value.Type" 0) (fun t _ _ _ => ReflectliteType.toType t) #[.agg #[.pointer (some ⟨11, 196, none⟩), .pointer (some a), .int .u64 150]]).run Tryz.prog w
 = .ok (.iface 329 (.agg #[.pointer (some ⟨11,196,none⟩)])) w:=by kernel_rfl
theorem methodKind (h : Value) (w : World) : (Go.method 539 329 (.agg #[h]) "Kind").run Tryz.prog w = .ok (302, h) w := by kernel_rfl
theorem kind196(w:World):((ReflectliteType.abiMethod fun t=>Functor.map (fun a:Nat=>Value.int IntKind.u8 (a:Int)) (Rtype.kind t)) #[.pointer (some ⟨11,196,none⟩)]).run Tryz.prog w=.ok (.int .u8 22) w:=by kernel_rfl
theorem kind24(w:World):((ReflectliteType.abiMethod fun t=>Functor.map (fun a:Nat=>Value.int IntKind.u8 (a:Int)) (Rtype.kind t)) #[.pointer (some ⟨11,24,none⟩)]).run Tryz.prog w=.ok (.int .u8 2) w:=by kernel_rfl
theorem rlm(z:Sem Value)(f:TypeId->Addr->Nat->Nat->Sem Value)(v:Value) :
 ReflectliteValue.method z f #[v]=(do match <-ReflectliteValue.parts v with|none=>z|some (t,a,fl)=>f t a fl (fl%32)):=rfl
theorem zzF(a:Addr)(w:World):(ReflectliteValue.parts (.agg #[.pointer (some ⟨11,196,none⟩),.pointer (some a),.int .u64 150])).run Tryz.prog w=.ok (some (196,a,150)) w:=by kernel_rfl
theorem zz7:Tryz.prog.underlying 196=some (.pointer 24):=by kernel_rfl
theorem zKR:Tryz.prog.underlying 24=some (.int .i64):=by kernel_rfl
theorem isNil196(a p:Addr)(W:World)(ha:W.cell? a=some (.pointer (some p))) :
  (ReflectliteValue.method (ReflectliteValue.valueError "reflectlite.Value.IsNil" 0) ReflectliteValue.isNil #[.agg #[.pointer (some ⟨11, 196, none⟩), .pointer (some a), .int .u64 150]]).run Tryz.prog W = .ok (.bool false) W := by
 rw[rlm]
 simp only[Sem.run_bind,zzF,Result.andThen]
 simp[ReflectliteValue.isNil,loadVar,isAgg,underlying,zz7,ha,Result.andThen]
theorem methodElem (h : Value) (w : World) : (Go.method 539 329 (.agg #[h]) "Elem").run Tryz.prog w = .ok (329, .agg #[h]) w := by kernel_rfl
theorem methodImplements (h : Value) (w : World) : (Go.method 539 329 (.agg #[h]) "Implements").run Tryz.prog w = .ok (330, .agg #[h]) w := by kernel_rfl
theorem methodAssignableTo (h : Value) (w : World) : (Go.method 539 329 (.agg #[h]) "AssignableTo").run Tryz.prog w = .ok (327, .agg #[h]) w := by kernel_rfl
theorem elem196(w:World):(ReflectliteType.method ReflectliteType.elem #[.agg #[.pointer (some ⟨11,196,none⟩)]]).run Tryz.prog w=.ok (.iface 329 (.agg #[.pointer (some ⟨11,24,none⟩)])) w:=by kernel_rfl
theorem implements24 (w : World) : (ReflectliteType.relation "Implements" ReflectliteType.implements_ #[.agg #[.pointer (some ⟨11, 24, none⟩)], .iface 329 (.agg #[.pointer (some ⟨11, 175, none⟩)])]).run Tryz.prog w = .ok (.bool true) w := by kernel_rfl
theorem typeOf24(v:Value)(w:World):(ReflectliteType.typeOf #[.iface 24 v]).run Tryz.prog w=.ok (.iface 329 (.agg #[.pointer (some ⟨11,24,none⟩)])) w:=by kernel_rfl
theorem typeOf257(v:Value)(w:World):(ReflectliteType.typeOf #[.iface 257 v]).run Tryz.prog w=.ok (.iface 329 (.agg #[.pointer (some ⟨11,257,none⟩)])) w:=by kernel_rfl
theorem assignable24 (w : World) : (ReflectliteType.relation "AssignableTo" ReflectliteType.assignableTo #[.agg #[.pointer (some ⟨11, 24, none⟩)], .iface 329 (.agg #[.pointer (some ⟨11, 24, none⟩)])]).run Tryz.prog w = .ok (.bool true) w := by kernel_rfl
theorem assignable257 (w : World) : (ReflectliteType.relation "AssignableTo" ReflectliteType.assignableTo #[.agg #[.pointer (some ⟨11, 257, none⟩)], .iface 329 (.agg #[.pointer (some ⟨11, 24, none⟩)])]).run Tryz.prog w = .ok (.bool false) w := by kernel_rfl
theorem valueOf24(n:Int)(w:World):(ReflectliteValue.unpack (.iface 24 (.int .i64 n))).run Tryz.prog w
 = .ok (.agg #[.pointer (some ⟨11,24,none⟩),.pointer (some ⟨w.heap.size,0,none⟩),.int .u64 130]) (w.alloc (.cells #[.int .i64 n] 24)):=by kernel_rfl
theorem zCz(w:World):(Rtype.elem? 196).run Tryz.prog w=.ok (some 24) w:=by kernel_rfl
theorem zu4(p:Addr)(w:World):(ReflectliteValue.mk 24 p ReflectliteValue.flagAddr).run Tryz.prog w=.ok (.agg #[.pointer (some ⟨11,24,none⟩),.pointer (some p),.int .u64 386]) w:=by kernel_rfl
theorem elemV196(a p:Addr)(W:World)(ha:W.cell? a=some (.pointer (some p))) :
  (ReflectliteValue.method (ReflectliteValue.valueError "reflectlite.Value.Elem" 0) ReflectliteValue.elem #[.agg #[.pointer (some ⟨11, 196, none⟩), .pointer (some a), .int .u64 150]]).run Tryz.prog W
   = .ok (.agg #[.pointer (some ⟨11,24,none⟩),.pointer (some p),.int .u64 386]) W:=by
 rw[rlm]
 simp only[Sem.run_bind,zzF,Result.andThen]
 simp[ReflectliteValue.elem,loadVar,isAgg,underlying,zz7,ha,Result.andThen,zCz,zu4]
theorem rls(v x:Value):ReflectliteValue.set #[v,x]=(do
 let (some (dst,a,fl),some (src,b,_)):=(<-ReflectliteValue.parts v,<-ReflectliteValue.parts x)
  | unsupported (.noEntry "extern/(internal/reflectlite.Value).Set.zeroValue")
 if fl / ReflectliteValue.flagAddr % 2 == 0 then unsupported (.noEntry "extern/(internal/reflectlite.Value).Set.unaddressable")
 let val <-loadVar src b
 if <-Rtype.directlyAssignable dst src then storeVar dst a val
 else if <-Rtype.implements dst src then
  if (<-Rtype.kind src)==20 then
   match val with
   | .nilIface => unsupported (.noEntry "extern/reflectlite: a nil value of one interface type handed on as a value of another")
   |_ => storeVar dst a val
  else storeVar dst a (.iface src val)
 else panicString ("reflectlite.Set: value of type " ++ (<- Rtype.spelt src) ++ " is not assignable to type " ++ (<- Rtype.spelt dst))
 pure (.tuple #[])):=rfl
theorem zGP(a:Addr)(w:World):(ReflectliteValue.parts (.agg #[.pointer (some ⟨11,24,none⟩),.pointer (some a),.int .u64 386])).run Tryz.prog w=.ok (some (24,a,386)) w:=by kernel_rfl
theorem zKt(a:Addr)(w:World):(ReflectliteValue.parts (.agg #[.pointer (some ⟨11,24,none⟩),.pointer (some a),.int .u64 130])).run Tryz.prog w=.ok (some (24,a,130)) w:=by kernel_rfl
theorem zFP(w:World):(Rtype.directlyAssignable 24 24).run Tryz.prog w=.ok true w:=by kernel_rfl
theorem set24(ta b:Addr)(n:Int)(old:Value)(W:World)(hb:W.cell? b=some (.int .i64 n))(ht:W.cell? ta=some old)(hf:W.frozen? ta=false) :
  (ReflectliteValue.set #[.agg #[.pointer (some ⟨11,24,none⟩),.pointer (some ta),.int .u64 386],.agg #[.pointer (some ⟨11,24,none⟩),.pointer (some b),.int .u64 130]]).run Tryz.prog W
   = .ok (.tuple #[]) (W.setCell ta (.int .i64 n)):=by
 rw[rls]
 simp only[Sem.run_bind,zGP,zKt,Result.andThen]
 simp[ReflectliteValue.flagAddr,loadVar,isAgg,underlying,zKR,hb,Result.andThen,zFP,storeVar,Value.cells,storeCells,Addr.add]
 rw[run_store Tryz.prog W ta _ _ (by rfl)]
 simp[ht,hf]
theorem noAs(v:Value)(xT:TypeId)(w:World):(Instr.typeAssert (.iface 257 v) xT 334 true).run Tryz.prog w=.ok (.tuple #[.nilIface,.bool false]) w:=run_typeAssert_lacksB Tryz.underlying334 (by kernel_rfl) (by kernel_rfl) v xT w
theorem hasUnwrap(v:Value)(xT:TypeId)(w:World):(Instr.typeAssert (.iface 257 v) xT 337 true).run Tryz.prog w=.ok (.tuple #[.iface 257 v,.bool true]) w:=run_typeAssert_hasB Tryz.underlying337 (by kernel_rfl) v xT w
theorem methodUnwrap (a b : Value) (w : World) : (Go.method 539 257 (.agg #[a, b]) "Unwrap").run Tryz.prog w = .ok (318, .agg #[a, b]) w := by kernel_rfl
end As
set_option maxRecDepth 100000 in
set_option maxHeartbeats 4000000 in
theorem as_hit (n:Int) (t:Addr) (old:Value) (w:World) (hg:w.cell? ⟨0,0,none⟩=some (.iface 329 (.agg #[.pointer (some ⟨11,175,none⟩)]))) (ht0:w.cell? t=some old) (hf0:w.frozen? t=false) :
  Calls Tryz.prog 104 #[.iface 24 (.int .i64 n),.iface 196 (.pointer (some t))] w fun ev w'=>ev=.returned (.bool true)/\∃o1 o2 o3 o4:Obj,w'=((((w.alloc o1).alloc o2).alloc o3).alloc o4).setCell t (.int .i64 n):=by
 have h152:=@run_callFunc_extern Tryz.prog 152 _ (fun args=>ReflectliteValue.unpack (args.getD 0 (.tuple #[]))) Tryz.func152 (by kernel_rfl) (by kernel_rfl) (by kernel_rfl) (by kernel_rfl)
 have h153 := @run_callFunc_extern Tryz.prog 153 _ (ReflectliteValue.methodAny (ReflectliteValue.valueError "reflectlite.Value.Type" 0) (fun t _ _ _ => ReflectliteType.toType t)) Tryz.func153 (by kernel_rfl) (by kernel_rfl) (by kernel_rfl) (by kernel_rfl)
 have h154 := @run_callFunc_extern Tryz.prog 154 _ (ReflectliteValue.method (ReflectliteValue.valueError "reflectlite.Value.IsNil" 0) ReflectliteValue.isNil) Tryz.func154 (by kernel_rfl) (by kernel_rfl) (by kernel_rfl) (by kernel_rfl)
 have h302:=@run_callFunc_extern Tryz.prog 302 _ (ReflectliteType.abiMethod fun t=>do pure (.int .u8 (<-Rtype.kind t))) Tryz.func302 (by kernel_rfl) (by kernel_rfl) (by kernel_rfl) (by kernel_rfl)
 have h329:=@run_callFunc_extern Tryz.prog 329 _ (ReflectliteType.method ReflectliteType.elem) Tryz.func329 (by kernel_rfl) (by kernel_rfl) (by kernel_rfl) (by kernel_rfl)
 have h330 := @run_callFunc_extern Tryz.prog 330 _ (ReflectliteType.relation "Implements" ReflectliteType.implements_) Tryz.func330 (by kernel_rfl) (by kernel_rfl) (by kernel_rfl) (by kernel_rfl)
 have h223:=@run_callFunc_extern Tryz.prog 223 _ ReflectliteType.typeOf Tryz.func223 (by kernel_rfl) (by kernel_rfl) (by kernel_rfl) (by kernel_rfl)
 have h327 := @run_callFunc_extern Tryz.prog 327 _ (ReflectliteType.relation "AssignableTo" ReflectliteType.assignableTo) Tryz.func327 (by kernel_rfl) (by kernel_rfl) (by kernel_rfl) (by kernel_rfl)
 have h224 := @run_callFunc_extern Tryz.prog 224 _ (ReflectliteValue.method (ReflectliteValue.valueError "reflectlite.Value.Elem" 0) ReflectliteValue.elem) Tryz.func224 (by kernel_rfl) (by kernel_rfl) (by kernel_rfl) (by kernel_rfl)
 have h225:=@run_callFunc_extern Tryz.prog 225 _ ReflectliteValue.set Tryz.func225 (by kernel_rfl) (by kernel_rfl) (by kernel_rfl) (by kernel_rfl)
 have tO:=As.typeOf24
 have mA:=As.methodAssignableTo
 have a24:=As.assignable24
 have v24:=As.valueOf24
 have f6:=As.valueOf196
 have f7:=As.type196
 have mK:=As.methodKind
 have mE:=As.methodElem
 have mI:=As.methodImplements
 have k196:=As.kind196
 have k24:=As.kind24
 have e196:=As.elem196
 have i24:=As.implements24
 have n8:=As.isNil196 ⟨w.heap.size,0,none⟩ t ((w.alloc (.cells #[.pointer (some t)] 196)).alloc (.cells #[.pointer (some ⟨11,196,none⟩),.pointer (some ⟨w.heap.size,0,none⟩),.int .u64 150] 261)) (by simp)
 have hlt:0<w.heap.size:=by
  rcases Nat.eq_zero_or_pos w.heap.size with h0|h
  ·simp[World.cell?,h0] at hg
  ·exact h
 have hg2:((w.alloc (.cells #[.pointer (some t)] 196)).alloc (.cells #[.pointer (some ⟨11,196,none⟩),.pointer (some ⟨w.heap.size,0,none⟩),.int .u64 150] 261)).cell? ⟨0,0,none⟩=some (.iface 329 (.agg #[.pointer (some ⟨11,175,none⟩)])):=by
  rw[World.cell?_alloc_lt _ _ ⟨0,0,none⟩ (by simp),World.cell?_alloc_lt _ _ ⟨0,0,none⟩ hlt];exact hg
 have htl:t.block<w.heap.size:=by
  rcases Nat.lt_or_ge t.block w.heap.size with h|h
  ·exact h
  ·simp[World.cell?,Array.getElem?_eq_none h] at ht0
 have el:=As.elemV196 ⟨w.heap.size,0,none⟩ t (((w.alloc (.cells #[.pointer (some t)] 196)).alloc (.cells #[.pointer (some ⟨11,196,none⟩),.pointer (some ⟨w.heap.size,0,none⟩),.int .u64 150] 261)).alloc (.cells #[.pointer (some ⟨11,196,none⟩),.pointer (some ⟨w.heap.size,0,none⟩),.int .u64 150] 261)) (by rw[World.cell?_alloc_lt _ _ ⟨w.heap.size,0,none⟩ (by simp;omega)];simp)
 have st:=As.set24 t ⟨w.heap.size+1+1+1,0,none⟩ n old ((((w.alloc (.cells #[.pointer (some t)] 196)).alloc (.cells #[.pointer (some ⟨11,196,none⟩),.pointer (some ⟨w.heap.size,0,none⟩),.int .u64 150] 261)).alloc (.cells #[.pointer (some ⟨11,196,none⟩),.pointer (some ⟨w.heap.size,0,none⟩),.int .u64 150] 261)).alloc (.cells #[.int .i64 n] 24))
  (by rw[World.cell?_alloc_at _ _ _ _ (by simp)];rfl)
  (by rw[World.cell?_alloc_lt _ _ t (by simp;omega),World.cell?_alloc_lt _ _ t (by simp;omega),World.cell?_alloc_lt _ _ t (by simp;omega),World.cell?_alloc_lt _ _ t htl];exact ht0)
  (by rw[World.frozen?_alloc_old _ _ t (by simp;omega),World.frozen?_alloc_old _ _ t (by simp;omega),World.frozen?_alloc_old _ _ t (by simp;omega),World.frozen?_alloc_old _ _ t (Nat.ne_of_lt htl)];exact hf0)
 go_enter Tryz.func104,Tryz.ntmps104
 go_wp2
 refine wp_loop_rounds 1 ?_
 rw[rounds_succ]
 go_wp2
 go_ret
 exact⟨rfl,_,_,_,_,rfl⟩
set_option maxRecDepth 100000 in
set_option maxHeartbeats 4000000 in
theorem zI7 (k n:Int) (t:Addr) (old:Value) (w:World) (hg:w.cell? ⟨0,0,none⟩=some (.iface 329 (.agg #[.pointer (some ⟨11,175,none⟩)]))) (ht0:w.cell? t=some old) (hf0:w.frozen? t=false) :
  Calls Tryz.prog 104 #[.iface 257 (.agg #[.int .i64 k,.iface 24 (.int .i64 n)]),.iface 196 (.pointer (some t))] w fun ev w'=>ev=.returned (.bool true)/\∃o1 o2 o3 o4 o5:Obj,w'=(((((w.alloc o1).alloc o2).alloc o3).alloc o4).alloc o5).setCell t (.int .i64 n):=by
 have h152:=@run_callFunc_extern Tryz.prog 152 _ (fun args=>ReflectliteValue.unpack (args.getD 0 (.tuple #[]))) Tryz.func152 (by kernel_rfl) (by kernel_rfl) (by kernel_rfl) (by kernel_rfl)
 have h153 := @run_callFunc_extern Tryz.prog 153 _ (ReflectliteValue.methodAny (ReflectliteValue.valueError "reflectlite.Value.Type" 0) (fun t _ _ _ => ReflectliteType.toType t)) Tryz.func153 (by kernel_rfl) (by kernel_rfl) (by kernel_rfl) (by kernel_rfl)
 have h154 := @run_callFunc_extern Tryz.prog 154 _ (ReflectliteValue.method (ReflectliteValue.valueError "reflectlite.Value.IsNil" 0) ReflectliteValue.isNil) Tryz.func154 (by kernel_rfl) (by kernel_rfl) (by kernel_rfl) (by kernel_rfl)
 have h302:=@run_callFunc_extern Tryz.prog 302 _ (ReflectliteType.abiMethod fun t=>do pure (.int .u8 (<-Rtype.kind t))) Tryz.func302 (by kernel_rfl) (by kernel_rfl) (by kernel_rfl) (by kernel_rfl)
 have h329:=@run_callFunc_extern Tryz.prog 329 _ (ReflectliteType.method ReflectliteType.elem) Tryz.func329 (by kernel_rfl) (by kernel_rfl) (by kernel_rfl) (by kernel_rfl)
 have h330 := @run_callFunc_extern Tryz.prog 330 _ (ReflectliteType.relation "Implements" ReflectliteType.implements_) Tryz.func330 (by kernel_rfl) (by kernel_rfl) (by kernel_rfl) (by kernel_rfl)
 have h223:=@run_callFunc_extern Tryz.prog 223 _ ReflectliteType.typeOf Tryz.func223 (by kernel_rfl) (by kernel_rfl) (by kernel_rfl) (by kernel_rfl)
 have h327 := @run_callFunc_extern Tryz.prog 327 _ (ReflectliteType.relation "AssignableTo" ReflectliteType.assignableTo) Tryz.func327 (by kernel_rfl) (by kernel_rfl) (by kernel_rfl) (by kernel_rfl)
 have h224 := @run_callFunc_extern Tryz.prog 224 _ (ReflectliteValue.method (ReflectliteValue.valueError "reflectlite.Value.Elem" 0) ReflectliteValue.elem) Tryz.func224 (by kernel_rfl) (by kernel_rfl) (by kernel_rfl) (by kernel_rfl)
 have h225:=@run_callFunc_extern Tryz.prog 225 _ ReflectliteValue.set Tryz.func225 (by kernel_rfl) (by kernel_rfl) (by kernel_rfl) (by kernel_rfl)
 have tO:=As.typeOf24
 have tS:=As.typeOf257
 have aS:=As.assignable257
 have mU:=As.methodUnwrap
 have noAs:=As.noAs
 have hasU:=As.hasUnwrap
 have mA:=As.methodAssignableTo
 have a24:=As.assignable24
 have v24:=As.valueOf24
 have f6:=As.valueOf196
 have f7:=As.type196
 have mK:=As.methodKind
 have mE:=As.methodElem
 have mI:=As.methodImplements
 have k196:=As.kind196
 have k24:=As.kind24
 have e196:=As.elem196
 have i24:=As.implements24
 have n8:=As.isNil196 ⟨w.heap.size,0,none⟩ t ((w.alloc (.cells #[.pointer (some t)] 196)).alloc (.cells #[.pointer (some ⟨11,196,none⟩),.pointer (some ⟨w.heap.size,0,none⟩),.int .u64 150] 261)) (by simp)
 have hlt:0<w.heap.size:=by
  rcases Nat.eq_zero_or_pos w.heap.size with h0|h
  ·simp[World.cell?,h0] at hg
  ·exact h
 have hg2:((w.alloc (.cells #[.pointer (some t)] 196)).alloc (.cells #[.pointer (some ⟨11,196,none⟩),.pointer (some ⟨w.heap.size,0,none⟩),.int .u64 150] 261)).cell? ⟨0,0,none⟩=some (.iface 329 (.agg #[.pointer (some ⟨11,175,none⟩)])):=by
  rw[World.cell?_alloc_lt _ _ ⟨0,0,none⟩ (by simp),World.cell?_alloc_lt _ _ ⟨0,0,none⟩ hlt];exact hg
 have htl:t.block<w.heap.size:=by
  rcases Nat.lt_or_ge t.block w.heap.size with h|h
  ·exact h
  ·simp[World.cell?,Array.getElem?_eq_none h] at ht0
 have el:=As.elemV196 ⟨w.heap.size,0,none⟩ t ((((w.alloc (.cells #[.pointer (some t)] 196)).alloc (.cells #[.pointer (some ⟨11,196,none⟩),.pointer (some ⟨w.heap.size,0,none⟩),.int .u64 150] 261)).alloc (.cells #[.pointer (some ⟨11,196,none⟩),.pointer (some ⟨w.heap.size,0,none⟩),.int .u64 150] 261)).alloc (.cells #[.int .i64 k,.iface 24 (.int .i64 n)] 257)) (by rw[World.cell?_alloc_lt _ _ ⟨w.heap.size,0,none⟩ (by simp;omega),World.cell?_alloc_lt _ _ ⟨w.heap.size,0,none⟩ (by simp;omega)];simp)
 have st:=As.set24 t ⟨w.heap.size+1+1+1+1,0,none⟩ n old (((((w.alloc (.cells #[.pointer (some t)] 196)).alloc (.cells #[.pointer (some ⟨11,196,none⟩),.pointer (some ⟨w.heap.size,0,none⟩),.int .u64 150] 261)).alloc (.cells #[.pointer (some ⟨11,196,none⟩),.pointer (some ⟨w.heap.size,0,none⟩),.int .u64 150] 261)).alloc (.cells #[.int .i64 k,.iface 24 (.int .i64 n)] 257)).alloc (.cells #[.int .i64 n] 24))
  (by rw[World.cell?_alloc_at _ _ _ _ (by simp)];rfl)
  (by rw[World.cell?_alloc_lt _ _ t (by simp;omega),World.cell?_alloc_lt _ _ t (by simp;omega),World.cell?_alloc_lt _ _ t (by simp;omega),World.cell?_alloc_lt _ _ t (by simp;omega),World.cell?_alloc_lt _ _ t htl];exact ht0)
  (by rw[World.frozen?_alloc_old _ _ t (by simp;omega),World.frozen?_alloc_old _ _ t (by simp;omega),World.frozen?_alloc_old _ _ t (by simp;omega),World.frozen?_alloc_old _ _ t (by simp;omega),World.frozen?_alloc_old _ _ t (Nat.ne_of_lt htl)];exact hf0)
 go_enter Tryz.func104,Tryz.ntmps104
 go_wp2
 refine wp_loop_rounds 2 ?_
 rw[rounds_succ]
 go_wp2
 rw[rounds_succ]
 go_wp2
 go_ret
 exact⟨rfl,_,_,_,_,_,rfl⟩
end Go.Proofs.YtcceeahmcecbnaaGreatDoor
namespace Go.Proofs.YtcceeahmcecbnaaGreatDoor
open Go.Sx Go.RowKit
abbrev zcj:FuncId:=12
abbrev zax:FuncId:=13
abbrev zar:FuncId:=19
abbrev zev:FuncId:=49
abbrev zgm:FuncId:=103
abbrev zoU:FuncId:=104
abbrev za4:FuncId:=151
def zqk(x:Option Addr)(Z:ByteArray)(aa:World)(K:Value->World->Prop):Prop:=
 ∀M,Ext aa M->FnP Tryz.prog zbj #[(.string Z),(.string (⟨#[32]⟩:ByteArray))] M fun X B=>Ext M B/\∃t y N,X=(.slice t y N)/\∃(w:Option Addr->Bool->World->Prop),(t≠none/\(0:Int)<=0/\(0:Int)<(y:Int)/\(∀q,Ext B q->FnP Tryz.prog za4 #[(.pointer x)] q fun O c=>Ext q c/\∃f,O=f/\∃g,cell c (pIdx t 0 1) 0=some (.string g)/\(∀a,Ext c a->Run Tryz.prog (.lookup 254 f (.string g) true) a fun z m=>Ext a m/\∃C D E F,z=(.tuple #[(.agg #[(.int .i64 C),(.bool D),E]),(.bool F)])/\∀G,Ext m G->New G 252 [(.int .i64 0),(.bool false),.nilFunc] fun I P=>zan P I [(.int .i64 C),(.bool D),E] [] fun n=>w I F n)/\∀a,Ext c a->New a 252 [(.int .i64 0),(.bool false),.nilFunc] fun J m=>∀b,Ext m b->Run Tryz.prog (.lookup 254 f (.string g) true) b fun r e=>Ext b e/\∃h i j k,r=(.tuple #[(.agg #[(.int .i64 h),(.bool i),j]),(.bool k)])/\zan e J [(.int .i64 h),(.bool i),j] [] fun n=>w J k n)/\(∃u,cell B (pIdx t 0 1) 0=some (.string u)/\(∀c,Ext B c->FnP Tryz.prog za4 #[(.pointer x)] c fun R o=>Ext c o/\∃g,R=g/\(∀a,Ext o a->Run Tryz.prog (.lookup 254 g (.string u) true) a fun z m=>Ext a m/\∃C D E F,z=(.tuple #[(.agg #[(.int .i64 C),(.bool D),E]),(.bool F)])/\∀G,Ext m G->New G 252 [(.int .i64 0),(.bool false),.nilFunc] fun I P=>zan P I [(.int .i64 C),(.bool D),E] [] fun n=>w I F n)/\∀a,Ext o a->New a 252 [(.int .i64 0),(.bool false),.nilFunc] fun J m=>∀b,Ext m b->Run Tryz.prog (.lookup 254 g (.string u) true) b fun r e=>Ext b e/\∃h i j k,r=(.tuple #[(.agg #[(.int .i64 h),(.bool i),j]),(.bool k)])/\zan e J [(.int .i64 h),(.bool i),j] [] fun n=>w J k n)/\∀c,Ext B c->New c 252 [(.int .i64 0),(.bool false),.nilFunc] fun W o=>∀d,Ext o d->FnP Tryz.prog za4 #[(.pointer x)] d fun A a=>Ext d a/\∃l,A=l/\∀b,Ext a b->Run Tryz.prog (.lookup 254 l (.string u) true) b fun r e=>Ext b e/\∃h i j k,r=(.tuple #[(.agg #[(.int .i64 h),(.bool i),j]),(.bool k)])/\zan e W [(.int .i64 h),(.bool i),j] [] fun n=>w W k n)/\∀q,Ext B q->New q 252 [(.int .i64 0),(.bool false),.nilFunc] fun L c=>(∀o,Ext c o->FnP Tryz.prog za4 #[(.pointer x)] o fun Y d=>Ext o d/\∃T,Y=T/\∃l,cell d (pIdx t 0 1) 0=some (.string l)/\∀b,Ext d b->Run Tryz.prog (.lookup 254 T (.string l) true) b fun r e=>Ext b e/\∃h i j k,r=(.tuple #[(.agg #[(.int .i64 h),(.bool i),j]),(.bool k)])/\zan e L [(.int .i64 h),(.bool i),j] [] fun n=>w L k n)/\∃f,cell c (pIdx t 0 1) 0=some (.string f)/\∀d,Ext c d->FnP Tryz.prog za4 #[(.pointer x)] d fun A a=>Ext d a/\∃l,A=l/\∀b,Ext a b->Run Tryz.prog (.lookup 254 l (.string f) true) b fun r e=>Ext b e/\∃h i j k,r=(.tuple #[(.agg #[(.int .i64 h),(.bool i),j]),(.bool k)])/\zan e L [(.int .i64 h),(.bool i),j] [] fun n=>w L k n)/\∀(s:Option Addr)(S:Bool)(p:World),w s S p->(((S=false)->∀q,Ext p q->Run Tryz.prog (.makeInterface 24 (.int .i64 1)) q fun O c=>Ext q c/\∃f,O=f/\∀d,Ext c d->K (.tuple #[(.string (⟨#[]⟩:ByteArray)),f]) d))/\((S=true)->s≠none/\∃u,cell p (pAdd s 0) 0=some (.int .i64 u)/\((((y:Int)≠u)->∀c,Ext p c->Run Tryz.prog (.makeInterface 24 (.int .i64 3)) c fun R o=>Ext c o/\∃g,R=g/\Value.oneCell' g=true/\∀a,Ext o a->Run Tryz.prog (.makeInterface 257 (.agg #[(.int .i64 (y:Int)),g])) a fun z m=>Ext a m/\∃v,z=v/\∀e,Ext m e->K (.tuple #[(.string (⟨#[]⟩:ByteArray)),v]) e))/\(((y:Int)=u)->s≠none/\∃H,cell p (pAdd s 1) 0=some (.bool H)/\((H=true)->x≠none)/\((H=true)->x≠none)/\(((H=true)->∃f,cell p (pAdd x 1) 0=some (.pointer f)/\(((f=none)->∀d,Ext p d->Run Tryz.prog (.makeInterface 24 (.int .i64 9)) d fun A a=>Ext d a/\∃l,A=l/\∀b,Ext a b->K (.tuple #[(.string (⟨#[]⟩:ByteArray)),l]) b))/\((f≠none)->s≠none/\∃g,cell p (pAdd s 2) 0=some g/\∀a,Ext p a->zIE Tryz.prog g [(.slice t y N)] a fun z m=>∃v U,z=(.tuple #[(.string v),U])/\∀V,Ext m V->K (.tuple #[(.string v),U]) V)))/\((H=false)->s≠none/\∃f,cell p (pAdd s 2) 0=some f/\∀d,Ext p d->zIE Tryz.prog f [(.slice t y N)] d fun A a=>∃l v,A=(.tuple #[(.string l),v])/\∀e,Ext a e->K (.tuple #[(.string l),v]) e)))
theorem zpL(a:Option Addr)(b:ByteArray)(c:World)(d:Value->World->Prop)(h:zqk a b c d):FnP Tryz.prog zgm #[(.pointer a),(.string b)] c d:=
 zab (Eq.mp (by kernel_rfl:_=Runs Tryz.prog d ({N:=52,pub:=[7],muts:=[2000000,1000000,21,29,22,24,81]}:Cfg) Tryz.f103 (Tryz.f103.body.getD .skip) [.sc (.ptr a),.sc (.str b)] c) h) Tryz.func103 (by kernel_rfl) (fun a w=>Tryz.call103 a w) (by kernel_rfl) (by kernel_rfl) rfl rfl
def zqj(y:Option Addr)(z:ByteArray)(A:World)(q:Value->World->Prop):Prop:=
 ∀f,Ext A f->FnP Tryz.prog zgm #[(.pointer y),(.string z)] f fun r s=>∃g h,r=(.tuple #[(.string g),h])/\∀i,Ext s i->New i 24 [(.int .i64 0)] fun o t=>∀b,Ext t b->Run Tryz.prog (.makeInterface 196 (.pointer o)) b fun u p=>Ext b p/\∃j,u=j/\∀k,Ext p k->FnP Tryz.prog zoU #[h,j] k fun v a=>∃c,v=(.bool c)/\(((c=true)->∃l,cell a o 0=some (.int .i64 l)/\∀d,Ext a d->FnP Tryz.prog zbu #[(.int .i64 l)] d fun w x=>Ext d x/\∃e,w=(.string e)/\zdl (⟨#[101,114,114,32]⟩:ByteArray) e/\∀m,Ext a m->q (.string ((⟨#[101,114,114,32]⟩:ByteArray)++e)) m))/\((c=false)->∀n,Ext a n->q (.string g) n)
theorem zpK(a:Option Addr)(b:ByteArray)(c:World)(d:Value->World->Prop)(h:zqj a b c d):FnP Tryz.prog zev #[(.pointer a),(.string b)] c d:=
 zab (Eq.mp (by kernel_rfl:_=Runs Tryz.prog d ({N:=21,pub:=[7],muts:=[21,29,22,24,81,103,104]}:Cfg) Tryz.f49 (Tryz.f49.body.getD .skip) [.sc (.ptr a),.sc (.str b)] c) h) Tryz.func49 (by kernel_rfl) (fun a w=>Tryz.call49 a w) (by kernel_rfl) (by kernel_rfl) rfl rfl
def zwc(z:Option Addr)(d H:Nat)(A:World)(B:Value->World->Prop):Prop:=
 ((100<(d:Int))->∀b,Ext A b->B (.tuple #[(.slice none 0 0),(.int .i64 2)]) b)/\(((d:Int)<=100)->∀b,Ext A b->FnP Tryz.prog zjw #[] b fun C v=>Ext b v/\∃m,C=(.pointer m)/\∃(l:Option Addr->Nat->Nat->Int->World->Prop) (y:Option Addr->Nat->Nat->Int->World->Nat),l none 0 0 0 v/\∀(e:Option Addr)(f:Nat)(g:Nat)(a:Int)(c:World),l e f g a c->(((a<(d:Int))->z≠none/\(0:Int)<=a/\(a:Int)<(d:Int)/\∃n,cell c (pIdx z a 1) 0=some (.string n)/\∀o,Ext c o->FnP Tryz.prog zev #[(.pointer m),(.string n)] o fun D E=>∃p,D=(.string p)/\∀h,Ext E h->Run Tryz.prog (.buildSlice 22 1 [(0,(.string p))]) h fun F w=>Ext h w/\∃q r s,F=(.slice q r s)/\∀t,Ext w t->Run Tryz.prog (.append #[22,22] 22 [(.slice e f g),(.slice q r s)]) t fun G x=>∃i j k,G=(.slice i j k)/\InR .i64 (a+1)/\(l i j k (a+1) x/\y i j k (a+1) x<y e f g a c)))/\(((d:Int)<=a)->∀u,Ext c u->B (.tuple #[(.slice e f g),(.int .i64 0)]) u))
theorem zvl(a:Option Addr)(b c:Nat)(d:World)(e:Value->World->Prop)(h:zwc a b c d e):FnP Tryz.prog zcj #[(.slice a b c)] d e:=
 zab (Eq.mp (by kernel_rfl:_=Runs Tryz.prog e ({N:=26,muts:=[21,29,22,24,81,49]}:Cfg) Tryz.f12 (Tryz.f12.body.getD .skip) [.sc (.slc a b c)] d) h) Tryz.func12 (by kernel_rfl) (fun a w=>Tryz.call12 a w) (by kernel_rfl) (by kernel_rfl) rfl rfl
def zeL  (w:World) (Q:Value->World->Prop):Prop :=
 ∀w0,Ext w w0 ->
 Run Tryz.prog (.buildSlice 22 6 [(0,(.string (⟨#[104,111,115,116,32,97,32,99,112,117,61,50,32,45]⟩:ByteArray))),(1,(.string (⟨#[111,112,101,110]⟩:ByteArray))),(2,(.string (⟨#[115,117,98,109,105,116,32,97,110,110,32,48,32,99,112,117,61,49,32,45,32,99,112,117,62,61,49]⟩:ByteArray))),(3,(.string (⟨#[112,108,97,110]⟩:ByteArray))),(4,(.string (⟨#[103,111,111,100,32,49]⟩:ByteArray))),(5,(.string (⟨#[115,104,111,119,32,49]⟩:ByteArray)))]) w0 fun v1 w1 =>
  Ext w0 w1 /\
  ∃t2:Option Addr,∃tl3:Nat,∃tc4:Nat,v1=(.slice t2 tl3 tc4) /\
  ∀w5,Ext w1 w5 ->
  FnP Tryz.prog zcj #[(.slice t2 tl3 tc4)] w5 fun v6 w6 =>
   ∃t7:Option Addr,∃tl8:Nat,∃tc9:Nat,∃t10:Int,v6=(.tuple #[(.slice t7 tl8 tc9),(.int .i64 t10)]) /\
   (((t10=0) ->
    ∀w11,Ext w6 w11 ->
    Run Tryz.prog (.buildSlice 22 6 [(0,(.string (⟨#[111,107]⟩:ByteArray))),(1,(.string (⟨#[111,107]⟩:ByteArray))),(2,(.string (⟨#[49]⟩:ByteArray))),(3,(.string (⟨#[49,64,97]⟩:ByteArray))),(4,(.string (⟨#[111,107]⟩:ByteArray))),(5,(.string (⟨#[100,111,110,101]⟩:ByteArray)))]) w11 fun v12 w12 =>
     Ext w11 w12 /\
     ∃t13:Option Addr,∃tl14:Nat,∃tc15:Nat,v12=(.slice t13 tl14 tc15) /\
     ∀w16,Ext w12 w16 ->
     FnP Tryz.prog zax #[(.slice t7 tl8 tc9),(.slice t13 tl14 tc15)] w16 fun v17 w17 =>
      Ext w16 w17 /\
      ∃t18:Bool,v17=(.bool t18) /\
      ∀w19,Ext w12 w19 ->
      Q (.bool t18) w19)) /\
   ((t10≠0) ->
    ∀w11,Ext w6 w11 ->
    Q (.bool false) w11)
theorem zjc  (w:World) (Q:Value->World->Prop) (h:zeL  w Q):FnP Tryz.prog zar #[] w Q:=by
 have e_:zeL  w Q=Runs Tryz.prog Q ({ N:=15,wrap:=[],pub:=[],muts:=[21,29,22,24,81,12],joins:=[] }:Cfg) Tryz.f19 (Tryz.f19.body.getD .skip) [] w:=by kernel_rfl
 rw[e_] at h
 exact zab h Tryz.func19 (by kernel_rfl) (fun args w=>Tryz.call19 args w) (by kernel_rfl) (by kernel_rfl) rfl rfl
def ze2(m:Option Addr)(c p:Nat)(n:Option Addr)(g q:Nat)(o:World)(h:Value->World->Prop):Prop:=
 (((c:Int)≠(g:Int))->∀i,Ext o i->h (.bool false) i)/\(((c:Int)=(g:Int))->∃(f:Int->World->Prop) (l:Int->World->Nat),f 0 o/\∀(a:Int)(b:World),f a b->(((a<(c:Int))->m≠none/\(0:Int)<=a/\(a:Int)<(c:Int)/\∃d,cell b (pIdx m a 1) 0=some (.string d)/\n≠none/\(0:Int)<=a/\(a:Int)<(g:Int)/\∃e,cell b (pIdx n a 1) 0=some (.string e)/\((d≠e)->∀j,Ext b j->h (.bool false) j)/\((d=e)->InR .i64 (a+1)/\(f (a+1) b/\l (a+1) b<l a b))))/\(((c:Int)<=a)->∀k,Ext b k->h (.bool true) k))
theorem zeZ(a:Option Addr)(b c:Nat)(d:Option Addr)(e f:Nat)(g:World)(i:Value->World->Prop)(h:ze2 a b c d e f g i):FnP Tryz.prog zax #[(.slice a b c),(.slice d e f)] g i:=
 zab (Eq.mp (by kernel_rfl:_=Runs Tryz.prog i ({N:=26}:Cfg) Tryz.f13 (Tryz.f13.body.getD .skip) [.sc (.slc a b c),.sc (.slc d e f)] g) h) Tryz.func13 (by kernel_rfl) (fun a w=>Tryz.call13 a w) (by kernel_rfl) (by kernel_rfl) rfl rfl
def lng(y:Int):Prop:=(y%4=0/\y%100≠0)\/y%400=0
instance (y:Int):Decidable (lng y):=by unfold lng;infer_instance
def ah(m:Int):Int:=if m<=1 then 0 else if m=2 then 31 else if m=3 then 59 else if m=4 then 90 else if m=5 then 120 else if m=6 then 151 else if m=7 then 181 else if m=8 then 212 else if m=9 then 243 else if m=10 then 273 else if m=11 then 304 else 334
def Gl(w:World):Prop:=∀i:Nat,i<13->cell w (some (⟨10,0,none⟩:Addr)) i=some (.int .i64 (ah i))
def GT(w:World):Prop:=∀i:Nat,i<64->cell w (some (⟨9,0,none⟩:Addr)) i=some (.int .u8 ((Lib.deBruijn64tab.getD i 0:Nat):Int))
def GC(w:World):Prop:=GT w/\Gl w
structure Cr where
 a:Int
 b:Int
 c:Int
 d:Int
 e:Int
def zv3:List ByteArray:=[⟨#[]⟩,⟨#[119,97,105,116]⟩,⟨#[114,117,110]⟩,⟨#[100,111,110,101]⟩,⟨#[102,97,105,108]⟩,⟨#[103,111,110,101]⟩]
def errT:Value:=.iface 329 (.agg #[.pointer (some ⟨11,175,none⟩)])
structure GD(w:World):Prop where
 gb:GB w
 whats:zau w (some ⟨4,0,none⟩) (zv3.map Value.string)
 eType:Go.Sx.cell w (some ⟨0,0,none⟩) 0=some errT
 gc:GC w
theorem tab_fr{P:Program}{S:Nat->Prop}{w w':World}{name:String}{k:IntKind}{zs:List Int}(h:Lib.TabIs P w name k zs)(f:Fr S w w')(hS:∀g,P.globalNamed name=some g->¬S g):Lib.TabIs P w' name k zs:=by
 unfold Lib.TabIs World.var? at *
 cases hg:P.globalNamed name with
 |none => simp[hg] at h
 |some g =>
  simp only[hg,Option.bind_some] at h ⊢
  have hlt:g<w.heap.size:=by
   rcases Nat.lt_or_ge g w.heap.size with h'|h'
   ·exact h'
   ·rw[Array.getElem?_eq_none h'] at h;simp at h
  rw[f.block g hlt (hS g hg)];exact h
theorem g1 : Tryz.prog.globalNamed "internal/strconv.uint64pow10" = some 1 := by kernel_rfl
theorem GB.fr{S:Nat->Prop}{w w':World}(g:GB w)(f:Fr S w w')(h:∀b,S b->11<=b):GB w':=by
 have n:∀b,b<11->¬S b:=fun b hb hs=>by have:=h b hs;omega
 refine⟨tab_fr g.pow f fun b hb=>?_,?_,?_,?_⟩
 ·rw[g1] at hb;injection hb with hb;subst hb;exact n 1 (by omega)
 ·obtain⟨m,e⟩:=g.maxLen;exact⟨m,zdP e f fun a ha=>by cases ha;exact n 5 (by omega)⟩
 ·obtain⟨m,e,k⟩:=g.eSyn;exact⟨m,zdP e f fun a ha=>(by cases ha;exact n 2 (by omega)),k⟩
 ·obtain⟨m,e,k⟩:=g.eRan;exact⟨m,zdP e f fun a ha=>(by cases ha;exact n 3 (by omega)),k⟩
theorem GD.fr{S:Nat->Prop}{w w':World}(g:GD w)(f:Fr S w w')(h:∀b,S b->11<=b):GD w':=by
 have n:∀b,b<11->¬S b:=fun b hb hs=>by have:=h b hs;omega
 exact⟨g.gb.fr f h,g.whats.fr f fun a ha=>(by cases ha;exact n 4 (by omega)),zdP g.eType f fun a ha=>(by cases ha;exact n 0 (by omega)),⟨fun i hi=>zdP (g.gc.1 i hi) f fun a ha=>(by cases ha;exact n 9 (by omega)),fun i hi=>zdP (g.gc.2 i hi) f fun a ha=>(by cases ha;exact n 10 (by omega))⟩⟩
theorem GD.ext{w w':World}(g:GD w)(e:Ext w w'):GD w':=g.fr (zac (S:=fun _=>False) e) fun _ h=>h.elim
def EV(v:Value)(c:Int):Prop:=(c=0/\v=.nilIface)\/(c≠0/\(v=.iface 24 (.int .i64 c)\/∃k:Int,v=.iface 257 (.agg #[.int .i64 k,.iface 24 (.int .i64 c)])))
theorem EV.isErr{v:Value}{c:Int}(h:EV v c):isErr v:=by
 rcases h with⟨_,h⟩|⟨_,h|⟨k,h⟩⟩
 ·exact .inl h
 ·exact .inr ⟨_,_,h⟩
 ·exact .inr ⟨_,_,h⟩
theorem EV.nil{v:Value}{c:Int}(h:EV v c):v=.nilIface↔c=0:=by
 rcases h with⟨h0,h⟩|⟨h0,h|⟨k,h⟩⟩
 ·exact⟨fun _=>h0,fun _=>h⟩
 ·exact⟨fun g=>(by rw[h] at g;cases g),fun g=>absurd g h0⟩
 ·exact⟨fun g=>(by rw[h] at g;cases g),fun g=>absurd g h0⟩
theorem u24:Tryz.prog.underlying 24=some (.int .i64):=by kernel_rfl
theorem zu4{c:Int}{w:World}{K:Value->World->Prop}(h:K (.iface 24 (.int .i64 c)) w):Run Tryz.prog (.makeInterface 24 (.int .i64 c)) w K :=
 zfH u24 (by intro m hm;cases hm) h
theorem u257:(Tryz.prog.underlying 257).map (fun d=>match d with|.struct _=>true|_=>false)=some true:=by kernel_rfl
theorem zAU{k c:Int}{w:World}{K:Value->World->Prop}(h:K (.iface 257 (.agg #[.int .i64 k,.iface 24 (.int .i64 c)])) w):Run Tryz.prog (.makeInterface 257 (.agg #[.int .i64 k,.iface 24 (.int .i64 c)])) w K:=by
 obtain⟨d,hd,he⟩:=Option.map_eq_some_iff.1 u257
 exact zfH hd (by intro m hm;subst hm;cases he) h
theorem zF4{c:Int}(h:c≠0):EV (.iface 24 (.int .i64 c)) c:=.inr ⟨h,.inl rfl⟩
theorem zAE{k c:Int}(h:c≠0):EV (.iface 257 (.agg #[.int .i64 k,.iface 24 (.int .i64 c)])) c:=.inr ⟨h,.inr ⟨k,rfl⟩⟩
theorem ev0:EV .nilIface 0:=.inl ⟨rfl,rfl⟩
theorem zqt(e:Int)(w:World):FnP Tryz.prog zce #[.int .i64 e] w fun v w'=>Ext w w'/\EV v e :=
 ztc e w _ ⟨fun h w0 h0=>⟨h0,by rw[h];exact ev0⟩,fun h w0 h0=>zu4 ⟨Ext.refl _,_,rfl,fun w3 h3=>⟨h0.trans h3,zF4 h⟩⟩⟩
theorem neE{v:Value}{c:Int}(h:EV v c){w:World}{K:Value->World->Prop}(hk:∀b:Bool,(b=false↔c=0)->K (.bool b) w):Run Tryz.prog (.eq .neq 175 false true v .nilIface) w K :=
 zi8 (by kernel_rfl) h.isErr fun b hb=>hk b (hb.trans h.nil)
def WOk(F:Fm):Prop:=∀s∈F.jobs,1<=s.what/\s.what<=5
theorem WOk.st{F:Fm}(h:WOk F)(k m:Nat)(v:Int)(hv:m=11->1<=v/\v<=5):WOk (stF F k m v):=by
 intro s hs
 have hs:s∈F.jobs.set k (zjj m v (F.jobs.getD k default)):=hs
 by_cases hk:k<F.jobs.length
 ·rcases List.mem_or_eq_of_mem_set hs with hm|rfl
  ·exact h s hm
  ·have hm:=h _ (zaq F.jobs default hk)
   unfold zjj
   split
   ·exact hv rfl
   ·exact hm
   ·exact hm
   ·exact hm
   ·exact hm
 ·rw[List.set_eq_of_length_le (by omega)] at hs
  exact h s hs
theorem WOk.lostTo{F:Fm}(h:WOk F):∀n,WOk (lostTo F n)
 |0 => h
 |n+1 => by
  rw[Go.Proofs.YtcceeahmcecbnaaGreatDoor.lostTo,zbS]
  split
  ·exact(WOk.lostTo h n).st _ _ _ fun _=>by omega
  ·exact WOk.lostTo h n
theorem WOk.lost{F:Fm}(h:WOk F):WOk (zmM F):=h.lostTo _
theorem WOk.leave{F:Fm}(h:WOk F)(k:Nat):WOk (zdA F k):=by
 have hg:WOk (zkA F k):=h
 exact(hg.st _ _ _ fun h=>by cases h).st _ _ _ fun h=>by cases h
theorem WOk.rep{F:Fm}(h:WOk F)(k:Nat)(ok:Bool):WOk (zg9 F k ok):=by
 unfold zg9 zcS
 split
 ·exact(h.leave k).st _ _ _ fun _=>by omega
 ·split
  ·exact((((h.leave k).st _ _ _ fun h=>by cases h).st _ _ _ fun _=>by omega).st _ _ _ fun h=>by cases h)
  ·exact(((h.leave k).st _ _ _ fun h=>by cases h).st _ _ _ fun _=>by omega).lost
theorem WOk.can{F:Fm}(h:WOk F)(k:Nat):WOk (zAt F k):=by
 unfold zAt
 split
 ·exact((h.leave k).st _ _ _ fun _=>by omega).lost
 ·exact(h.st _ _ _ fun _=>by omega).lost
theorem WOk.sub{F:Fm}(h:WOk F)(j:Jb):WOk (zqc F j):=by
 intro s hs
 rcases List.mem_append.1 hs with hs|hs
 ·exact h s hs
 ·simp at hs;subst hs;exact⟨by show(1:Int)<=1;omega,by show(1:Int)<=5;omega⟩
theorem WOk.run{F:Fm}(h:WOk F)(k0:Nat)(k:Int):WOk (zfP F k0 k):=by
 have hg:WOk (zkU F k0 k):=h
 exact((hg.st _ _ _ fun _=>by omega).st _ _ _ fun h=>by cases h).st _ _ _ fun h=>by cases h
theorem WOk.plan{F G:Fm}{outs:List (Int×Int)}(h:WOk F)(p:zdd F G outs):WOk G :=
 zlT (fun F id k _ _ _ h=>h.run _ k) p h
theorem WOk.tick{F:Fm}(h:WOk F)(n:Int):WOk { F with now:=n }:=h
structure Kt where
 hp:Option Addr
 hn:Nat
 hc:Nat
 L:List Ht
 farm:Option (Nat×Pl×Fm)
inductive DS
 |shut (L:List Ht)
 |opn (F:Fm)
def Kt.st(K:Kt):DS:=match K.farm with
 |none => .shut K.L
 |some (_,_,F) => .opn F
def Kt.fp(K:Kt):Option Addr:=match K.farm with
 |none => none
 |some (fb,_,_) => ptr fb
abbrev dcs(K:Kt):List Value:=[.slice K.hp K.hn K.hc,.pointer K.fp]
def KF(db:Nat)(K:Kt)(b:Nat):Prop:=b=db\/∃fb P F,K.farm=some (fb,P,F)/\ft fb P.jp b
def dO(O:Nat->Prop)(db:Nat)(b:Nat):Prop:=O b\/b=db
theorem hs_of{w:World}{p:Option Addr}{M:List Hm}(h:zfQ 8 zjD w p M)(hl:∀m∈M,Lbs w m.q m.h.labels):ziz w p (M.map (·.h)):=fun i x hx=>by
 rw[List.getElem?_map,Option.map_eq_some_iff] at hx
 obtain⟨m,hm,rfl⟩:=hx
 exact⟨m.q,m.d,fun j u hu=>h i m hm j u hu,hl m (List.mem_of_getElem? hm)⟩
structure KX(O:Nat->Prop)(B:Nat)(w:World)(db:Nat)(K:Kt):Prop where
 slot:Own B w zwG 2 (ptr db) 1 1 (dcs K)
 shut:K.farm=none->K.hn=K.L.length/\(∃M:List Hm,M.map (·.h)=K.L/\∀w'',Fr (dO O db) w w''->zfQ 8 zjD w'' K.hp M/\∀m∈M,Lbs w'' m.q m.h.labels)/\zj9 K.L/\(∀h∈K.L,zry h/\h.used=za6)
 opn:∀fb P F,K.farm=some (fb,P,F)->FXO (dO O db) B w fb P F/\Inv F/\WOk F
 olt:∀b,O b->b<w.heap.size
 odis:∀b,O b->b≠db
section
variable {O:Nat->Prop} {B db:Nat} {w:World} {K:Kt}
theorem KX.foot(x:KX O B w db K){b:Nat}(h:KF db K b):B<=b/\b<w.heap.size:=by
 rcases h with rfl|⟨fb,P,F,e,h⟩
 ·exact x.slot.lt _ rfl
 ·exact(x.opn fb P F e).1.foot h
theorem KX.oft(x:KX O B w db K){b:Nat}(h:O b):¬KF db K b:=by
 rintro (rfl|⟨fb,P,F,e,hf⟩)
 ·exact x.odis _ h rfl
 ·exact(x.opn fb P F e).1.odis b (.inl h) hf
theorem KX.cell(x:KX O B w db K){i:Nat}{v:Value}(h:(dcs K)[i]?=some v):Go.Sx.cell w (pAdd (ptr db) i) 0=some v:=by rw[zak];exact x.slot.cells i v h
theorem KX.fp(x:KX O B w db K):Go.Sx.cell w (pAdd (ptr db) 1) 0=some (.pointer K.fp):=x.cell (i:=1) rfl
theorem KX.keep(x:KX O B w db K){W:World}(e:Ext W w)(hB:W.heap.size<=B){w':World}(f:Fr (KF db K) w w'):Ext W w':=f.ext e fun b hb=>Nat.le_trans hB (x.foot hb).1
theorem KX.go{O' S:Nat->Prop}{w9:World}(x:KX O B w db K)(f:Fr S w w9)(hS:∀b,S b->O b)(h:∀b,O' b->O b\/(w.heap.size<=b/\b<w9.heap.size)):KX O' B w9 db K:=by
 have hdb:=(x.slot.lt _ rfl).2
 have h':∀b,dO O' db b->dO O db b\/(w.heap.size<=b/\b<w9.heap.size):=fun b hb=>by
  rcases hb with hb|hb
  ·exact(h b hb).imp .inl id
  ·exact .inl (.inr hb)
 refine⟨x.slot.fr f fun a ha hs=>?_,fun e=>?_,fun fb P F e=>?_,fun b hb=>?_,fun b hb hd=>?_⟩
 ·cases ha;exact x.odis _ (hS _ hs) rfl
 ·obtain⟨a1,⟨M,m1,a2⟩,a3⟩:=x.shut e
  exact⟨a1,⟨M,m1,fun w'' k=>a2 w'' ((f.mono fun b hb=>.inl (hS b hb)).trans k fun b hb=>(h' b hb).imp id (·.1))⟩,a3⟩
 ·obtain⟨a1,a2⟩:=x.opn fb P F e
  exact⟨a1.go f (fun b hb=>.inl (hS b hb)) h',a2⟩
 ·rcases h b hb with g|g
  ·have:=x.olt b g;have:=f.size;omega
  ·exact g.2
 ·subst hd
  rcases h b hb with g|g
  ·exact x.odis b g rfl
  ·have hd:b<w.heap.size:=hdb
   omega
theorem KX.fr{S:Nat->Prop}{w':World}(x:KX O B w db K)(f:Fr S w w')(hS:∀b,S b->O b):KX O B w' db K:=x.go f hS fun b hb=>.inl hb
theorem KX.ext{w':World}(x:KX O B w db K)(e:Ext w w'):KX O B w' db K:=x.fr (zac (S:=fun _=>False) e) fun _ h=>h.elim
theorem KX.hs(x:KX O B w db K)(e:K.farm=none){w':World}(h:Ext w w'):ziz w' K.hp K.L:=by
 obtain⟨_,⟨M,m1,a2⟩,_⟩:=x.shut e
 obtain⟨q1,q2⟩:=a2 w' (zac h)
 rw[<-m1]
 exact hs_of q1 q2
end
def zuR(w:World)(db:Nat)(K K':Kt):Prop:=∀b,KF db K' b->KF db K b\/w.heap.size<=b
theorem zCv(w:World):FnP Tryz.prog zjw #[] w fun v w'=>Ext w w'/\∃db,v=.pointer (ptr db)/\KX (fun b=>b<w.heap.size) w.heap.size w' db ⟨none,0,0,[],none⟩:=by
 refine zxE w _ fun w0 h0=>zbp (by intro v hv;simp at hv;rcases hv with rfl|rfl<;>rfl) fun w1 o1 e1 w2 h2=>⟨(h0.trans e1).trans h2,_,rfl,(o1 _ h0.size).ext h2,fun _=>⟨rfl,⟨[],rfl,fun w'' _=>⟨fun i h hi=>by simp at hi,by simp⟩⟩,⟨by simp,by simp,by simp⟩,by simp⟩,fun fb P F e=>(by cases e),fun b hb=>?_,fun b hb hd=>?_⟩
 ·have hb:b<w.heap.size:=hb
  have:=((h0.trans e1).trans h2).size
  omega
 ·have hb:b<w.heap.size:=hb
  have hd:b=w0.heap.size:=hd
  have:=h0.size;omega
def CR(O:Nat->Prop)(B db:Nat)(w:World)(K:Kt)(R:ByteArray->Int->DS->Prop)(v:Value)(w':World):Prop :=
 ∃(s:ByteArray) (ev:Value) (c:Int) (K':Kt),v=.tuple #[.string s,ev]/\EV ev c/\KX O B w' db K'/\Fr (KF db K) w w'/\zuR w db K K'/\R s c K'.st
theorem zcE{O:Nat->Prop}{B db:Nat}{w w':World}{K:Kt}{R:ByteArray->Int->DS->Prop}(x:KX O B w db K)(e:Ext w w'){s:ByteArray}{ev:Value}{c:Int}(he:EV ev c)(hR:R s c K.st):CR O B db w K R (.tuple #[.string s,ev]) w' :=
 ⟨s,ev,c,K,rfl,he,x.ext e,zac e,fun b hb=>.inl hb,hR⟩
theorem zwW{O:Nat->Prop}{B db:Nat}{w0 w w':World}{K:Kt}{R:ByteArray->Int->DS->Prop}{v:Value}(e:Ext w0 w)(h:CR O B db w K R v w'):CR O B db w0 K R v w':=by
 obtain⟨s,ev,c,K',h1,h2,h3,h4,h5,h6⟩:=h
 exact⟨s,ev,c,K',h1,h2,h3,(zac e).tr h4,fun b hb=>(h5 b hb).imp id fun h=>Nat.le_trans e.size h,h6⟩
theorem CR.mono{O:Nat->Prop}{B db:Nat}{w w':World}{K:Kt}{R R':ByteArray->Int->DS->Prop}{v:Value}(h:CR O B db w K R v w')(k:∀s c σ,R s c σ->R' s c σ):CR O B db w K R' v w':=by
 obtain⟨s,ev,c,K',h1,h2,h3,h4,h5,h6⟩:=h
 exact⟨s,ev,c,K',h1,h2,h3,h4,h5,k _ _ _ h6⟩
theorem zAZ:∀(u:Nat),u<=9223372036854775807->Lib.parseUintM 18446744073709551615 0 (Lib.decDigits u)=.ok u:=by
 intro u
 induction u using Nat.strongRecOn with
 |_ u ih =>
  intro hu
  rw[Lib.decDigits]
  split
  ·rename_i h
   simp only[Lib.parseUintM]
   rw[zse (by omega),if_pos (by omega),if_neg (by omega),if_neg (by omega)]
   congr 1;omega
  ·rename_i h
   rw[zna _ (ih (u/10) (by omega) (by omega))]
   simp only[Lib.parseUintM]
   rw[zse (by omega),if_pos (by omega),if_neg (by omega),if_neg (by omega)]
   congr 1;omega
theorem zfG{n:Int}(h0:0<=n)(h1:n<=9223372036854775807):Lib.parseIntB 64 (Lib.itoa n)=.ok n:=by
 rw[zdU h0]
 have hd:=zc2 n.toNat
 cases hl:Lib.decDigits n.toNat with
 |nil => exact absurd hl (zpb _)
 |cons c r =>
  have hc:=hd c (by rw[hl];exact List.mem_cons_self ..)
  rw[Lib.parseIntB_plain 64 c r (by omega) (by omega),<-hl]
  unfold Lib.parseUintB
  rw[if_neg (zpb _),show(2:Nat)^64-1=18446744073709551615 by decide,zAZ _ (by omega)]
  show(if (2:Nat)^(64-1)<=n.toNat then _ else _)=_
  rw[if_neg (by
   have:(2:Nat)^(64-1)=9223372036854775808:=by decide
   omega)]
  congr 1;omega
theorem zC4{m n:Int}(hm:0<=m/\m<=9223372036854775807)(hn:0<=n/\n<=9223372036854775807)(h:Lib.itoa m=Lib.itoa n):m=n:=by
 have:=zfG hm.1 hm.2
 rw[h,zfG hn.1 hn.2] at this
 injection this with e
 exact e.symm
def zGJ(s:ByteArray)(n c:Int):Prop:=(c=0/\0<=n/\n<=9223372036854775807/\s=ofL (Lib.itoa n)/\s.size<=18)\/(c=3/\n=0/\∀m:Int,0<=m->m<=9223372036854775807->s=ofL (Lib.itoa m)->¬s.size<=18)
theorem zpG(wp:Option Addr)(wc:Nat)(ws:List ByteArray)(h1:1<ws.length)(hs:(ws.getD 1 ⟨#[]⟩).size<=281474976710656)(w:World)(hw:zau w wp (ws.map Value.string))(g:GB w) :
  FnP Tryz.prog zew #[.slice wp ws.length wc,.int .i64 1] w fun v w'=>Ext w w'/\∃(n:Int) (ev:Value) (c:Int),v=.tuple #[.int .i64 n,ev]/\EV ev c/\zGJ (ws.getD 1 ⟨#[]⟩) n c:=by
 have hc:∀{w':World},Ext w w'->Go.Sx.cell w' (pIdx wp 1 1) 0=some (.string (ws.getD 1 ⟨#[]⟩)):=fun e=>by
  rw[zae]
  refine(hw.ext e) 1 _ ?_
  rw[List.getElem?_map,getElem?_getD ws ⟨#[]⟩ h1];rfl
 have np:wp≠none:=fun h=>zaj (hc (Ext.refl w)) (zah.2 h)
 generalize ws.getD 1 ⟨#[]⟩=s at hs hc ⊢
 have bad:∀{w1 w8:World},Ext w w1->Ext w1 w8->(∀m:Int,0<=m->m<=9223372036854775807->s=ofL (Lib.itoa m)->¬s.size<=18) ->
   Run Tryz.prog (.makeInterface 24 (.int .i64 3)) w8 fun v9 w9=>Ext w8 w9/\∃t10:Value,v9=t10/\Value.oneCell' t10=true/\∀w11,Ext w9 w11 ->
    Run Tryz.prog (.makeInterface 257 (.agg #[.int .i64 1,t10])) w11 fun v12 w12=>Ext w11 w12/\∃t13:Value,v12=t13/\∀w14,Ext w12 w14 ->
     Ext w w14/\∃(n:Int) (ev:Value) (c:Int),Value.tuple #[.int .i64 0,t13]=.tuple #[.int .i64 n,ev]/\EV ev c/\zGJ s n c:=fun x1 x8 hno =>
  zu4 ⟨Ext.refl _,_,rfl,rfl,fun w11 h11=>zAU ⟨Ext.refl _,_,rfl,fun w14 h14=>⟨((x1.trans x8).trans h11).trans h14,0,_,3,rfl,zAE (by decide),.inr ⟨rfl,rfl,hno⟩⟩⟩⟩
 refine zpM wp ws.length wc 1 w _ ⟨np,by omega,by omega,_,hc (Ext.refl w),fun w1 x1=>(zjA s hs w1 (g.ext x1)).mono fun v w2 ⟨e2,n,ev,hv,hcase⟩=>⟨e2,n,ev,hv,fun w5 h5=>?_⟩⟩
 have x2:=x1.trans e2
 refine zi8 (by kernel_rfl) (hcase.elim (fun h=>.inl h.1) fun h=>.inr h.1) fun t ht=>⟨Ext.refl _,t,rfl,fun _=>np,fun _=>by omega,fun _=>by omega,fun htt w8 h8=>bad x2 h8 fun m h0 h63 hm=>?_,fun htf=>⟨_,hc x2,fun _=>np,fun _=>by omega,fun _=>by omega,fun hgt w9 h9=>bad x2 h9 fun m _ _ _=>by omega,fun hle=>⟨_,hc x2,fun w10 h10=>?_⟩⟩⟩
 ·exfalso
  have hp:=zfG (n:=m) h0 h63
  have hsd:s.data.toList=Lib.itoa m:=by rw[hm];rfl
  rw[hsd] at hcase
  rcases hcase with⟨q1,q2⟩|⟨_,q2⟩
  ·rw[ht.2 q1] at htt;cases htt
  ·exact q2 _ hp
 ·obtain⟨hev,hpar⟩:ev=.nilIface/\Lib.parseIntB 64 s.data.toList=.ok n:=by
   rcases hcase with h|⟨⟨a,b,h⟩,_⟩
   ·exact h
   ·have:=ht.1 htf
    rw[h] at this;cases this
  have hb:=zhK (zg5 hpar)
  refine(zoW n hb w10 ((g.ext x2).ext h10)).mono fun v w11 ⟨e11,hv⟩=>⟨e11,_,hv,fun hor w13 h13=>bad x2 h13 fun m h0 h63 hm=>?_,fun hand w13 h13=>⟨x2.trans h13,n,_,0,rfl,ev0,.inl ⟨rfl,hand.2,hb.2,hand.1.symm,by omega⟩⟩⟩
  exfalso
  have hp:=zfG (n:=m) h0 h63
  have hsd:s.data.toList=Lib.itoa m:=by rw[hm];rfl
  rw[hsd] at hpar
  have:n=m:=by rw[hp] at hpar;injection hpar with hpar;exact hpar.symm
  subst this
  rcases hor with h|h
  ·exact h hm.symm
  ·omega
section
variable {O:Nat->Prop} {B db:Nat} {w:World} {K:Kt}
theorem KX.turn(x:KX O B w db K){fb:Nat}{P P':Pl}{F G:Fm}(hK:K.farm=some (fb,P,F)){w':World}(y:FXO (dO O db) B w' fb P' G)(f:Fr (ft fb P.jp) w w')(hg:∀b,ft fb P'.jp b->ft fb P.jp b\/w.heap.size<=b)(I:Inv G)(W:WOk G) :
  KX O B w' db { K with farm:=some (fb,P',G) }/\Fr (KF db K) w w'/\zuR w db K { K with farm:=some (fb,P',G) }:=by
 have hx:=(x.opn fb P F hK).1
 refine⟨⟨?_,fun e=>(by cases e),fun fb' P1 F1 e=>?_,fun b hb=>Nat.lt_of_lt_of_le (x.olt b hb) f.size,x.odis⟩,f.mono fun b hb=>.inr ⟨fb,P,F,hK,hb⟩,fun b hb=>?_⟩
 ·have:dcs { K with farm:=some (fb,P',G) }=dcs K:=by simp[dcs,Kt.fp,hK]
  rw[this]
  exact x.slot.fr f fun a ha hs=>(by cases ha;exact hx.odis _ (.inr rfl) hs)
 ·injection e with e
  obtain⟨rfl,rfl,rfl⟩:fb=fb'/\P'=P1/\G=F1:=by simpa using e
  exact⟨y,I,W⟩
 ·rcases hb with rfl|⟨fb',P1,F1,e,h⟩
  ·exact .inl (.inl rfl)
  ·injection e with e
   obtain⟨rfl,rfl,rfl⟩:fb=fb'/\P'=P1/\G=F1:=by simpa using e
   exact(hg b h).imp (fun h=>.inr ⟨fb,P,F,hK,h⟩) id
theorem KX.fbp(x:KX O B w db K){fb:Nat}{P:Pl}{F:Fm}(hK:K.farm=some (fb,P,F)):Go.Sx.cell w (pAdd (ptr db) 1) 0=some (.pointer (ptr fb)):=by
 have:=x.fp
 unfold Kt.fp at this
 rw[hK] at this
 exact this
theorem KX.nofp(x:KX O B w db K)(hK:K.farm=none):Go.Sx.cell w (pAdd (ptr db) 1) 0=some (.pointer none):=by
 have:=x.fp
 unfold Kt.fp at this
 rw[hK] at this
 exact this
theorem Kt.st_opn{K:Kt}{fb:Nat}{P:Pl}{F:Fm}(hK:K.farm=some (fb,P,F)):K.st=.opn F:=by unfold Kt.st;rw[hK]
theorem Kt.st_shut{K:Kt}(hK:K.farm=none):K.st=.shut K.L:=by unfold Kt.st;rw[hK]
theorem Kt.cases(K:Kt):K.farm=none\/∃fb P F,K.farm=some (fb,P,F):=by
 cases h:K.farm with
 |none => exact .inl rfl
 |some y => exact .inr ⟨y.1,y.2.1,y.2.2,rfl⟩
end
def NR(O:Nat->Prop)(B db:Nat)(w:World)(K:Kt)(R:Int->DS->Prop)(v:Value)(w':World):Prop :=
 ∃(e:Int) (K':Kt),v=.int .i64 e/\KX O B w' db K'/\Fr (KF db K) w w'/\zuR w db K K'/\R e K'.st
theorem zKm{O:Nat->Prop}{B db:Nat}{w w' w'':World}{K:Kt}{R:Int->DS->Prop}{v:Value}(h:NR O B db w K R v w')(e:Ext w' w''):NR O B db w K R v w'':=by
 obtain⟨c,K',h1,h3,h4,h5,h6⟩:=h
 exact⟨c,K',h1,h3.ext e,h4.tr (zac e),h5,h6⟩
theorem zs3{O:Nat->Prop}{B db:Nat}{w0 w w':World}{K:Kt}{R:Int->DS->Prop}{v:Value}(e:Ext w0 w)(h:NR O B db w K R v w'):NR O B db w0 K R v w':=by
 obtain⟨c,K',h1,h3,h4,h5,h6⟩:=h
 exact⟨c,K',h1,h3,(zac e).tr h4,fun b hb=>(h5 b hb).imp id fun h=>Nat.le_trans e.size h,h6⟩
theorem zs4{O:Nat->Prop}{B db:Nat}{w w':World}{K:Kt}{R:Int->DS->Prop}(x:KX O B w db K)(e:Ext w w'){c:Int}(hR:R c K.st):NR O B db w K R (.int .i64 c) w' :=
 ⟨c,K,rfl,x.ext e,zac e,fun b hb=>.inl hb,hR⟩
theorem zHs{F:Fm}(I:Inv F){n:Int}(h:0<=n/\n<=1000000000/\F.now+n<=1099511627776):Inv { F with now:=F.now+n }:=by
 have hn:=I.i0.now
 exact⟨⟨I.i0.aft,I.i0.pol,by show 0<=F.now+n/\F.now+n<=1099511627776;omega,I.i0.hs,I.i0.nd,I.i0.hrun,by
  intro i hi p hp
  have:=I.i0.use i hi p hp
  have e:∀m,use { F with now:=F.now+n } i p m=use F i p m:=fun m=>by
   induction m with
   |zero => rfl
   |succ n ih => unfold use;rw[ih];rfl
  rw[e];exact this,I.i0.ahead,I.i0.tries⟩,I.wt⟩
def zCf(F:Fm)(n:Int):Prop:=0<=n/\n<=1000000000/\F.now+n<=1099511627776
def ztC(F:Fm)(n e:Int)(σ:DS):Prop:=(e=4/\¬zCf F n/\σ=.opn F)\/(e=0/\zCf F n/\σ=.opn { F with now:=F.now+n })
def zCe(F:Fm)(id:Int):Prop:=inJ F id/\(zad F (id-1).toNat).what=2
def zHP(F:Fm)(id:Int):Prop:=inJ F id/\((zad F (id-1).toNat).what=1\/(zad F (id-1).toNat).what=2)
def zwx(ok:Bool)(F:Fm)(id e:Int)(σ:DS):Prop:=(e≠0/\ztW F id e/\¬zCe F id/\σ=.opn F)\/(e=0/\zCe F id/\σ=.opn (zg9 F (id-1).toNat ok))
def zFC(F:Fm)(id e:Int)(σ:DS):Prop:=(e≠0/\ztW F id e/\¬zHP F id/\σ=.opn F)\/(e=0/\zHP F id/\σ=.opn (zAt F (id-1).toNat))
section
variable {O:Nat->Prop} {B db:Nat} {w:World} {K:Kt} {fb:Nat} {P:Pl} {F:Fm} {pb:Option Addr}
theorem tick_c(x:KX O B w db K)(hK:K.farm=some (fb,P,F))(hpb:Go.Sx.cell w pb 0=some (.pointer (ptr db)))(n:Int) :
  FnP Tryz.prog zd6 #[.int .i64 n,.pointer pb] w (NR O B db w K (ztC F n)):=by
 have ne:=zaB db
 refine zhQ n pb w _ ⟨_,hpb,ne,ne,_,x.fbp hK,fun w2 x2=>?_⟩
 have y:=x.ext x2
 obtain⟨fx,I,W⟩:=y.opn fb P F hK
 refine(zIv fx I.i0.now n).mono fun v w3 ⟨e,hv,hor,hiff⟩=>⟨e,hv,fun w5 h5=>zs3 x2 (zKm ?_ h5)⟩
 rcases hor with⟨hne,he,h3⟩|⟨he,hc,fx',f⟩
 ·exact zs4 y h3 (.inl ⟨he,fun h=>hne (hiff.2 h),by rw[Kt.st_opn hK]⟩)
 ·obtain⟨a1,a2,a3⟩:=y.turn (P':=P) hK fx' f (fun b hb=>.inl hb) (zHs I hc) (W.tick _)
  exact⟨e,_,rfl,a1,a2,a3,.inr ⟨he,hc,rfl⟩⟩
theorem zH1(x:KX O B w db K)(hK:K.farm=some (fb,P,F))(hpb:Go.Sx.cell w pb 0=some (.pointer (ptr db)))(n:Int)(hn:InR .i64 n)(ok:Bool){f:FuncId}(hf:(ok=true/\f=zd7)\/(ok=false/\f=zd8)) :
  FnP Tryz.prog f #[.int .i64 n,.pointer pb] w (NR O B db w K (zwx ok F n)):=by
 have ne:=zaB db
 have fin:∀{w5:World},Ext w w5->FnP Tryz.prog zaT #[.pointer (ptr fb),.int .i64 n,.bool ok] w5 fun v6 w6=>∃t7:Int,v6=.int .i64 t7/\∀w8,Ext w6 w8->NR O B db w K (zwx ok F n) (.int .i64 t7) w8:=fun {w5} x5=>by
  have y:=x.ext x5
  obtain⟨fx,I,W⟩:=y.opn fb P F hK
  refine(zts fx I.i0.pre n hn ok).mono fun v w3 ⟨e,hv,hiff,hor⟩=>⟨e,hv,fun w8 h8=>zs3 x5 (zKm ?_ h8)⟩
  rcases hor with⟨hne,hE,h3⟩|⟨he,P',hjp,fx',f⟩
  ·exact zs4 y h3 (.inl ⟨hne,hE,fun h=>hne (hiff.2 h),by rw[Kt.st_opn hK]⟩)
  ·have hc:=hiff.1 he
   obtain⟨a1,a2,a3⟩:=y.turn hK fx' f (fun b hb=>.inl (by rw[hjp] at hb;exact hb)) (ztr I (zi4 hc.1) hc.2 ok) (W.rep _ ok)
   exact⟨e,_,rfl,a1,a2,a3,.inr ⟨he,hc,rfl⟩⟩
 have sm:∀(w2:World)(R:Value->World->Prop),(∀w3,Ext w2 w3->R (.int .i64 n) w3)->FnP Tryz.prog zeA #[.int .i64 n] w2 R:=fun w2 R h=>zlK n w2 R h
 rcases hf with⟨rfl,rfl⟩|⟨rfl,rfl⟩
 ·exact zhR n pb w _ ⟨_,hpb,ne,ne,_,x.fbp hK,fun w2 x2=>sm w2 _ fun w3 h3=>⟨h3,n,rfl,fun w5 x5=>fin x5⟩⟩
 ·exact zhS n pb w _ ⟨_,hpb,ne,ne,_,x.fbp hK,fun w2 x2=>sm w2 _ fun w3 h3=>⟨h3,n,rfl,fun w5 x5=>fin x5⟩⟩
theorem zFG(x:KX O B w db K)(hK:K.farm=some (fb,P,F))(hpb:Go.Sx.cell w pb 0=some (.pointer (ptr db)))(n:Int)(hn:InR .i64 n) :
  FnP Tryz.prog zd9 #[.int .i64 n,.pointer pb] w (NR O B db w K (zFC F n)):=by
 have ne:=zaB db
 refine zhT n pb w _ ⟨_,hpb,ne,ne,_,x.fbp hK,fun w2 x2=>zlK n _ _ fun w3 h3=>⟨h3,n,rfl,fun w5 x5=>?_⟩⟩
 have y:=x.ext x5
 obtain⟨fx,I,W⟩:=y.opn fb P F hK
 refine(zyV fx I.i0.pre n hn).mono fun v w3 ⟨e,hv,hiff,hor⟩=>⟨e,hv,fun w8 h8=>zs3 x5 (zKm ?_ h8)⟩
 rcases hor with⟨hne,hE,h3⟩|⟨he,P',hjp,fx',f⟩
 ·exact zs4 y h3 (.inl ⟨hne,hE,fun h=>hne (hiff.2 h),by rw[Kt.st_opn hK]⟩)
 ·have hc:=hiff.1 he
  obtain⟨a1,a2,a3⟩:=y.turn hK fx' f (fun b hb=>.inl (by rw[hjp] at hb;exact hb)) (zCg I (zi4 hc.1) hc.2) (W.can _)
  exact⟨e,_,rfl,a1,a2,a3,.inr ⟨he,hc,rfl⟩⟩
end
def zKk(R:Fm->Int->Int->DS->Prop)(σ:DS)(n e:Int)(σ':DS):Prop:=match σ with
 |.shut L => e=9/\σ'=.shut L
 |.opn F => R F n e σ'
def zra(R:Fm->Int->Int->DS->Prop)(word:ByteArray)(σ:DS)(s:ByteArray)(c:Int)(σ':DS):Prop :=
 ∃n c1,zGJ word n c1/\((c1≠0/\c=c1/\σ'=σ)\/(c1=0/\s=⟨#[111,107]⟩/\zKk R σ n c σ'))
section
variable {O:Nat->Prop} {B db:Nat} {w:World} {K:Kt}
theorem zgu{w:World}{p:Addr}{v:Value}(h:w.cell? p=some v):Go.Sx.cell w (some p) 0=some v:=by
 have:p.add 0=p:=add_zero p
 show w.cell? (p.add 0)=some v
 rw[this];exact h
theorem zzT(x:KX O B w db K){pb:Addr}{f:FuncId}{v:Value}(hv:zdi pb f v w)(hpb:w.cell? pb=some (.pointer (ptr db)))(g:GB w)
  (R:Fm->Int->Int->DS->Prop) (wp:Option Addr) (wc:Nat) (ws:List ByteArray) (h1:1<ws.length) (hs:(ws.getD 1 ⟨#[]⟩).size<=281474976710656) (hw:zau w wp (ws.map Value.string))
  (hf:∀{w1:World}{fb:Nat}{P:Pl}{F:Fm}(n:Int),Ext w w1->InR .i64 n->K.farm=some (fb,P,F)->FnP Tryz.prog f #[.int .i64 n,.pointer (some pb)] w1 (NR O B db w1 K (R F n))) :
  ∃f' cap,v=.func (.func f') #[] cap/\FnP Tryz.prog f' (#[.slice wp ws.length wc]++cap) w (CR O B db w K (zra R (ws.getD 1 ⟨#[]⟩) K.st)):=by
 obtain⟨p2,p1,rfl,c2,u,c1,p3,rfl,c3⟩:=hv
 refine⟨_,_,rfl,zgi wp ws.length wc (some p2) w _ fun w0 x0=>(zpG wp wc ws h1 hs w0 (hw.ext x0) (g.ext x0)).mono fun v w1 ⟨e1,n,ev,c,hv,he,hn⟩=>⟨e1,n,ev,hv,fun w4 h4=>neE he fun b hb=>⟨Ext.refl _,b,rfl,fun hbt w7 h7=>?_,fun hbf=>?_⟩⟩⟩
 ·have hc:c≠0:=fun h=>by rw[hb.2 h] at hbt;cases hbt
  exact zcE x ((x0.trans e1).trans h7) he ⟨n,c,hn,.inl ⟨hc,rfl,rfl⟩⟩
 ·have hc:c=0:=hb.1 hbf
  have x1:=x0.trans e1
  refine⟨_,zgu ((Cst.of_ext x1).cell c2),fun w8 h8=>⟨204,#[.pointer (some p1)],rfl,zgz n (some p1) w8 _ ?_⟩⟩
  have x8:=x1.trans h8
  refine⟨_,zgu ((Cst.of_ext x8).cell c1),fun w9 h9=>⟨207,#[.pointer (some pb),.pointer (some p3)],rfl,?_⟩⟩
  have x9:=x8.trans h9
  have hni:InR .i64 n:=by
   rcases hn with⟨_,a,b,_⟩|⟨h,_⟩
   ·exact i64 (by omega)
   ·omega
  have fin:∀{w2:World}{v2:Value},NR O B db w K (zKk R K.st n) v2 w2->∃t3:Int,v2=.int .i64 t3/\∀w4,Ext w2 w4->FnP Tryz.prog zce #[.int .i64 t3] w4 fun v5 w5=>Ext w4 w5/\∃t6:Value,v5=t6/\∀w7,Ext w5 w7 ->
    ∃t10:ByteArray,∃t11:Value,Value.tuple #[.string (⟨#[111,107]⟩:ByteArray),t6]=.tuple #[.string t10,t11]/\∀w12,Ext w7 w12->CR O B db w K (zra R (ws.getD 1 ⟨#[]⟩) K.st) (.tuple #[.string t10,t11]) w12:=fun {w2 v2} hN=>by
   obtain⟨e,K',rfl,hX,hF,hG,hR⟩:=hN
   refine⟨e,rfl,fun w4 h4=>(zqt e w4).mono fun v w5 ⟨e5,hE⟩=>⟨e5,v,rfl,fun w7 h7=>⟨_,v,rfl,fun w12 h12=>?_⟩⟩⟩
   have hx:=((h4.trans e5).trans h7).trans h12
   exact⟨_,v,e,K',rfl,hE,hX.ext hx,hF.tr (zac hx),hG,n,c,hn,.inr ⟨hc,rfl,hR⟩⟩
  have ne:=zaB db
  refine zgA n (some pb) (some p3) w9 _ ⟨_,zgu ((Cst.of_ext x9).cell hpb),ne,ne,?_⟩
  rcases K.cases with hK|⟨fb,P,F,hK⟩
  ·refine⟨none,(x.ext x9).nofp hK,fun _ w2 h2=>fin (zs4 x (x9.trans h2) ?_),fun h=>absurd rfl h⟩
   rw[Kt.st_shut hK]
   exact⟨rfl,rfl⟩
  ·refine⟨ptr fb,(x.ext x9).fbp hK,fun h=>absurd h (zaB fb),fun _=>⟨_,zgu ((Cst.of_ext x9).cell c3),fun w3 h3=>⟨f,#[.pointer (some pb)],rfl,(hf n (x9.trans h3) hni hK).mono fun v w4 hN=>?_⟩⟩⟩
   have hN':=zs3 (x9.trans h3) hN
   obtain⟨e,K',rfl,hX,hF,hG,hR⟩:=hN'
   refine⟨e,rfl,fun w6 h6=>fin ⟨e,K',rfl,hX.ext h6,hF.tr (zac h6),hG,?_⟩⟩
   rw[Kt.st_opn hK];exact hR
end
theorem FXO.low'{O:Nat->Prop}{B B' fb:Nat}{w:World}{P:Pl}{F:Fm}(x:FXO O B w fb P F)(h:B'<=B):FXO O B' w fb P F:=⟨x.slot.weak h,x.arr.weak h,x.map,x.hs,x.js,x.ap,x.hO,x.jO,x.olt,x.odis⟩
def zBt:Pol:=⟨10,2,100,3⟩
theorem okdp:zmT zBt:=by unfold zmT okP zBt;decide
def zxP(σ:DS)(c:Int)(s:ByteArray)(σ':DS):Prop:=match σ with
 |.shut L => c=0/\s=⟨#[111,107]⟩/\σ'=.opn (zio L zBt)
 |.opn F => c=9/\σ'=.opn F
section
variable {O:Nat->Prop} {B db:Nat} {w:World} {K:Kt}
theorem open_c(x:KX O B w db K)(hB:B<=w.heap.size)(a1:Option Addr)(n1 c1:Nat):FnP Tryz.prog zij #[.pointer (ptr db),.slice a1 n1 c1] w (CR O B db w K fun s c σ'=>zxP K.st c s σ'):=by
 have ne:=zaB db
 refine zmZ (ptr db) a1 n1 c1 w _ ⟨ne,ne,?_⟩
 rcases K.cases with hK|⟨fb,P,F,hK⟩
 ·refine⟨none,x.nofp hK,fun h=>absurd rfl h,fun _=>⟨ne,ne,_,_,_,x.cell (i:=0) rfl,fun w4 x4=>?_⟩⟩
  obtain⟨hn,_,hok,hO⟩:=x.shut hK
  rw[hn]
  have h30:=hok.1
  refine(zur K.hp K.hc K.L (by omega) (fun h hh=>(hO h hh).1) zBt w4 (x.hs hK x4)).mono fun v w5 ⟨e5,q,e,hv,hiff,hno,hyes⟩=>⟨e5,q,e,hv,fun hne=>?_,fun hz=>⟨ne,ne,?_⟩⟩
  ·have:zmS K.L zBt:=⟨hok,fun h hh=>(hO h hh).2,okdp⟩
   exact absurd (hiff.2 this) hne
  obtain⟨fb,P,rfl,fx⟩:=hyes hz
  have x5:=x4.trans e5
  have y5:=x.ext x5
  have hdb4:db<w4.heap.size:=by have:=(x.slot.lt _ rfl).2;have:=x4.size;exact Nat.lt_of_lt_of_le (x.slot.lt _ rfl).2 x4.size
  refine zct (off:=1) y5.slot (by simp) rfl (by simp) fun w8 o8 g8 w9 h9=>?_
  have f8:Fr (fun b=>b=db) w5 w8:=zaP g8 fun a ha=>by cases ha;rfl
  have fx9:FXO (dO O db) B w9 fb P (zio K.L zBt):=by
   refine FXO.low' (((fx.fr f8 fun b hb=>?_).ext h9).less fun b hb=>?_) (Nat.le_trans hB x4.size)
   ·show b<w4.heap.size
    have hb:b=db:=hb
    omega
   ·show b<w4.heap.size
    rcases hb with hb|hb
    ·have:=x.olt b hb;have:=x4.size;omega
    ·omega
  have hft:∀b,ft fb P.jp b->w4.heap.size<=b:=fun b hb=>(fx.foot hb).1
  refine⟨_,_,0,{ K with farm:=some (fb,P,zio K.L zBt) },rfl,ev0,⟨?_,fun e=>(by cases e),fun fb' P1 F1 e=>?_,fun b hb=>Nat.lt_of_lt_of_le (x.olt b hb) ?_,x.odis⟩,?_,fun b hb=>?_,?_⟩
  ·have:dcs { K with farm:=some (fb,P,zio K.L zBt) }=(dcs K).set 1 (.pointer (ptr fb)):=by simp[dcs,Kt.fp]
   rw[this];exact o8.ext h9
  ·injection e with e
   obtain⟨rfl,rfl,rfl⟩:fb=fb'/\P=P1/\zio K.L zBt=F1:=by simpa using e
   exact⟨fx9,zpF ⟨hok,fun h hh=>(hO h hh).2,okdp⟩,fun s hs=>by cases hs⟩
  ·exact Nat.le_trans (Nat.le_trans x5.size f8.size) h9.size
  ·exact((zac x5).tr (f8.mono fun b hb=>.inl hb)).tr (zac h9)
  ·rcases hb with rfl|⟨fb',P1,F1,e,h⟩
   ·exact .inl (.inl rfl)
   ·injection e with e
    obtain⟨rfl,rfl,rfl⟩:fb=fb'/\P=P1/\zio K.L zBt=F1:=by simpa using e
    have:=hft b h
    have:=x4.size
    exact .inr (by omega)
  ·rw[Kt.st_shut hK]
   exact⟨rfl,rfl,rfl⟩
 ·refine⟨_,x.fbp hK,fun _ w1 x1=>zu4 ⟨Ext.refl _,_,rfl,fun w4 h4=>zcE x (x1.trans h4) (zF4 (by decide)) ?_⟩,fun h=>absurd h (zaB fb)⟩
  rw[Kt.st_opn hK]
  exact⟨rfl,rfl⟩
def zEb(word:ByteArray)(σ:DS)(c:Int)(s:ByteArray)(σ':DS):Prop:=σ'=σ/\∃n c1,zGJ word n c1/\((c1≠0/\c=c1)\/(c1=0/\match σ with
 |.shut _ => c=9
 |.opn F => (inJ F n/\c=0/\s=zv3.getD (zad F (n-1).toNat).what.toNat ⟨#[]⟩)\/(¬inJ F n/\c=5)))
theorem zKH(x:KX O B w db K){fb:Nat}{P:Pl}{F:Fm}(hK:K.farm=some (fb,P,F))(g:GD w)(n:Int)(hn:InR .i64 n):FnP Tryz.prog zeS #[.pointer (ptr db),.int .i64 n] w fun v w'=>Ext w w'/\∃s ev c,v=.tuple #[.string s,ev]/\EV ev c /\
  ((inJ F n/\c=0/\s=zv3.getD (zad F (n-1).toNat).what.toNat ⟨#[]⟩)\/(¬inJ F n/\c=5)):=by
 have ne:=zaB db
 refine zm1 (ptr db) n w _ ⟨ne,ne,_,x.fbp hK,fun w1 x1=>?_⟩
 obtain⟨fx,I,W⟩:=(x.ext x1).opn fb P F hK
 refine(zt1 fx).mono fun v w2 ⟨e2,p,c,R,hv,hR,hJ⟩=>⟨e2,p,_,c,hv,?_⟩
 have hl:R.length=F.jobs.length:=by have:=congrArg List.length hR;simpa using this
 rw[hl]
 have x2:=x1.trans e2
 refine⟨fun hor w6 h6=>zu4 ⟨Ext.refl _,_,rfl,fun w9 h9=>⟨(x2.trans h6).trans h9,_,_,5,rfl,zF4 (by decide),.inr ⟨fun h=>by have:=h.1;have:=h.2;omega,rfl⟩⟩⟩,fun⟨h1,h2⟩=>⟨i64 (by have:=zhK hn;omega),?_⟩⟩
 obtain⟨r,hr,hp,hp16,hcs,_⟩:=hJ.st (k:=n-1) (by omega) (by omega)
 have hj:zad F (n-1).toNat=r.s:=by
  unfold zad
  rw[List.getD_eq_getElem?_getD,<-hR,List.getElem?_map,hr];rfl
 have hm:r.s∈F.jobs:=by rw[<-hR];exact List.mem_map_of_mem (List.mem_of_getElem? hr)
 obtain⟨w1',w5'⟩:=W r.s hm
 have g2:=g.ext x2
 have hwh:Go.Sx.cell w2 (pIdx (some (⟨4,0,none⟩:Addr)) r.s.what 1) 0=some (.string (zv3.getD r.s.what.toNat ⟨#[]⟩)):=by
  rw[zae]
  refine g2.whats _ _ ?_
  have hlt:r.s.what.toNat<zv3.length:=by show r.s.what.toNat<6;omega
  simp only[List.getElem?_map,Nat.mul_one,Nat.add_zero]
  rw[getElem?_getD zv3 ⟨#[]⟩ hlt];rfl
 refine⟨hp,by omega,by omega,hp16,r.s.what,by rw[zak];exact hcs 11 _ rfl,by simp,by omega,by omega,_,hwh,fun w8 h8=>⟨x2.trans h8,_,_,0,rfl,ev0,.inl ⟨⟨h1,h2⟩,rfl,by rw[hj]⟩⟩⟩
theorem show_c(x:KX O B w db K){pb:Addr}{v:Value}(hv:znG pb v w)(hpb:w.cell? pb=some (.pointer (ptr db)))(g:GD w)
  (wp:Option Addr) (wc:Nat) (ws:List ByteArray) (h1:1<ws.length) (hs:(ws.getD 1 ⟨#[]⟩).size<=281474976710656) (hw:zau w wp (ws.map Value.string)) :
  ∃f' cap,v=.func (.func f') #[] cap/\FnP Tryz.prog f' (#[.slice wp ws.length wc]++cap) w (CR O B db w K fun s c σ'=>zEb (ws.getD 1 ⟨#[]⟩) K.st c s σ'):=by
 obtain⟨p2,rfl,c2⟩:=hv
 refine⟨_,_,rfl,zgi wp ws.length wc (some p2) w _ fun w0 x0=>(zpG wp wc ws h1 hs w0 (hw.ext x0) (g.gb.ext x0)).mono fun v w1 ⟨e1,n,ev,c,hv,he,hn⟩=>⟨e1,n,ev,hv,fun w4 h4=>neE he fun b hb=>⟨Ext.refl _,b,rfl,fun hbt w7 h7=>?_,fun hbf=>?_⟩⟩⟩
 ·have hc:c≠0:=fun h=>by rw[hb.2 h] at hbt;cases hbt
  exact zcE x ((x0.trans e1).trans h7) he ⟨rfl,n,c,hn,.inl ⟨hc,rfl⟩⟩
 have hc:c=0:=hb.1 hbf
 have x1:=x0.trans e1
 have hni:InR .i64 n:=by
  rcases hn with⟨_,a,b,_⟩|⟨h,_⟩
  ·exact i64 (by omega)
  ·omega
 refine⟨_,zgu ((Cst.of_ext x1).cell c2),fun w8 h8=>⟨218,#[.pointer (some pb)],rfl,zhU n (some pb) w8 _ fun w9 h9=>zbp (by simp[Value.oneCell']) fun w10 o10 e10=>?_⟩⟩
 have x10:=((x1.trans h8).trans h9).trans e10
 have cn:∀{w':World},Ext w10 w'->Go.Sx.cell w' (some ⟨w9.heap.size,0,none⟩) 0=some (.int .i64 n):=fun e=>(((o10 _ (Nat.le_refl _)).cells).ext e) 0 _ rfl
 have cpb:∀{w':World},Ext w w'->Go.Sx.cell w' (some pb) 0=some (.pointer (ptr db)):=fun e=>zgu ((Cst.of_ext e).cell hpb)
 have ne:=zaB db
 refine⟨_,cpb x10,ne,ne,?_⟩
 rcases K.cases with hK|⟨fb,P,F,hK⟩
 ·refine⟨none,(x.ext x10).nofp hK,fun w11 h11=>zkc true _ w11 _ ⟨fun _ w12 h12=>zu4 ⟨Ext.refl _,_,rfl,fun w13 h13=>⟨h12.trans h13,_,_,rfl,fun w14 h14=>⟨_,_,rfl,fun w15 h15=>?_⟩⟩⟩,fun h=>(by cases h)⟩⟩
  refine zcE x ((((((x10.trans h11).trans h12).trans h13).trans h14)).trans h15) (zF4 (c:=9) (by decide)) ⟨rfl,n,c,hn,.inr ⟨hc,?_⟩⟩
  rw[Kt.st_shut hK]
 ·refine⟨ptr fb,(x.ext x10).fbp hK,fun w11 h11=>zkc false _ w11 _ ⟨fun h=>(by cases h),fun _ w12 h12=>⟨220,_,rfl,?_⟩⟩⟩
  have x12:=(x10.trans h11).trans h12
  refine zgB (some pb) (some ⟨w9.heap.size,0,none⟩) w12 _ ⟨_,cpb x12,_,cn (h11.trans h12),fun w13 h13=>?_⟩
  refine(zKH (x.ext (x12.trans h13)) hK (g.ext (x12.trans h13)) n hni).mono fun v w14 ⟨e14,s,ev',c',hv,hE,hcs⟩=>⟨e14,s,ev',hv,fun w15 h15=>⟨(h13.trans e14).trans h15,s,ev',rfl,fun w16 h16=>⟨(h12.trans ((h13.trans e14).trans h15)).trans h16,s,ev',rfl,fun w17 h17=>⟨s,ev',rfl,fun w18 h18=>?_⟩⟩⟩⟩
  refine zcE x ((((((((x12.trans h13).trans e14).trans h15).trans h16).trans h17)).trans h18)) hE ⟨rfl,n,c,hn,.inr ⟨hc,?_⟩⟩
  rw[Kt.st_opn hK]
  exact hcs
end
theorem zBC(L:List ByteArray)(c:UInt8)(p:Option Addr)(d:Nat)(hd:L.length<=d)(w:World)(hw:zau w p (L.map Value.string))(hlen:(Lib.join (L.map (·.data.toList)) [c]).length<=140737488355327)(hL:L.length<=140737488355328) :
  FnP Tryz.prog zbd #[.slice p L.length d,.string (one c)] w fun v w'=>Ext w w'/\v=.string (ofL (Lib.join (L.map (·.data.toList)) [c])):=by
 refine⟨fun args w=>Tryz.call173 args w,?_⟩
 cases L with
 |nil =>
  refine(Tryz.strings_Join_none p d (one c) w).mono fun e w' ⟨he,hw'⟩=>⟨_,he,by rw[hw'];exact Ext.refl w,rfl⟩
 |cons x r =>
  have h0:=hw 0 (.string x) rfl
  obtain⟨a,rfl,hb,hc⟩:=zdQ h0
  have hsp:a.spot=none:=by
   unfold World.cell? at hc
   cases hq:w.heap[(a.add 0).block]? with
   |none => simp[hq] at hc
   |some o =>
    cases o with
    |cells cs t f =>
     rw[hq] at hc
     simp only at hc
     by_cases hs:(a.add 0).spot.isSome=true
     ·rw[if_pos hs] at hc;cases hc
     ·have:(a.add 0).spot=a.spot:=rfl
      rw[this] at hs
      simpa using hs
    |_ => simp[hq] at hc
  obtain⟨bk,off,sp⟩:=a
  have hsp:sp=none:=hsp
  subst hsp
  have hbk:bk<w.heap.size:=hb
  refine(Tryz.strings_Join bk off d (x::r) (one c) w (fun j y hy=>?_) hbk hL hd (by show(Lib.join ((x::r).map (·.data.toList)) [c]).length<=_;omega)).mono fun e w' ⟨he,hw'⟩=>⟨_,he,hw',rfl⟩
  have hcell:=hw j (.string y) (by rw[List.getElem?_map,hy];rfl)
  simp only[cell,Option.bind_some] at hcell
  have ha:(Addr.add ⟨bk,off,none⟩ j)=⟨bk,off+j,none⟩:=by simp[Addr.add]
  rwa [ha] at hcell
def zis(L:List Ht)(o:Int×Int):List UInt8:=Lib.itoa o.1++64::(L.getD o.2.toNat default).name.data.toList
def zEj(G:Fm)(outs:List (Int×Int)):List UInt8:=Lib.join (outs.map (zis G.hosts)) [32]
theorem zDT{F G:Fm}{ids:List Int}{outs:List (Int×Int)}(h:zqw F ids G outs):(∀o∈outs,o.1∈ids/\0<=o.2/\o.2<F.hosts.length)/\G.hosts.length=F.hosts.length:=by
 induction h with
 |nil F => exact⟨fun o ho => by simp at ho,rfl⟩
 |skip _ _ ih => exact⟨fun o ho => ⟨List.mem_cons_of_mem _ (ih.1 o ho).1,(ih.1 o ho).2⟩,ih.2⟩
 |@run F F' id k ids out hb _ ih =>
  have e:(zfP F (id-1).toNat k).hosts.length=F.hosts.length:=by rw[zlW];unfold zkU;simp
  obtain⟨b0,b1,_⟩:=zud hb
  refine⟨fun o ho=>?_,by rw[ih.2,e]⟩
  rcases List.mem_cons.1 ho with rfl|ho
  ·exact⟨List.mem_cons_self,b0,b1⟩
  ·have:=ih.1 o ho
   rw[e] at this
   exact⟨List.mem_cons_of_mem _ this.1,this.2⟩
theorem zvH{F G:Fm}{outs:List (Int×Int)}(h:zdd F G outs):(∀o∈outs,inJ F o.1/\0<=o.2/\o.2<F.hosts.length)/\G.hosts.length=F.hosts.length:=by
 obtain⟨T,h1,h2⟩:=h
 obtain⟨a,b⟩:=zDT h2
 exact⟨fun o ho=>⟨(zpX h1 _ (a o ho).1).1,(a o ho).2⟩,b⟩
def zxS(σ:DS)(c:Int)(s:ByteArray)(σ':DS):Prop:=match σ with
 |.shut _ => False
 |.opn F => c=0/\∃G outs,zdd F G outs/\s=ofL (zEj G outs)/\σ'=.opn G
section
variable {O:Nat->Prop} {B db:Nat} {w:World} {K:Kt}
theorem plan_c(x:KX O B w db K){fb:Nat}{P:Pl}{F:Fm}(hK:K.farm=some (fb,P,F))(g:GD w)(hB:11<=B)(a1:Option Addr)(n1 c1:Nat) :
  FnP Tryz.prog zik #[.pointer (ptr db),.slice a1 n1 c1] w (CR O B db w K fun s c σ'=>zxS K.st c s σ'):=by
 have ne:=zaB db
 refine zm0 (ptr db) a1 n1 c1 w _ ⟨ne,ne,_,x.fbp hK,fun w1 x1=>?_⟩
 have y1:=x.ext x1
 obtain⟨fx,I,W⟩:=y1.opn fb P F hK
 refine(zDR fx I.i0.pre.aft I.i0.hs).mono fun v w2 ⟨G,outs,out,outc,P',hv,hpl,hGh,hjobs,hjp,fx',f2,oO,h60⟩=>⟨out,_,outc,0,hv,ne,ne,?_⟩
 obtain⟨po1,po2⟩:=zvH hpl
 obtain⟨y2,f2',g2'⟩:=y1.turn hK fx' f2 (fun b hb=>.inl (by rw[hjp] at hb;exact hb)) (zzG hpl I) (W.plan hpl)
 generalize hK':({ K with farm:=some (fb,P',G) }:Kt)=K' at y2 g2'
 have hK2:K'.farm=some (fb,P',G):=by rw[<-hK']
 have gd2:GD w2:=(g.ext x1).fr f2' fun b hb=>Nat.le_trans hB (y1.foot hb).1
 refine⟨_,y2.fbp hK2,fun w8 x8=>?_⟩
 have y8:=y2.ext x8
 obtain⟨fx8,I8,W8⟩:=y8.opn fb P' G hK2
 refine(zwD fx8 hGh).mono fun v w9 ⟨e9,hp,hc,hv,_,hS⟩=>⟨e9,hp,_,hc,hv,?_⟩
 have x9:=x8.trans e9
 have cO:zfQ 2 encO w9 out outs:=(oO.ext x9).recs fun _ _=>rfl
 have hH:=hS.at
 refine⟨fun p n c k w'=>Ext w9 w'/\0<=k/\k<=outs.length/\n=k/\Own w9.heap.size w' zay 1 p n c ((outs.take k.toNat).map fun o=>Value.string (ofL (zis G.hosts o))),fun _ _ _ k _=>(outs.length-k).toNat,⟨Ext.refl _,by omega,by omega,by simp,Own.nil⟩,?_⟩
 rintro p n c k w16 ⟨x16,hk0,hk1,hnk,o16⟩
 refine⟨fun hlt=>?_,fun hge w17 h17=>?_⟩
 ·obtain⟨o,ho⟩:∃o,outs[k.toNat]?=some o:=⟨_,List.getElem?_eq_getElem (by omega)⟩
  obtain⟨⟨i1,i2⟩,q1,q2⟩:=po1 o (List.mem_of_getElem? ho)
  rw[<-po2] at q2
  have hj60:=fx.jO.1
  have r0:Go.Sx.cell w16 (pIdx out k 2) 0=some (.int .i64 o.1):=by
   refine zaz x16 ?_
   exact cO.at hk0 ho rfl
  have r1:Go.Sx.cell w16 (pIdx out k 2) 1=some (.int .i64 o.2):=by
   refine zaz x16 ?_
   exact cO.at hk0 ho rfl
  obtain⟨hq,hd,np,np8,hcs,_⟩:=(hH.ext x16).at q1 q2
  have hname:Go.Sx.cell w16 (pAdd (pIdx hp o.2 8) 0) 0=some (.string (G.hosts.getD o.2.toNat default).name):=by
   rw[zak];exact hcs 0 _ rfl
  have hmem:=zaq G.hosts default (i:=o.2.toNat) (by omega)
  have hsz:=(zbR (hGh.2.1 _ hmem).1).2
  refine⟨fun hq=>zaj r0 (zah.2 hq),hk0,hlt,zaj r0,_,r0,_,r1,fun b19 hb19=>⟨np,q1,q2,np8,_,hname,fun w21 h21=>?_⟩⟩
  refine(znH o.1 (by omega) w21 (((gd2.ext x9).ext x16).ext h21).gb).mono fun v w22 ⟨e22,hv⟩=>⟨e22,_,hv,?_⟩
  have hil:=Lib.itoa_length_le o.1 (by omega) (by omega)
  have e1:(ofL (Lib.itoa o.1)++(⟨#[64]⟩:ByteArray))++(G.hosts.getD o.2.toNat default).name=ofL (zis G.hosts o):=by
   unfold zis
   have:(⟨#[64]⟩:ByteArray)=ofL [64]:=rfl
   rw[this,zxv]
   have e2:(G.hosts.getD o.2.toNat default).name=ofL (G.hosts.getD o.2.toNat default).name.data.toList:=(zcb _).symm
   rw[e2,zxv,zcn]
   simp
  refine⟨?_,?_,?_⟩
  ·unfold zdl
   rw[zas]
   show _+1<=_
   omega
  ·unfold zdl
   rw[show(⟨#[64]⟩:ByteArray)=ofL [64] from rfl,zxv,zas,List.length_append]
   show _+1+_<=_
   omega
  rw[e1]
  refine zp0 zbY (by omega) o16 x16.size (fun b hb y hy=>by simp at hb;subst hb;have:=(o16.lt y hy).2;omega) rfl (by intro u hu;simp[Value.cells] at hu;subst hu;rfl) (by omega) (by omega) (by omega) fun p' c' w' o' g' np _=>⟨i64 (by omega),⟨g'.ext x16 o16,by omega,by omega,by omega,?_⟩,by simp only[];omega⟩
  rw[show(k+1).toNat=k.toNat+1 by omega,List.take_add_one,ho]
  simpa[Value.cells] using o'
 ·have hk:k=outs.length:=by omega
  subst hk
  have htake:outs.take ((outs.length:Int)).toNat=outs:=by simp
  rw[htake] at o16
  have hn:n=outs.length:=by omega
  subst hn
  have hmap:(outs.map fun o=>Value.string (ofL (zis G.hosts o)))=(outs.map fun o=>ofL (zis G.hosts o)).map Value.string:=by simp
  rw[hmap] at o16
  have hlen2:((outs.map fun o=>ofL (zis G.hosts o)).map (·.data.toList))=outs.map (zis G.hosts):=by
   rw[List.map_map];rfl
  have hcap:=o16.le
  have hj:=zBC (outs.map fun o=>ofL (zis G.hosts o)) 32 p c (by simpa using hcap.1) w17 (o16.ext h17).cells (by
   rw[hlen2]
   have:=zhM (c:=32) (m:=100) (outs.map (zis G.hosts)) (fun y hy=>by
    obtain⟨o,ho,rfl⟩:=List.mem_map.1 hy
    obtain⟨⟨i1,i2⟩,q1,q2⟩:=po1 o ho
    have hj60:=fx.jO.1
    have hil:=Lib.itoa_length_le o.1 (by omega) (by omega)
    rw[<-po2] at q2
    have hmem:=zaq G.hosts default (i:=o.2.toNat) (by omega)
    have hsz:=(zbR (hGh.2.1 _ hmem).1).2
    unfold zis
    rw[List.length_append,List.length_cons,zhC]
    omega)
   rw[List.length_map] at this
   omega) (by simp;omega)
  rw[List.length_map,hlen2] at hj
  refine hj.mono fun v w18 ⟨e18,hv⟩=>⟨e18,_,hv,fun w20 h20=>(zqt 0 w20).mono fun v w21 ⟨e21,hE⟩=>⟨e21,v,rfl,fun w23 h23=>?_⟩⟩
  have hx:=((x9.trans x16).trans h20).trans (e21.trans h23)
  refine⟨_,v,0,K',rfl,hE,y2.ext hx,?_,?_,?_⟩
  ·exact((zac x1).tr f2').tr (zac hx)
  ·intro b hb
   refine(g2' b hb).imp id fun h=>Nat.le_trans x1.size h
  ·rw[Kt.st_opn hK,Kt.st_opn hK2]
   exact⟨rfl,G,outs,hpl,rfl,rfl⟩
end
def zFf(w:World)(s:ByteArray)(v:Value)(w':World):Prop:=Ext w w'/\∃j pa ca pf cf e,v=.tuple #[jv j pa ca pf cf,.int .i64 e]/\WfJ j/\(∀S:Nat->Prop,(∀b,S b->b<w.heap.size)->∀w'',Fr S w' w''->IsJ w'' j pa ca pf) /\
 ((e≠0/\j=zdv/\pa=none/\ca=0/\pf=none/\cf=0)\/(e=0/\okJ j/\nod j.ask<=60/\s=ofL (jtx j)/\(txt j.ask).length<=2000))/\(3000<s.size->e=2)/\(s.size<=3000->e=0\/e=3)/\(∀j0,JT s j0->s.size<=3000->e=0/\j=j0)
theorem zgZ{w w':World}{s:ByteArray}(x:Ext w w'){e:Int}(he:e≠0)(hno:∀j0,JT s j0->s.size<=3000->False)(hE:(3000<s.size->e=2)/\(s.size<=3000->e=3):=by refine⟨fun h=>?_,fun h=>?_⟩<;>omega):zFf w s (.tuple #[jv zdv none 0 none 0,.int .i64 e]) w' :=
 ⟨x,zdv,none,0,none,0,e,rfl,zif,fun _ _ _ _=>zoP _,.inl ⟨he,rfl,rfl,rfl,rfl,rfl⟩,hE.1,fun h=>.inr (hE.2 h),fun j0 h hs=>(hno j0 h hs).elim⟩
theorem zGs(s:ByteArray)(hs63:s.size<=9223372036854775807)(w:World)(g:GB w):FnP Tryz.prog zgR #[.string s] w (zFf w s):=by
 refine zpS s w _ fun b0 hb0=>⟨fun hbig w1 h1=>zgZ h1 (by decide) fun j0 _ h=>by omega,fun hsm w1 x1=>?_⟩
 have h1:=zaa x1
 have hb01:b0<w1.heap.size:=x1.lt b0 (by simp)
 refine(zeX 32 s (by omega) w1 (g.ext h1)).mono fun v w2 ⟨e2,hv,hc2,hlt2⟩=>⟨e2,_,_,_,hv,fun hne w6 x6=>?_,fun h5=>?_⟩
 ·refine zgZ (zav x6 (h1.trans e2) (by intro d hd;simp at hd;omega)) (by decide) fun j0 hj _=>hne ?_
  rw[(zgj hj).1];rfl
 have hw2:Ext w w2:=h1.trans e2
 have hcnt:Lib.countB s (one 32)=4:=by omega
 rw[hcnt] at hc2
 have hlen:=zeK (c:=32) 4 s hcnt
 have hsz:∀i q,(Lib.splitB (one 32) 0 4 s)[i]?=some q->q.size+i<=s.size:=fun i q h=>zcA _ s i q h
 have hjt:∀j0,JT s j0->Lib.splitB (one 32) 0 4 s=(jps j0).map ofL:=fun j0 hj=>(zgj hj).2
 generalize Lib.splitB (one 32) 0 4 s=Ps at hc2 hlen hsz hjt
 have spn:(some (⟨w1.heap.size,0,none⟩:Addr))≠none:=by simp
 have spb:∀a,(some (⟨w1.heap.size,0,none⟩:Addr))=some a->a.block<w2.heap.size:=fun a ha=>by obtain rfl:=Option.some.inj ha;exact hlt2
 generalize (some (⟨w1.heap.size,0,none⟩:Addr))=sp at hc2 spn spb ⊢
 obtain⟨P0,P1,P2,P3,P4,rfl⟩:∃a b c d e,Ps=[a,b,c,d,e]:=by
  match Ps,hlen with
  |[a,b,c,d,e],_ => exact⟨a,b,c,d,e,rfl⟩
 have cellP:∀{w':World}(i:Nat)(q:ByteArray),Ext w2 w'->([P0,P1,P2,P3,P4]:List ByteArray)[i]?=some q->Go.Sx.cell w' (pIdx sp (i:Int) 1) 0=some (.string q):=fun {w'} i q hx hq=>by
  rw[zae]
  have:=hc2.ext hx i (.string q) (by rw[List.getElem?_map,hq];rfl)
  simpa using this
 have s0:=hsz 0 P0 rfl
 have s1:=hsz 1 P1 rfl
 have s2:=hsz 2 P2 rfl
 have s3:=hsz 3 P3 rfl
 have s4:=hsz 4 P4 rfl
 refine⟨spn,by omega,by omega,P0,cellP 0 P0 (Ext.refl _) rfl,fun b7 hb7=>⟨spn,by omega,by omega,P1,cellP 1 P1 (Ext.refl _) rfl,fun w9 x9=>?_⟩⟩
 have hfree:∀i:Int,zwq [b7] (pIdx sp i 1):=fun i b hb a ha=>by
  simp at hb;subst hb
  cases sp with
  |none => exact absurd rfl spn
  |some x =>
   have:=spb x rfl
   simp[pIdx] at ha
   rw[<-ha,zaU];omega
 have h9:=zaa x9
 have hw9:=hw2.trans h9
 refine(zrx P1 (by omega) w9 (g.ext hw9)).mono fun v w10 ⟨e10,n1,ev,hv,hcase⟩=>⟨e10,n1,ev,hv,spn,by omega,by omega,P2,⟨cellP 2 P2 (h9.trans e10) rfl,hfree 2⟩,fun w14 x14=>?_⟩
 have hw10:=hw9.trans e10
 have h210:Ext w2 w10:=h9.trans e10
 have hb7w:w.heap.size<=b7:=Nat.le_trans hw2.size hb7
 have hw14:Ext w w14:=zav x14 hw10 (by intro d hd;simp at hd;omega)
 refine(zDp P2 (by omega) w14 (g.ext hw14)).mono fun v w15 ⟨e15,nd,en,hv,hnz,hnok,hncomp⟩=>⟨e15,nd.c,nd.m,nd.g,en,hv,spn,by omega,by omega,P4,⟨cellP 4 P4 h210 rfl,hfree 4⟩,fun w21 x21=>?_⟩
 have hw21:Ext w w21:=zav x21 hw10 (by intro d hd;simp at hd;omega)
 have h221:Ext w2 w21:=zav x21 h210 (by intro d hd;simp at hd;omega)
 have hb0_21:b0<w21.heap.size:=x21.lt b0 (by simp)
 have hb7_21:b7<w21.heap.size:=x21.lt b7 (by simp)
 refine(zwF P4 w21 (g.ext hw21)).mono fun v w22 ⟨e22,t,pa,ca,ea,hv,hWt,hTt,horA,hcompA⟩=>⟨e22,t.k,t.key,t.val,t.n,pa,t.xs.length,ca,ea,hv,fun w31 x31=>?_⟩
 have hw22:Ext w w22:=hw21.trans e22
 have h222:Ext w2 w22:=h221.trans e22
 have hn1:InR .i64 n1\/ev≠.nilIface:=by
  rcases hcase with⟨_,h⟩|⟨⟨a,b,h⟩,_⟩
  ·exact .inl (zg5 h)
  ·exact .inr (by rw[h];simp)
 have parts:∀j0,JT s j0->P0=j0.user/\P1=ofL (Lib.itoa j0.prio)/\P2=ofL (zbq j0.nd)/\P3=ofL (zqx j0.aft)/\P4=ofL (txt j0.ask):=fun j0 hj=>by
  have:=hjt j0 hj
  simp only[jps,List.map_cons,List.map_nil,List.cons.injEq,and_true] at this
  rw[zcb] at this
  exact this
 have good0:∀j0,JT s j0->s.size<=3000->ev=.nilIface/\n1=j0.prio/\en=0/\nd=j0.nd/\ea=0/\t=j0.ask:=fun j0 hj hs=>by
  obtain⟨q0,q1,q2,q3,q4⟩:=parts j0 hj
  have hp:=zg4 (n:=j0.prio) (by have:=hj.ok.prio;omega)
  have ha:=hcompA j0.ask hj.ok.ask hj.nod q4 (by rw[q4,zas];exact hj.ask)
  have hd:=hncomp j0.nd hj.ok.nd q2
  rcases hcase with⟨h,h'⟩|⟨_,h'⟩
  ·rw[q1,zcn,hp] at h'
   cases h'
   exact⟨h,rfl,hd.1,hd.2,ha.1,ha.2⟩
  ·rw[q1,zcn] at h'
   exact absurd hp (h' _)
 refine zi8 (by kernel_rfl) (hcase.elim (fun h=>.inl h.1) fun h=>.inr h.1) fun tb htb=>⟨Ext.refl _,tb,rfl,fun hbad w34 x34=>?_,fun hgd=>?_⟩
 ·refine zgZ (zav x34 hw22 (by intro d hd;simp at hd;omega)) (by decide) fun j0 hj hs=>?_
  obtain⟨a1,_,a3,_,a5,_⟩:=good0 j0 hj hs
  rcases hbad with (h|h)|h
  ·rw[htb.2 a1] at h;cases h
  ·exact h a3
  ·exact h a5
 have hev:ev=.nilIface:=htb.1 hgd.1.1
 have hn1:InR .i64 n1:=hn1.resolve_right fun h=>h hev
 have hnd:=hnok hgd.1.2
 obtain⟨htC,htn,htx,_⟩:zmi t=0/\nod t<=60/\P4=ofL (txt t)/\P4.size<=2000:=by
  rcases horA with⟨h,_⟩|⟨_,h⟩
  ·exact absurd hgd.2 h
  ·exact h
 have htl:(txt t).length<=2000:=by rw[<-zas,<-htx];assumption
 have tail:∀(xs:List Int)(pf:Option Addr)(cf:Nat)(wt:World),Ext w wt->Fr (fun b=>b=b7) w22 wt->Own w21.heap.size wt zfR 1 pf xs.length cf (xs.map (.int .i64))->(∀x∈xs,InR .i64 x)->xs.length<=9223372036854775807->(∀j0,JT s j0->s.size<=3000->xs=j0.aft) ->
   ∀w55,zag [b7] [] wt w55->FnP Tryz.prog zee #[jv ⟨P0,n1,nd,t,xs⟩ pa ca pf cf] w55 fun v56 w56=>Ext w55 w56/\∃t57:ByteArray,∃t58:Int,v56=(.tuple #[(.string t57),(.int .i64 t58)]) /\
    (((t58≠0)\/(t57≠s))->∀w59,zag [b0,b7] [] wt w59->zFf w s (.tuple #[jv zdv none 0 none 0,.int .i64 3]) w59) /\
    (((t58=0)/\(t57=s))->∀w59,zag [b0,b7] [] wt w59->zFf w s (.tuple #[jv ⟨P0,n1,nd,t,xs⟩ pa ca pf cf,.int .i64 0]) w59):=by
  intro xs pf cf wt hwt ft o hxr hxl hcx w55 x55
  have hW:WfJ ⟨P0,n1,nd,t,xs⟩:=⟨by show P0.size<=_;omega,hn1,hnd.1.rng,hWt,hxl,hxr⟩
  have key:∀(S:Nat->Prop),(∀b,S b->b<w21.heap.size)->∀w'',Fr S wt w''->IsJ w'' ⟨P0,n1,nd,t,xs⟩ pa ca pf:=fun S hS w'' fw=>by
   refine⟨hTt (fun b=>b=b7\/S b) (fun b hb=>by rcases hb with rfl|hb;(· exact hb7_21);exact hS b hb) w'' ((ft.mono fun b hb=>.inl hb).tr (fw.mono fun b hb=>.inr hb)),?_⟩
   exact(Own.fr o fw fun a ha hb=>by have:=(o.lt a ha).1;have:=hS _ hb;omega).cells
  have f55:Fr (fun b=>b=b7) wt w55:=zbL x55 (by intro d hd;simp at hd;exact .inl hd)
  have hw55:Ext w w55:=zav x55 hwt (by intro d hd;simp at hd;omega)
  refine(zxo ⟨P0,n1,nd,t,xs⟩ pa ca pf cf w55 (key (fun b=>b=b7) (fun b hb=>by omega) w55 f55) hW (by show nod t<=_;omega) (g.ext hw55)).mono fun v w56 ⟨e56,tt,e,hv,heq,hem,htt⟩=>⟨e56,tt,e,hv,fun hbad w59 x59=>?_,fun hgood w59 x59=>?_⟩
  ·refine zgZ (zav x59 hwt (by intro d hd;simp at hd;omega)) (by decide) fun j0 hj hs=>?_
   obtain⟨q0,_⟩:=parts j0 hj
   obtain⟨_,a2,_,a4,_,a6⟩:=good0 j0 hj hs
   have hxa:=hcx j0 hj hs
   have hj0:(⟨P0,n1,nd,t,xs⟩:Jb)=j0:=by rw[q0,a2,a4,a6,hxa]
   have he0:e=0:=heq.2 (by rw[hj0];exact hj.ok)
   rcases hbad with h|h
   ·exact h he0
   ·exact h (by rw[htt he0,hj0];exact hj.is.symm)
  ·refine⟨zav x59 hwt (by intro d hd;simp at hd;omega),⟨P0,n1,nd,t,xs⟩,pa,ca,pf,cf,0,rfl,hW,fun S hS w'' fw=>?_,.inr ⟨rfl,heq.1 hgood.1,htn,by rw[<-hgood.2];exact htt hgood.1,htl⟩,fun h=>by omega,fun _=>.inl rfl,fun j0 hj hs=>⟨rfl,?_⟩⟩
   ·refine key (fun b=>S b\/b=b0\/b=b7) (fun b hb=>?_) w'' ((zbL x59 (by intro d hd;simp at hd;exact .inl (.inr hd))).tr (fw.mono fun b hb=>.inl hb))
    have:=hw21.size
    rcases hb with hb|rfl|rfl
    ·have:=hS b hb;omega
    ·exact hb0_21
    ·exact hb7_21
   ·obtain⟨q0,_⟩:=parts j0 hj
    obtain⟨_,a2,_,a4,_,a6⟩:=good0 j0 hj hs
    rw[q0,a2,a4,a6,hcx j0 hj hs]
 refine⟨spn,by omega,by omega,P3,⟨cellP 3 P3 h222 rfl,hfree 3⟩,fun hne3=>⟨spn,by omega,by omega,P3,⟨cellP 3 P3 h222 rfl,hfree 3⟩,fun w36 x36=>?_⟩,fun heq3 w35 x35=>?_⟩
 rotate_left
 ·refine tail [] none 0 w22 hw22 (Fr.refl _ _) Own.nil (fun x hx=>by cases hx) (by simp) (fun j0 hj hs=>?_) w35 x35
  obtain⟨_,_,_,q3,_⟩:=parts j0 hj
  have:zqx j0.aft=[45]:=zmR (q3.symm.trans heq3)
  rcases zyN this with h|⟨x,h,hx⟩
  ·exact h.symm
  ·have hup:=zgH hj.ok.up x (by rw[h];simp)
   rw[zdU (by omega)] at hx
   have:=zc2 x.toNat 45 (by rw[hx];simp)
   exact absurd this (by decide)
 have f36:Fr (fun b=>b=b7) w22 w36:=zbL x36 (by intro d hd;simp at hd;exact .inl hd)
 have hw36:Ext w w36:=zav x36 hw22 (by intro d hd;simp at hd;omega)
 have hb0_36:b0<w36.heap.size:=x36.lt b0 (by simp)
 have hb7_36:b7<w36.heap.size:=x36.lt b7 (by simp)
 refine(zeX 44 P3 (by omega) w36 (g.ext hw36)).mono fun v w37 ⟨e37,hv,hc37,hlt37⟩=>⟨e37,_,_,_,hv,?_⟩
 have zGU:=zeK (c:=44) _ P3 rfl
 have qsz:∀i q,(Lib.splitB (one 44) 0 (Lib.countB P3 (one 44)) P3)[i]?=some q->q.size+i<=P3.size:=fun i q h=>zcA _ P3 i q h
 have qjt:∀j0,JT s j0->Lib.countB P3 (one 44)+1=j0.aft.length/\Lib.splitB (one 44) 0 (Lib.countB P3 (one 44)) P3=(j0.aft.map Lib.itoa).map ofL:=fun j0 hj=>by
  obtain⟨_,_,_,q3,_⟩:=parts j0 hj
  have hne:j0.aft≠[]:=fun h=>hne3 (by rw[q3,h];rfl)
  rw[q3]
  exact zqa hne
 generalize Lib.splitB (one 44) 0 (Lib.countB P3 (one 44)) P3=Qs at hc37 zGU qsz qjt
 generalize Lib.countB P3 (one 44)=m at zGU qjt ⊢
 have qpn:(some (⟨w36.heap.size,0,none⟩:Addr))≠none:=by simp
 have qpb:∀a,(some (⟨w36.heap.size,0,none⟩:Addr))=some a->a.block≠b7:=fun a ha=>by obtain rfl:=Option.some.inj ha;show w36.heap.size≠b7;omega
 generalize (some (⟨w36.heap.size,0,none⟩:Addr))=qp at hc37 qpn qpb ⊢
 have hw37:Ext w w37:=hw36.trans e37
 have hb37:b0<w37.heap.size/\b7<w37.heap.size:=by have:=e37.size;omega
 refine⟨fun k c43 c44 c45 c46 c47 c48 c49 c50 c51 c52 cl52 cc52 c53 cl53 cc53 w'=>(c43=P0/\c44=n1/\c45=nd.c/\c46=nd.m/\c47=nd.g/\c48=t.k/\c49=t.key/\c50=t.val/\c51=t.n/\c52=pa/\cl52=t.xs.length/\cc52=ca)/\0<=k/\k<=(m+1:Nat)/\Ext w w'/\Fr (fun b=>b=b7) w37 w' /\
   ∃xs:List Int,cl53=xs.length/\xs.length=k.toNat/\Own w37.heap.size w' zfR 1 c53 cl53 cc53 (xs.map (.int .i64))/\∀(i:Nat) x,xs[i]?=some x->∃q,Qs[i]?=some q/\Lib.parseIntB 64 q.data.toList=.ok x,fun k _ _ _ _ _ _ _ _ _ _ _ _ _ _ _ _=>(m+1-k).toNat,
  ⟨⟨rfl,rfl,rfl,rfl,rfl,rfl,rfl,rfl,rfl,rfl,rfl,rfl⟩,by omega,by omega,hw37,Fr.refl _ _,[],rfl,rfl,Own.nil,fun i x h=>by simp at h⟩,?_⟩
 rintro k c43 c44 c45 c46 c47 c48 c49 c50 c51 c52 cl52 cc52 c53 cl53 cc53 w54 ⟨⟨rfl,rfl,rfl,rfl,rfl,rfl,rfl,rfl,rfl,rfl,rfl,rfl⟩,hk0,hk1,hw54,f54,xs,rfl,hxk,o54,hxs⟩
 have c54:zau w54 qp (Qs.map Value.string):=hc37.fr f54 fun a ha=>qpb a ha
 refine⟨fun hlt=>?_,fun hge=>?_⟩
 rotate_left
 ·have f22:Fr (fun b=>b=b7) w22 w54:=(f36.tr (zac e37)).tr f54
  have sz:w21.heap.size<=w37.heap.size:=by have:=e22.size;have:=f36.size;have:=e37.size;omega
  refine tail xs c53 cc53 w54 hw54 f22 (o54.weak sz) (fun x hx=>?_) ?_ fun j0 hj hs=>?_
  ·obtain⟨i,hi⟩:=List.getElem?_of_mem hx
   obtain⟨q,_,hq⟩:=hxs i x hi
   exact zg5 hq
  ·have:=o54.le;omega
  ·obtain⟨h1,h2⟩:=qjt j0 hj
   have hkl:xs.length=j0.aft.length:=by omega
   refine List.ext_getElem? fun i=>?_
   rcases Nat.lt_or_ge i xs.length with hi|hi
   ·obtain⟨q,hq,hp⟩:=hxs i xs[i] (List.getElem?_eq_getElem hi)
    rw[h2,List.map_map,List.getElem?_map,List.getElem?_eq_getElem (by omega:i<j0.aft.length)] at hq
    simp only[Option.map_some,Option.some.injEq] at hq
    have hup:=zgH hj.ok.up (j0.aft[i]'(by omega)) (List.getElem_mem _)
    rw[<-hq] at hp
    have hp2:=zg4 (n:=j0.aft[i]'(by omega)) (by omega)
    have hp3:Lib.parseIntB 64 (Lib.itoa (j0.aft[i]'(by omega)))=.ok xs[i]:=hp
    rw[hp2] at hp3
    injection hp3 with h3
    rw[List.getElem?_eq_getElem hi,List.getElem?_eq_getElem (by omega:i<j0.aft.length),h3]
   ·rw[List.getElem?_eq_none hi,List.getElem?_eq_none (by omega)]
 obtain⟨pc,hpc⟩:∃pc,Qs[k.toNat]?=some pc:=⟨_,List.getElem?_eq_getElem (by omega)⟩
 have hcell:Go.Sx.cell w54 (pIdx qp k 1) 0=some (.string pc):=by
  rw[zae]
  exact c54 _ _ (by simp[hpc])
 have hpsz:=qsz _ _ hpc
 have hqfree:zwq [b7] (pIdx qp k 1):=fun b hb a ha=>by
  simp at hb;subst hb
  cases qp with
  |none => exact absurd rfl qpn
  |some x =>
   simp[pIdx] at ha
   rw[<-ha,zaU];exact qpb x rfl
 refine⟨qpn,hk0,hlt,pc,⟨hcell,hqfree⟩,fun w56 x56=>?_⟩
 have hw56:Ext w w56:=zav x56 hw54 (by intro d hd;simp at hd;omega)
 have f56:Fr (fun b=>b=b7) w37 w56:=f54.tr (zbL x56 (by intro d hd;simp at hd;exact .inl hd))
 refine(zrx pc (by omega) w56 (g.ext hw56)).mono fun v w57 ⟨e57,x,ev2,hv,hcase2⟩=>⟨e57,x,ev2,hv,fun w60 h60=>?_⟩
 have hw57:=hw56.trans e57
 refine zi8 (by kernel_rfl) (hcase2.elim (fun h=>.inl h.1) fun h=>.inr h.1) fun tb2 htb2=>⟨Ext.refl _,tb2,rfl,fun hbad w63 x63=>?_,fun hok=>?_⟩
 ·refine zgZ (zav x63 hw57 (by intro d hd;simp at hd;omega)) (by decide) fun j0 hj hs=>?_
  obtain⟨h1,h2⟩:=qjt j0 hj
  rw[h2,List.map_map,List.getElem?_map,List.getElem?_eq_getElem (by omega:k.toNat<j0.aft.length)] at hpc
  simp only[Option.map_some,Option.some.injEq] at hpc
  have hup:=zgH hj.ok.up (j0.aft[k.toNat]'(by omega)) (List.getElem_mem _)
  have hp2:=zg4 (n:=j0.aft[k.toNat]'(by omega)) (by omega)
  rcases hcase2 with⟨h,_⟩|⟨_,h⟩
  ·rw[htb2.2 h] at hbad;cases hbad
  ·rw[<-hpc] at h
   exact h _ hp2
 ·have hx:Lib.parseIntB 64 pc.data.toList=.ok x:=by
   have:=htb2.1 hok
   rcases hcase2 with⟨_,h⟩|⟨⟨a,b,h⟩,_⟩
   ·exact h
   ·rw[this] at h;cases h
  have f57:Fr (fun b=>b=b7) w37 w57:=f56.tr (zac e57)
  have o57:Own w37.heap.size w57 zfR 1 c53 xs.length cc53 (xs.map (.int .i64)):=Own.ext (Own.fr o54 (zbL x56 (by intro d hd;simp at hd;exact .inl hd):Fr (fun b=>b=b7) w54 w56) fun a ha hb=>by have:=(o54.lt a ha).1;omega) e57
  refine zg6 zfy o57 f57.size (fun b hb y hy=>by have:=(o57.lt y hy).1;simp at hb;rcases hb with rfl|rfl<;>omega) (by omega) (by omega) fun p' c' w' o' g' _ _=>⟨i64 (by omega),⟨⟨rfl,rfl,rfl,rfl,rfl,rfl,rfl,rfl,rfl,rfl,rfl,rfl⟩,by omega,by omega,?_,?_,xs++[x],by simp,by simp;omega,o',fun i y hy=>?_⟩,by simp only[];omega⟩
  ·have hsz37:=hw37.size
   exact g'.ext hw57 (o57.weak hsz37)
  ·have hB:Below w37.heap.size w57 w':=⟨g'.by_.os,g'.by_.tape,g'.by_.output,g'.by_.size,fun b hb=>g'.by_.block b (by have:=f57.size;omega) fun h=>by
    cases hp:c53 with
    |none => rw[hp] at h;simp[blk] at h
    |some a => rw[hp] at h;simp[blk] at h;have:=(o57.lt a hp).1;omega⟩
   exact⟨hB.os.trans f57.os,hB.tape.trans f57.tape,hB.output.trans f57.output,Nat.le_trans f57.size hB.size,fun b hb hn=>(hB.block b hb).trans (f57.block b hb hn)⟩
  ·rcases Nat.lt_or_ge i xs.length with hi|hi
   ·rw[List.getElem?_append_left hi] at hy
    exact hxs i y hy
   ·rw[List.getElem?_append_right hi] at hy
    obtain⟨hi2,hy2⟩:=List.getElem?_eq_some_iff.1 hy
    simp at hi2 hy2
    obtain rfl:i=k.toNat:=by omega
    exact⟨pc,hpc,by rw[<-hy2];exact hx⟩
section
variable {O:Nat->Prop} {B fb:Nat} {w:World} {P:Pl} {F:Fm}
theorem zEn(x:FXO O B w fb P F)(j:Jb)(pa:Option Addr)(ca:Nat)(pf:Option Addr)(cf:Nat)(hJ:IsJ w j pa ca pf)(hW:WfJ j)(hB:B<=w.heap.size) :
  FnP Tryz.prog za2 #[.pointer (ptr fb),jv j pa ca pf cf] w fun v w'=>∃id e:Int,v=.tuple #[.int .i64 id,.int .i64 e]/\((e=0↔zvc F j)/\zIK F j e)/\((e≠0/\Ext w w'/\id=0)\/(e=0/\id=F.jobs.length+1/\∃P',FXO O B w' fb P' (zqc F j)/\Fr (ft fb P.jp) w w'/\zGj w fb P.jp P'.jp)):=by
 have ne:=zaB fb
 have hl0:=x.jO.1
 refine zfD (ptr fb) j.user j.prio j.nd.c j.nd.m j.nd.g j.ask.k j.ask.key j.ask.val j.ask.n pa j.ask.xs.length ca pf j.aft.length cf w _ fun b0 hb0 w1 h1=>?_
 refine(zC5 j pa ca pf cf w1 (hJ.ext h1) hW).mono fun v w2 ⟨e2,hv⟩=>⟨e2,ztZ j,hv,fun hne w4 h4=>⟨0,ztZ j,rfl,⟨⟨fun h=>absurd h hne,fun h=>absurd (zi0.2 h.1) hne⟩,.inl ⟨hne,rfl⟩⟩,.inl ⟨hne,h4,rfl⟩⟩,fun hz=>?_⟩
 have hok:=zi0.1 hz
 have hlen:=hok.len
 have hup:=zgH hok.up
 refine⟨ne,ne,_,_,_,x.cell (i:=6) rfl,fun h60 w7 h7=>⟨0,7,rfl,⟨⟨fun h=>(by cases h),fun h=>absurd (by have:=x.len;omega) h.2.1⟩,.inr ⟨hz,.inl ⟨by have:=x.len;omega,rfl⟩⟩⟩,.inl ⟨by decide,h7,rfl⟩⟩,fun h60=>?_⟩
 refine⟨fun k w'=>Ext w w'/\0<=k/\k<=j.aft.length/\∀i:Nat,(i:Int)<k->j.aft.getD i 0<=F.jobs.length,fun k _=>(j.aft.length-k).toNat,⟨Ext.refl _,by omega,by omega,fun i hi=>by omega⟩,?_⟩
 rintro k w9 ⟨x9,hk0,hk1,hrng⟩
 have gmem:∀{k:Int},0<=k->k<j.aft.length->j.aft.getD k.toNat 0∈j.aft:=fun h0 h1=>zaq j.aft 0 (by omega)
 refine⟨fun hlt=>?_,fun hge=>?_⟩
 ·have g:=zeh.idx (hJ.2.ext x9) hk0 hlt
  have hy:=hup _ (gmem hk0 hlt)
  refine⟨fun h=>zaj g (zah.2 h),hk0,hlt,_,g,fun w11 x11=>?_⟩
  have h11:=x9.trans (zaa x11)
  refine(zFs (x.ext h11) _ (i64 (by omega))).mono fun v w12 ⟨e12,hv⟩=>⟨e12,?_⟩
  rcases hv with⟨hno,rfl⟩|⟨_,hin,rfl⟩
  ·exact⟨_,rfl,fun _ w14 h14=>⟨0,5,rfl,⟨⟨fun h=>(by cases h),fun h=>absurd ⟨hy.1,(h.2.2 _ (gmem hk0 hlt)).1⟩ hno⟩,.inr ⟨hz,.inr ⟨by have:=x.len;omega,.inl ⟨⟨_,gmem hk0 hlt,hno⟩,rfl⟩⟩⟩⟩,.inl ⟨by decide,(h11.trans e12).trans h14,rfl⟩⟩,fun h=>absurd rfl h⟩
  ·obtain⟨q,hq,hne,_⟩:=zmv x ⟨hy.1,hin⟩ (h11.trans e12)
   refine⟨_,rfl,fun h=>absurd (hq.symm.trans h) hne,fun _=>⟨i64 (by omega),⟨h11.trans e12,by omega,by omega,fun i hi=>?_⟩,by simp only[];omega⟩⟩
   by_cases hik:(i:Int)<k
   ·exact hrng i hik
   ·obtain rfl:i=k.toNat:=by omega
    exact hin
 have hall:∀y∈j.aft,y<=F.jobs.length:=fun y hy=>by
  obtain⟨i,hi,rfl⟩:=List.mem_iff_getElem.1 hy
  have:=hrng i (by omega)
  simpa[List.getD_eq_getElem?_getD,hi] using this
 refine⟨fun k w'=>Ext w w'/\0<=k/\k<=j.aft.length/\∀i:Nat,(i:Int)<k->za0 F (j.aft.getD i 0)≠4/\za0 F (j.aft.getD i 0)≠5,fun k _=>(j.aft.length-k).toNat,⟨x9,by omega,by omega,fun i hi=>by omega⟩,?_⟩
 clear hrng hge hk0 hk1
 rintro k w12 ⟨x12,hk0,hk1,hrng⟩
 refine⟨fun hlt=>?_,fun hge=>?_⟩
 ·have g:=zeh.idx (hJ.2.ext x12) hk0 hlt
  have hy:=hup _ (gmem hk0 hlt)
  have hy2:=hall _ (gmem hk0 hlt)
  refine⟨fun h=>zaj g (zah.2 h),hk0,hlt,_,g,fun w14 x14=>?_⟩
  have h14:=x12.trans (zaa x14)
  refine(zFs (x.ext h14) _ (i64 (by omega))).mono fun v w15 ⟨e15,hv⟩=>⟨e15,?_⟩
  rcases hv with⟨hno,_⟩|⟨_,hin,rfl⟩
  ·exact absurd ⟨hy.1,hy2⟩ hno
  ·obtain⟨q,hq,hne,hg⟩:=zmv x ⟨hy.1,hin⟩ (h14.trans e15)
   refine⟨_,rfl,by rw[hq];exact hne,by rw[hq];exact hne,_,by rw[hq];exact hg,fun hbad w18 h18=>⟨0,9,rfl,⟨⟨fun h=>(by cases h),fun h=>?_⟩,.inr ⟨hz,.inr ⟨by have:=x.len;omega,.inr ⟨fun y hy=>⟨(hup y hy).1,hall y hy⟩,.inl ⟨⟨_,gmem hk0 hlt,hbad⟩,rfl⟩⟩⟩⟩⟩,.inl ⟨by decide,(h14.trans e15).trans h18,rfl⟩⟩,fun hgd=>⟨i64 (by omega),⟨h14.trans e15,by omega,by omega,fun i hi=>?_⟩,by simp only[];omega⟩⟩
   ·have:=(h.2.2 _ (gmem hk0 hlt)).2
    rcases hbad with h|h
    ·exact absurd h this.1
    ·exact absurd h this.2
   ·by_cases hik:(i:Int)<k
    ·exact hrng i hik
    ·obtain rfl:i=k.toNat:=by omega
     exact hgd
 have hall2:∀y∈j.aft,za0 F y≠4/\za0 F y≠5:=fun y hy=>by
  obtain⟨i,hi,rfl⟩:=List.mem_iff_getElem.1 hy
  have:=hrng i (by omega)
  simpa[List.getD_eq_getElem?_getD,hi] using this
 have hoks:zvc F j:=⟨hok,by have:=x.len;omega,fun y hy=>⟨hall y hy,hall2 y hy⟩⟩
 have x12':=x.ext x12
 refine⟨ne,ne,_,_,_,x12'.cell (i:=6) rfl,fun w16 x16=>?_⟩
 have h16:=x12.trans (zaa x16)
 have hE:zeO j.ask=0:=by
  have:=hok.ask
  unfold zmi at this
  split at this
  ·cases this
  ·exact this
 refine(zDG ⟨zsZ j,pa,ca,pf,cf⟩ w16 (hJ.ext h16) hE hok.len).mono fun v w17 ⟨e17,r,hv,hrs,hF⟩=>⟨e17,r.s.job.user,r.s.job.prio,r.s.job.nd.c,r.s.job.nd.m,r.s.job.nd.g,r.s.job.ask.k,r.s.job.ask.key,r.s.job.ask.val,r.s.job.ask.n,r.pa,r.s.job.ask.xs.length,r.ca,r.pf,r.s.job.aft.length,r.cf,r.s.what,r.s.host,r.s.since,r.s.again,r.s.tries,hv,?_⟩
 have h17:=h16.trans e17
 have x17:=x.ext h17
 have hlR:=x.len
 have hn60:F.jobs.length≠60:=hoks.2.1
 have hbj:∀b∈[b0],∀y,P.jp=some y->y.block≠b:=fun b hb y hy=>by simp at hb;subst hb;have:=(x.arr.lt y hy).2;omega
 refine zp0 (v:=sv r) zhG (by omega) x17.arr (Nat.le_trans hB h17.size) hbj rfl (zy9 r) (by omega) (by omega) (by omega) fun p' c' w44 o44 g44 hp' hb44=>⟨ne,ne,?_⟩
 have apF:zbU (ptr fb) P.jp:=fun u y hu hy=>by cases hu;exact fun h=>x.ap y hy h.symm
 have s44:=x17.slot.st apF g44
 have hfb:=(x.slot.lt _ rfl).2
 have apP:∀a,p'=some a->a.block≠fb:=fun a ha he=>by
  rcases g44.new with hn|hn
  ·rw[ha] at hn
   cases hj:P.jp with
   |none => rw[hj] at hn;simp[blk] at hn
   |some y => rw[hj] at hn;simp[blk] at hn;exact x.ap y hj (hn▸he)
  ·have h1:=hn a ha
   have h2:=h17.size
   have h3:fb<w.heap.size:=hfb
   omega
 refine zaS (off:=6) s44 rfl (by simp) (by simp) (by intro u hu;simp at hu;subst hu;rfl) (fun b hb y hy he=>by cases hy;simp at hb;subst hb;have h3:fb<w.heap.size:=hfb;have he:fb=b:=he;omega) fun w48 o48 g48=>?_
 have f48:Fr (ft fb P.jp) w17 w48:=(zaP g44 fun a ha=>.inr ⟨a,ha,rfl⟩).tr (zaP g48 fun a ha=>by cases ha;exact .inl rfl)
 have hft:∀b,ft fb p' b->ft fb P.jp b\/w17.heap.size<=b:=fun b hb=>by
  rcases hb with h|⟨a,ha,rfl⟩
  ·exact .inl (.inl h)
  ·rcases g44.new with hn|hn
   ·left
    rw[ha] at hn
    cases hj:P.jp with
    |none => rw[hj] at hn;simp[blk] at hn
    |some y => rw[hj] at hn;simp[blk] at hn;exact .inr ⟨y,rfl,hn.symm⟩
   ·exact .inr (hn a ha)
 have step:∀{w'' w0:World},Ext w0 w17->Fr (ftO O fb p') w48 w''->Fr (ftO O fb P.jp) w0 w'':=fun h0 kf=>((zac h0).tr (f48.mono fun b hb=>.inr hb)).trans kf fun b hb=>by
  rcases hb with hb|hb
  ·exact .inl (.inl hb)
  ·rcases hft b hb with h|h
   ·exact .inl (.inr h)
   ·exact .inr (Nat.le_trans h0.size h)
 have y48:FXO O B w48 fb ⟨P.hp,P.hc,p',c',P.R++[r]⟩ (zqc F j):=by
  refine⟨?_,?_,?_,fun w'' kf=>x.hs w'' (step h17 kf),fun r' hr' w'' kf=>?_,apP,x.hO,?_,fun b hb=>by have:=x.olt b hb;have:=h17.size;have:=f48.size;omega,fun b hb hf=>(hft b hf).elim (x.odis b hb) fun h=>by have:=x.olt b hb;have:=h17.size;omega⟩
  ·show Own B w48 zdq 7 (ptr fb) 1 1 [_,_,_,_,_,_,.slice p' (P.R++[r]).length c']
   rw[List.length_append]
   exact o48
  ·show Own B w48 zkq 16 p' (P.R++[r]).length c' ((P.R++[r]).flatMap zun)
   rw[List.length_append,List.flatMap_append]
   have:=o44.st (fun u v hu hv=>by cases hv;exact apP u hu) g48
   simpa[Value.cells] using this
  ·show(P.R++[r]).map (·.s)=F.jobs++[zsZ j]
   rw[List.map_append,x.map];simp[hrs]
  ·have hr':r'∈P.R++[r]:=hr'
   rcases List.mem_append.1 hr' with hr'|hr'
   ·exact x.js r' hr' w'' (step h17 kf)
   ·simp at hr';subst hr'
    have:=hF (ftO O fb P.jp) (fun b hb=>by
     rcases hb with hb|hb
     ·have:=x.olt b hb;have:=h16.size;omega
     ·have:=(x.foot hb).2;have:=h16.size;omega) w'' (step (Ext.refl _) kf)
    rw[hrs]
    exact this
  ·refine⟨by show(F.jobs++[zsZ j]).length<=60;rw[List.length_append];simp;omega,fun s hs=>?_⟩
   have hs:s∈F.jobs++[zsZ j]:=hs
   rcases List.mem_append.1 hs with hs|hs
   ·exact x.jO.2 s hs
   ·simp at hs;subst hs;exact⟨hok,hW⟩
 refine⟨ne,ne,_,_,_,y48.cell (i:=6) rfl,fun w52 h52=>⟨_,0,rfl,⟨⟨fun _=>hoks,fun _=>rfl⟩,.inr ⟨hz,.inr ⟨hn60,.inr ⟨fun y hy=>⟨(hup y hy).1,hall y hy⟩,.inr ⟨hall2,rfl⟩⟩⟩⟩⟩,.inr ⟨rfl,?_,_,y48.ext h52,((zac h17).tr f48).tr (zac h52),fun b hb=>?_⟩⟩⟩
 ·simp;omega
 ·rcases hft b hb with h|h
  ·exact .inl h
  ·exact .inr (Nat.le_trans h17.size h)
end
theorem zCj{w:World}{p:Option Addr}{c:Nat}{ws:List ByteArray}(k:Nat)(hk:k<ws.length)(hc:ws.length<=c)(h:zau w p (ws.map Value.string)):zau w (pCut p c (k:Int) 1) ((ws.drop k).map Value.string):=by
 have e:pCut p c (k:Int) 1=p.map (·.add k):=by
  unfold pCut
  rw[if_neg (by simp;omega)]
  simp
 rw[e]
 intro i v hv
 have h2:=h (k+i) v (by rw[List.getElem?_map,List.getElem?_drop] at hv;rw[List.getElem?_map];exact hv)
 cases p with
 |none => simp[cell] at h2
 |some a =>
  simp only[Option.map_some,cell,Option.bind_some] at h2 ⊢
  have:(a.add k).add i=a.add (k+i):=by
   by_cases h0:k=0
   ·subst h0;simp[Addr.add]
   ·by_cases hi:i=0
    ·subst hi;simp[Addr.add,h0]
    ·simp[Addr.add,h0,hi,Nat.add_assoc]
  rw[this];exact h2
def zof(ws:List ByteArray)(k:Nat):ByteArray:=ofL (Lib.join ((ws.drop k).map (·.data.toList)) [32])
theorem zIm{wp:Option Addr}{wc:Nat}{ws:List ByteArray}{w:World}(k:Nat)(hk:k<ws.length)(hc:ws.length<=wc)(h10:ws.length<=10)(hsz:∀x∈ws,x.size<=4294967281)(hw:zau w wp (ws.map Value.string)) :
  FnP Tryz.prog zbd #[.slice (pCut wp wc (k:Int) 1) ((ws.length:Int)-(k:Int)).toNat (wc-((k:Int)).toNat),.string (one 32)] w fun v w'=>Ext w w'/\v=.string (zof ws k)/\(zof ws k).size<=42949672820:=by
 have hb:(Lib.join ((ws.drop k).map (·.data.toList)) [32]).length<=42949672820:=by
  have:=zhM (c:=32) (m:=4294967281) ((ws.drop k).map (·.data.toList)) (fun y hy=>by
   obtain⟨x,hx,rfl⟩:=List.mem_map.1 hy
   have:=hsz x (List.mem_of_mem_drop hx)
   rw[zhC];exact this)
  rw[List.length_map,List.length_drop] at this
  omega
 have e:((ws.length:Int)-(k:Int)).toNat=(ws.drop k).length:=by rw[List.length_drop];omega
 rw[e]
 exact(zBC (ws.drop k) 32 _ _ (by rw[List.length_drop];simp;omega) w (zCj k hk hc hw) (by omega) (by rw[List.length_drop];omega)).mono fun v w' ⟨h1,h2⟩=>⟨h1,h2,by unfold zof;rw[zas];exact hb⟩
def zGW(t:ByteArray)(e:Int)(j:Jb):Prop:=(3000<t.size->e=2)/\(t.size<=3000->e=0\/e=3)/\(e=0->JT t j)/\(∀j0,JT t j0->t.size<=3000->e=0/\j=j0)
def zjm(t:ByteArray)(σ:DS)(c:Int)(s:ByteArray)(σ':DS):Prop:=match σ with
 |.shut _ => False
 |.opn F => ∃e j,zGW t e j/\((e≠0/\c=e/\σ'=.opn F)\/(e=0/\zIK F j c/\((c≠0/\σ'=.opn F)\/(c=0/\s=ofL (Lib.itoa (F.jobs.length+1))/\σ'=.opn (zqc F j)))))
section
variable {O:Nat->Prop} {B db:Nat} {w:World} {K:Kt}
theorem zHn(x:KX O B w db K){fb:Nat}{P:Pl}{F:Fm}(hK:K.farm=some (fb,P,F))(g:GD w)(hB:11<=B)(hBw:B<=w.heap.size)(wp:Option Addr)(wc:Nat)(ws:List ByteArray)(h1:1<ws.length)(hc:ws.length<=wc)(h10:ws.length<=10)
  (hsz:∀x∈ws,x.size<=4294967281) (hw:zau w wp (ws.map Value.string)) :
  FnP Tryz.prog zf3 #[.pointer (ptr db),.slice wp ws.length wc] w (CR O B db w K fun s c σ'=>zjm (zof ws 1) K.st c s σ'):=by
 have ne:=zaB db
 refine zkI (ptr db) wp ws.length wc w _ ⟨by omega,by omega,by omega,fun w0 x0=>(zIm 1 h1 hc h10 hsz (hw.ext x0)).mono fun v w1 ⟨e1,hv,hs⟩=>⟨e1,_,hv,fun w3 x3=>?_⟩⟩
 generalize zof ws 1=t at hs ⊢
 refine(zGs t (by omega) w3 (g.gb.ext x3)).mono fun v w4 ⟨e4,j,pa,ca,pf,cf,e,hv,hW,hJ,hor,hb2,hb3,hcomp⟩=>⟨e4,j.user,j.prio,j.nd.c,j.nd.m,j.nd.g,j.ask.k,j.ask.key,j.ask.val,j.ask.n,pa,j.ask.xs.length,ca,pf,j.aft.length,cf,e,hv,fun b21 hb21=>?_⟩
 have x4:=x3.trans e4
 have hread:zGW t e j:=⟨hb2,hb3,fun h=>by
  rcases hor with⟨h',_⟩|⟨_,q1,q2,q3,q4⟩
  ·exact absurd h h'
  ·exact⟨q1,by omega,q3,q4⟩,hcomp⟩
 refine⟨fun hne w22 x22=>zu4 ⟨Ext.refl _,_,rfl,rfl,fun w25 x25=>zAU ⟨Ext.refl _,_,rfl,fun w28 h28=>?_⟩⟩,fun hz=>⟨ne,ne,_,(x.ext x4).fbp hK,fun w23 x23=>?_⟩⟩
 ·refine zcE x (((x4.trans (zaa x22)).trans (zaa x25)).trans h28) (zAE hne) ?_
  rw[Kt.st_opn hK]
  exact⟨e,j,hread,.inl ⟨hne,rfl,rfl⟩⟩
 have h23:=x4.trans (zaa x23)
 have y:=x.ext h23
 obtain⟨fx,I,W⟩:=y.opn fb P F hK
 have hb21':=x23.lt b21 (by simp)
 have hft:∀b,KF db K b->b≠b21:=fun b hb he=>by
  have:=((x.ext x4).foot hb).2
  omega
 refine(zEn fx j pa ca pf cf (hJ (fun _=>False) (fun _ h=>h.elim) w23 (zac (zaa x23))) hW (Nat.le_trans hBw h23.size)).mono fun v w24 ⟨id,e',hv,⟨hiff,hE⟩,hres⟩=>⟨?_,id,e',hv,fun w27 h27=>?_⟩
 ·rcases hres with⟨_,h,_⟩|⟨_,_,P',_,f,_⟩
  ·exact(zac (S:=fun _=>False) h).kept fun b hb=>by simp at hb;subst hb;exact⟨hb21',fun h=>h⟩
  ·exact f.kept fun b hb=>by
    simp at hb;subst hb
    exact⟨hb21',fun h=>hft _ (.inr ⟨fb,P,F,hK,h⟩) rfl⟩
 have hR:∃K',KX O B w24 db K'/\Fr (KF db K) w23 w24/\zuR w23 db K K'/\(InR .i64 id)/\∀s:ByteArray,s=ofL (Lib.itoa id)->zjm t K.st e' s K'.st:=by
  rcases hres with⟨hne,h,rfl⟩|⟨he0,hid,P',fx',f,hg⟩
  ·refine⟨K,y.ext h,zac h,fun b hb=>.inl hb,i64 (by omega),fun s _=>?_⟩
   rw[Kt.st_opn hK]
   exact⟨e,j,hread,.inr ⟨hz,hE,.inl ⟨hne,rfl⟩⟩⟩
  ·have hok:=hiff.1 he0
   obtain⟨a1,a2,a3⟩:=y.turn hK fx' f hg (ztz I hok) (W.sub j)
   refine⟨_,a1,a2,a3,?_,fun s hs=>?_⟩
   ·have:=fx.jO.1;exact i64 (by omega)
   ·rw[Kt.st_opn hK]
    exact⟨e,j,hread,.inr ⟨hz,hE,.inr ⟨he0,by rw[hs,hid],rfl⟩⟩⟩
 obtain⟨K',y',f',g',hid,hRR⟩:=hR
 have gd24:GD w24:=(g.ext h23).fr f' fun b hb=>Nat.le_trans hB (y.foot hb).1
 refine(znH id (zhK hid) w27 (gd24.ext h27).gb).mono fun v w28 ⟨e28,hv⟩=>⟨e28,_,hv,fun w30 x30=>(zqt e' w30).mono fun v w31 ⟨e31,hE'⟩=>⟨e31,v,rfl,fun w33 h33=>?_⟩⟩
 have hx:=((zaa x30).trans e31).trans h33
 refine⟨_,v,e',K',rfl,hE',y'.ext hx,((zac h23).tr f').tr (zac hx),fun b hb=>(g' b hb).imp (fun h=>h) fun h=>Nat.le_trans h23.size h,hRR _ rfl⟩
end
instance decMem(x:ByteArray)(l:List ByteArray):Decidable (x∈l):=decidable_of_iff (l.any (fun y=>decide (y=x))=true) (by simp)
def lbE(seen:List ByteArray):List Lb->Int
 |[] => 0
 |x::r => if lbB x.key=true/\lbB x.val=true then (if x.key∈seen then 6 else lbE (seen++[x.key]) r) else 3
def hE(seen:List ByteArray)(h:Ht):Int :=
 if lbB h.name=false then 3 else if h.name∈seen then 6 else if 8<h.labels.length then 2 else if lbE [] h.labels≠0 then lbE [] h.labels
 else if zzd h.has≠0 then 4 else if zzd h.used≠0 then 4 else if zj4 h.used h.has then 0 else 10
def hsE(seen:List ByteArray):List Ht->Int
 |[] => 0
 |h::r => if hE seen h≠0 then hE seen h else hsE (seen++[h.name]) r
def zln(L:List Ht):Int:=if 30<L.length then 2 else hsE [] L
theorem zH7:∀(l:List Lb)(seen:List ByteArray),lbE seen l=0↔(∀x∈l,lbB x.key=true/\lbB x.val=true)/\(l.map (·.key)).Nodup/\∀x∈l,x.key∉seen
 |[],seen => by simp[lbE]
 |x::r,seen => by
  rw[lbE]
  have ih:=zH7 r (seen++[x.key])
  by_cases h1:lbB x.key=true/\lbB x.val=true
  ·rw[if_pos h1]
   by_cases h2:x.key∈seen
   ·rw[if_pos h2]
    exact⟨fun h=>by omega,fun h=>absurd h2 (h.2.2 x List.mem_cons_self)⟩
   ·rw[if_neg h2,ih,List.map_cons,List.nodup_cons]
    constructor
    ·rintro⟨a,b,c⟩
     refine⟨fun y hy=>?_,⟨fun hm=>?_,b⟩,fun y hy=>?_⟩
     ·rcases List.mem_cons.1 hy with rfl|hy
      ·exact h1
      ·exact a y hy
     ·obtain⟨y,hy,he⟩:=List.mem_map.1 hm
      exact c y hy (by rw[he];simp)
     ·rcases List.mem_cons.1 hy with rfl|hy
      ·exact h2
      ·exact fun hs=>c y hy (List.mem_append_left _ hs)
    ·rintro⟨a,⟨b1,b2⟩,c⟩
     refine⟨fun y hy=>a y (List.mem_cons_of_mem _ hy),b2,fun y hy hs=>?_⟩
     rcases List.mem_append.1 hs with hs|hs
     ·exact c y (List.mem_cons_of_mem _ hy) hs
     ·simp at hs
      exact b1 (List.mem_map.2 ⟨y,hy,hs⟩)
  ·rw[if_neg h1]
   exact⟨fun h=>by omega,fun h=>absurd (h.1 x List.mem_cons_self) h1⟩
theorem hE_ok{seen:List ByteArray}{h:Ht}:hE seen h=0↔zGM h/\h.name∉seen:=by
 have hl:=zH7 h.labels []
 unfold hE zGM okLb
 by_cases h1:lbB h.name=false
 ·rw[if_pos h1];simp[h1]
 have h1':lbB h.name=true:=by simpa using h1
 rw[if_neg h1]
 by_cases h2:h.name∈seen
 ·rw[if_pos h2];simp[h2]
 rw[if_neg h2]
 by_cases h3:8<h.labels.length
 ·rw[if_pos h3];exact⟨fun h=>by omega,fun h=>by have:=h.1.2.1;omega⟩
 rw[if_neg h3]
 by_cases h4:lbE [] h.labels=0
 ·rw[if_neg (by simpa using h4)]
  obtain⟨a,b,_⟩:=hl.1 h4
  by_cases h5:zzd h.has=0
  ·rw[if_neg (by simpa using h5)]
   by_cases h6:zzd h.used=0
   ·rw[if_neg (by simpa using h6)]
    by_cases h7:zj4 h.used h.has
    ·rw[if_pos h7]
     exact⟨fun _=>⟨⟨h1',by omega,⟨a,b⟩,zba.1 h5,zba.1 h6,h7⟩,h2⟩,fun _=>rfl⟩
    ·rw[if_neg h7]
     exact⟨fun h=>by omega,fun h=>absurd h.1.2.2.2.2.2 h7⟩
   ·rw[if_pos h6]
    exact⟨fun h=>by omega,fun h=>absurd (zba.2 h.1.2.2.2.2.1) h6⟩
  ·rw[if_pos h5]
   exact⟨fun h=>by omega,fun h=>absurd (zba.2 h.1.2.2.2.1) h5⟩
 ·rw[if_pos (by simpa using h4)]
  exact⟨fun h=>absurd h h4,fun h=>absurd (hl.2 ⟨h.1.2.2.1.1,h.1.2.2.1.2,by simp⟩) h4⟩
theorem zH3:∀(L:List Ht)(seen:List ByteArray),hsE seen L=0↔(∀h∈L,zGM h)/\(L.map (·.name)).Nodup/\∀h∈L,h.name∉seen
 |[],seen => by simp[hsE]
 |x::r,seen => by
  rw[hsE]
  have ih:=zH3 r (seen++[x.name])
  have hx:=hE_ok (seen:=seen) (h:=x)
  by_cases h1:hE seen x=0
  ·rw[if_neg (by simpa using h1),ih,List.map_cons,List.nodup_cons]
   obtain⟨q1,q2⟩:=hx.1 h1
   constructor
   ·rintro⟨a,b,c⟩
    refine⟨fun y hy=>?_,⟨fun hm=>?_,b⟩,fun y hy=>?_⟩
    ·rcases List.mem_cons.1 hy with rfl|hy
     ·exact q1
     ·exact a y hy
    ·obtain⟨y,hy,he⟩:=List.mem_map.1 hm
     exact c y hy (by rw[he];simp)
    ·rcases List.mem_cons.1 hy with rfl|hy
     ·exact q2
     ·exact fun hs=>c y hy (List.mem_append_left _ hs)
   ·rintro⟨a,⟨b1,b2⟩,c⟩
    refine⟨fun y hy=>a y (List.mem_cons_of_mem _ hy),b2,fun y hy hs=>?_⟩
    rcases List.mem_append.1 hs with hs|hs
    ·exact c y (List.mem_cons_of_mem _ hy) hs
    ·simp at hs
     exact b1 (List.mem_map.2 ⟨y,hy,hs⟩)
  ·rw[if_pos (by simpa using h1)]
   exact⟨fun h=>absurd h h1,fun h=>absurd (hx.2 ⟨h.1 x List.mem_cons_self,h.2.2 x List.mem_cons_self⟩) h1⟩
theorem zzb{L:List Ht}:zln L=0↔zj9 L:=by
 unfold zln zj9
 by_cases h:30<L.length
 ·rw[if_pos h];exact⟨fun h=>by omega,fun h=>by have:=h.1;omega⟩
 ·rw[if_neg h,zH3]
  exact⟨fun⟨a,b,_⟩=>⟨by omega,a,b⟩,fun⟨_,a,b⟩=>⟨a,b,by simp⟩⟩
theorem zpc{α:Type}{L:List α}(d:α){k:Nat}(h:k<L.length):L.drop k=L.getD k d::L.drop (k+1):=by
 rw[List.drop_eq_getElem_cons h]
 simp[List.getD_eq_getElem?_getD,h]
theorem zuE(p:Option Addr)(c:Nat)(L:List Ht)(h63:(L.length:Int)<=9223372036854775807)(hO:∀h∈L,zry h)(w:World)(hL:ziz w p L) :
  FnP Tryz.prog zcf #[.slice p L.length c] w fun v w'=>Ext w w'/\v=.int .i64 (zln L):=by
 refine zlO p L.length c w _ ⟨fun hgt w0 h0=>⟨h0,by unfold zln;rw[if_pos (by omega)]⟩,fun hle w0 h0=>?_⟩
 have hEH:zln L=hsE [] L:=by unfold zln;rw[if_neg (by omega)]
 rw[hEH]
 refine zzW fun w1 S1 e1=>⟨e1,_,rfl,?_⟩
 generalize hr1:w0.heap.size=r1 at S1
 have x1:=h0.trans e1
 have hw1:w.heap.size<=r1:=by have:=h0.size;omega
 refine⟨fun k w'=>Ext w w'/\0<=k/\k<=L.length/\ziA w' r1 ((L.take k.toNat).map (·.name))/\hsE [] L=hsE ((L.take k.toNat).map (·.name)) (L.drop k.toNat),fun k _=>(L.length-k).toNat,⟨x1,by omega,by omega,S1,rfl⟩,?_⟩
 rintro k w5 ⟨x5,hk0,hk1,S5,hE5⟩
 have fin:∀{e:Int}{w':World},Ext w w'->hsE [] L=e->Ext w w'/\Value.int .i64 e=.int .i64 (hsE [] L):=fun hx h1=>⟨hx,by rw[h1]⟩
 refine⟨fun hlt=>?_,fun hge w6 h6=>fin (x5.trans h6) ?_⟩
 rotate_left
 ·rw[hE5,List.drop_eq_nil_of_le (by omega)];rfl
 obtain⟨q,d,hp,hp8,g',hLb⟩:=hL.at hk0 hlt
 have hm:=zaq L default (i:=k.toNat) (by omega)
 have hOk:=hO _ hm
 rw[zpc default (by omega:k.toNat<L.length),hsE] at hE5
 generalize hHd:L.getD k.toNat default=H at g' hLb hm hOk hE5
 generalize hseen:(L.take k.toNat).map (·.name)=seen at S5 hE5
 have bad:∀{e:Int},e≠0->hE seen H=e->hsE [] L=e:=fun hne he=>by rw[hE5,he,if_pos hne]
 have g:∀(j:Nat) u,(zE3 H q d)[j]?=some u->Go.Sx.cell w5 (pIdx p k 8) j=some u:=fun j u hu=>zaz x5 (g' j u hu)
 obtain⟨ho1,ho2,ho3⟩:=hOk
 refine⟨hp,hk0,hlt,hp8,_,g 0 _ rfl,_,_,_,g 1 _ rfl,_,g 2 _ rfl,_,g 3 _ rfl,_,g 4 _ rfl,_,g 5 _ rfl,_,g 6 _ rfl,_,g 7 _ rfl,fun b16 hb16=>?_⟩
 refine⟨fun w'=>w'=w5/\lbB H.name=true/\H.name∉seen/\H.labels.length<=8,fun w19 h19=>?_,?_⟩
 ·refine(zgq H.name ho1 w19).mono fun v w20 ⟨e20,hv⟩=>⟨e20,_,hv,fun hf w22 h22=>fin (x5.trans h22) (bad (by decide) ?_),fun hn w22 h22=>?_⟩
  ·unfold hE;rw[if_pos hf]
  have hn':¬lbB H.name=false:=by rw[hn];decide
  refine zoJ (S5.ext h22) H.name fun b hb=>⟨Ext.refl _,b,rfl,fun hin w25 h25=>fin (x5.trans h25) (bad (by decide) ?_),fun hnin=>?_⟩
  ·unfold hE;rw[if_neg hn',if_pos (hb.1 hin)]
  have hns:H.name∉seen:=fun hm=>by rw[hb.2 hm] at hnin;cases hnin
  refine⟨fun h8 w25 h25=>fin (x5.trans h25) (bad (by decide) ?_),fun h8=>⟨rfl,hn,hns,by omega⟩⟩
  unfold hE;rw[if_neg hn',if_neg hns,if_pos (by omega)]
 rintro w5 ⟨rfl,hn,hnin,h8⟩ w19 x19
 have hn':¬lbB H.name=false:=by rw[hn];decide
 have h19:=zaa x19
 have hb19:b16<w19.heap.size:=x19.lt b16 (by simp)
 have hr5:=S5.lt
 refine ztw (S5.ext h19) H.name fun w20 S20 g20=>⟨fun b hb=>?_,fun w21 x21=>?_⟩
 ·simp at hb;subst hb
  refine g20.by_.block b hb19 fun he=>?_
  simp[blk] at he;omega
 have x20:Ext w w20:=g20.below (x5.trans h19) (x5.trans h19).size (fun a ha=>by obtain rfl:=Option.some.inj ha;exact hw1)
 have h21:=zaa x21
 refine zzW fun w22 S22 e22=>⟨e22,_,rfl,?_⟩
 have hr21:r1<w21.heap.size:=by have:=S20.lt;have:=h21.size;omega
 generalize hr2:w21.heap.size=r2 at S22 hr21
 have x22:=(x20.trans h21).trans e22
 have hb16r:b16<r2:=by have:=g20.size;have:=h21.size;omega
 refine⟨fun j w'=>Ext w w'/\0<=j/\j<=H.labels.length/\ziA w' r1 (seen++[H.name])/\ziA w' r2 ((H.labels.take j.toNat).map (·.key))/\lbE [] H.labels=lbE ((H.labels.take j.toNat).map (·.key)) (H.labels.drop j.toNat),fun j _=>(H.labels.length-j).toNat,⟨x22,by omega,by omega,(S20.ext h21).ext e22,S22,rfl⟩,?_⟩
 rintro j w26 ⟨x26,hj0,hj1,Sa,Sb,hlE⟩
 have badL:∀{e:Int},e≠0->lbE [] H.labels=e->hsE [] L=e:=fun hne he=>bad hne (by unfold hE;rw[if_neg hn',if_neg hnin,if_neg (by omega),if_pos (by rw[he];exact hne),he])
 refine⟨fun hjl=>?_,fun hjg w27 h27=>?_⟩
 ·have hLb6:=hLb.ext x26
  have l0:=hLb6.idx default hj0 hjl (j:=0) rfl
  have l1:=hLb6.idx default hj0 hjl (j:=1) rfl
  have hlm:=zaq H.labels default (i:=j.toNat) (by omega)
  have hls:=ho3 _ hlm
  rw[zpc default (by omega:j.toNat<H.labels.length),lbE] at hlE
  generalize hld:H.labels.getD j.toNat default=lb at l0 l1 hlm hls hlE
  generalize hkeys:(H.labels.take j.toNat).map (·.key)=keys at Sb hlE
  refine⟨fun hq=>zaj l0 (zah.2 hq),hj0,hjl,zaj l0,_,l0,_,l1,fun b29 hb29=>?_⟩
  refine⟨fun w'=>w'=w26/\lbE [] H.labels=lbE (keys++[lb.key]) (H.labels.drop (j.toNat+1)),fun w32 h32=>?_,?_⟩
  ·refine(zgq lb.key hls.1 w32).mono fun v w33 ⟨e33,hv⟩=>⟨e33,_,hv,fun hf w35 h35=>fin (x26.trans h35) (badL (by decide) (by rw[hlE,if_neg (by rw[hf];simp)])),fun hkt w35 h35=>?_⟩
   refine(zgq lb.val hls.2 w35).mono fun v w36 ⟨e36,hv⟩=>⟨e36,_,hv,fun hf w38 h38=>fin (x26.trans h38) (badL (by decide) (by rw[hlE,if_neg (by rw[hf];simp)])),fun hvt w38 h38=>?_⟩
   rw[if_pos ⟨hkt,hvt⟩] at hlE
   refine zoJ (Sb.ext h38) lb.key fun b hb=>⟨Ext.refl _,b,rfl,fun hin w41 h41=>fin (x26.trans h41) (badL (by decide) (by rw[hlE,if_pos (hb.1 hin)])),fun hnin=>⟨rfl,?_⟩⟩
   rw[hlE,if_neg (fun hm=>by rw[hb.2 hm] at hnin;cases hnin)]
  rintro w26 ⟨rfl,hlE'⟩ w32 x32
  have h32:=zaa x32
  refine ztw (Sb.ext h32) lb.key fun w33 S33 g33=>⟨fun b hb=>?_,i64 (by omega),⟨?_,by omega,by omega,?_,?_,?_⟩,by simp only[];omega⟩
  ·have hlt':=x32.lt b hb
   refine g33.by_.block b hlt' fun he=>?_
   simp[blk] at he
   simp at hb
   have:=Sb.lt
   rcases hb with rfl|rfl<;>omega
  ·exact g33.below (x26.trans h32) (x26.trans h32).size (fun a ha=>by obtain rfl:=Option.some.inj ha;show w.heap.size<=r2;omega)
  ·exact(Sa.ext h32).grew (by omega) g33
  ·rw[show(j+1).toNat=j.toNat+1 by omega,zc4 (fun x:Lb=>x.key) default (by omega),hld,hkeys];exact S33
  ·rw[show(j+1).toNat=j.toNat+1 by omega,zc4 (fun x:Lb=>x.key) default (by omega),hld,hkeys];exact hlE'
 ·have hl0:lbE [] H.labels=0:=by rw[hlE,List.drop_eq_nil_of_le (by omega)];rfl
  have hEe:hE seen H=if zzd H.has≠0 then 4 else if zzd H.used≠0 then 4 else if zj4 H.used H.has then 0 else 10:=by
   unfold hE;rw[if_neg hn',if_neg hnin,if_neg (by omega),if_neg (by rw[hl0];simp)]
  refine(zxr H.used H.has w27).mono fun v w28 ⟨e28,t,e,hv,ht⟩=>⟨e28,_,_,hv,fun w31 h31=>?_⟩
  refine(zex H.has w31).mono fun v w32 ⟨e32,hv⟩=>⟨e32,_,hv,?_⟩
  refine⟨fun w'=>w'=w26/\hE seen H=0,⟨fun hne w36 h36=>?_,fun he0=>⟨fun hne w36 h36=>?_,fun he=>⟨fun hf w36 h36=>?_,fun htt=>?_⟩⟩⟩,?_⟩
  ·have hno:¬okN H.has:=fun h=>hne (zba.2 h)
   rw[zmE hno]
   exact fin (x26.trans h36) (bad (by decide) (by rw[hEe,if_pos hne]))
  ·rcases ht with⟨_,_,rfl,_⟩|⟨hno,rfl,_⟩
   ·exact absurd rfl hne
   ·have hu:¬okN H.used:=fun h=>hno ⟨h,zba.1 he0⟩
    exact fin (x26.trans h36) (bad (by decide) (by rw[hEe,if_neg (by simpa using he0),if_pos (by rw[zmE hu];decide)]))
  ·rcases ht with⟨a1,a2,_,rfl⟩|⟨_,rfl,_⟩
   ·refine fin (x26.trans h36) (bad (by decide) ?_)
    rw[hEe,if_neg (by simpa using he0),if_neg (by have:=zba.2 a1;simpa using this),if_neg (by simpa using hf)]
   ·omega
  ·rcases ht with⟨a1,a2,_,rfl⟩|⟨_,rfl,_⟩
   ·refine⟨rfl,?_⟩
    rw[hEe,if_neg (by simpa using he0),if_neg (by have:=zba.2 a1;simpa using this),if_pos (by simpa using htt)]
   ·omega
  ·rintro w26 ⟨rfl,hz⟩
   rw[hz,if_neg (by simp)] at hE5
   refine⟨i64 (by omega),⟨x26,by omega,by omega,?_,?_⟩,by simp only[];omega⟩
   ·rw[show(k+1).toNat=k.toNat+1 by omega,zc4 (fun x:Ht=>x.name) default (by omega),hHd,hseen];exact Sa
   ·rw[show(k+1).toNat=k.toNat+1 by omega,zc4 (fun x:Ht=>x.name) default (by omega),hHd,hseen];exact hE5
def zxV(x:Nd):Prop:=∀i,i<3->0<=zcg x i/\zcg x i<=9223372036854775807
theorem zxV.rng{x:Nd}(h:zxV x):rng x:=fun i hi=>by have:=h i hi;omega
theorem okN.pos{x:Nd}(h:okN x):zxV x:=fun i hi=>by have:=zpH.1 h i hi;omega
theorem zDN{x:Nd}(hx:zxV x){i:Nat}(hi:i<3):(44:UInt8)∉zgE x i:=fun hm=>by
 have h0:=(hx i hi).1
 unfold zgE at hm
 rcases List.mem_append.1 hm with h|h
 ·exact(zGR hi).2 h
 ·rcases List.mem_cons.1 h with h|h
  ·exact absurd h (by decide)
  ·exact zi5 h0 (by decide) h
theorem zyc{x:Nd}(hx:zxV x)(hne:zbq x≠[45]):Lib.countB (ofL (zbq x)) (one 44)+1=(idx x 3).length/\Lib.splitB (one 44) 0 (Lib.countB (ofL (zbq x)) (one 44)) (ofL (zbq x))=(pcs x 3).map ofL:=by
 have hp:pcs x 3≠[]:=fun h=>hne (by unfold zbq;rw[if_pos h])
 have ht:zbq x=Lib.join (pcs x 3) [44]:=by unfold zbq;rw[if_neg hp]
 rw[ht]
 cases hl:pcs x 3 with
 |nil => exact absurd hl hp
 |cons a l =>
  obtain⟨h1,h2⟩:=zdz (c:=44) l a fun y hy=>by
   rw[<-hl] at hy
   obtain⟨i,hi,rfl⟩:=List.mem_map.1 hy
   exact zDN hx (zpr hi).1
  have hlen:(idx x 3).length=l.length+1:=by
   have:=congrArg List.length hl
   unfold pcs at this
   rw[List.length_map] at this
   simpa using this
  rw[h1,h2]
  exact⟨by omega,rfl⟩
def zA2(s:ByteArray)(a:Nd)(e:Int):Prop:=(e≠0->a=za6)/\(e=0->okN a/\s=ofL (zbq a))/\(∀x,zxV x->s=ofL (zbq x)->(okN x->e=0/\a=x)/\(¬okN x->e=4))/\(e≠0->e≠4->e=3)/\(e=4->∃x,zxV x/\s=ofL (zbq x)/\¬okN x)
abbrev RQE(w:World)(s:ByteArray)(v:Value)(w':World):Prop:=Ext w w'/\∃(a:Nd) (e:Int),v=.tuple #[nv a,.int .i64 e]/\zA2 s a e
theorem zIp{w w':World}{s:ByteArray}(x:Ext w w')(hno:∀x,zxV x->s=ofL (zbq x)->False):RQE w s (.tuple #[nv za6,.int .i64 3]) w' :=
 ⟨x,za6,3,rfl,fun _=>rfl,fun h=>(by cases h),fun x hx hs=>(hno x hx hs).elim,fun _ _=>rfl,fun h=>(by cases h)⟩
theorem zvN{w w10:World}{s:ByteArray}{p2:Option Addr}{b0:Nat}{cur:Nd}(x10:Ext w w10)(hb0:w.heap.size<=b0)(c10:zBF w10 p2 cur)(hp:p2≠none)(hr:zxV cur)(g:GB w)
  (hgood:∀x,zxV x->s=ofL (zbq x)->cur=x):rtail s p2 b0 w10 (RQE w s):=by
 have k0:=c10 0 _ rfl
 have k1:=c10 1 _ rfl
 have k2:=c10 2 _ rfl
 have bx:∀{w':World},zag [b0] [] w10 w'->Ext w w':=fun h=>zav h x10 (by intro d hd;simp at hd;omega)
 refine⟨hp,_,k0,_,k1,_,k2,fun w14 h14=>(zxu cur hr.rng w14 (g.ext (x10.trans h14))).mono fun v w15 ⟨e15,hv⟩=>⟨e15,_,hv,fun hne w17 x17=>zIp (bx x17) fun x hx hs=>?_,fun heq=>⟨hp,_,k0,_,k1,_,k2,fun w20 h20=>(zex cur w20).mono fun v w21 ⟨e21,hv⟩=>⟨e21,_,hv,fun hne w23 x23=>?_,fun hz=>⟨hp,_,k0,_,k1,_,k2,fun w26 x26=>⟨bx x26,cur,0,rfl,fun h=>absurd rfl h,fun _=>⟨zba.1 hz,heq.symm⟩,fun x hx hs=>?_,fun h=>absurd rfl h,fun h=>(by cases h)⟩⟩⟩⟩⟩⟩
 ·exact hne (by rw[hgood x hx hs];exact hs.symm)
 ·have hno:¬okN cur:=fun h=>hne (zba.2 h)
  rw[zmE hno]
  refine⟨bx x23,za6,4,rfl,fun _=>rfl,fun h=>(by cases h),fun x hx hs=>⟨fun h=>absurd (by rw[hgood x hx hs];exact h) hno,fun _=>rfl⟩,fun _ h=>absurd rfl h,fun _=>⟨cur,hr,heq.symm,hno⟩⟩
 ·have hcx:=hgood x hx hs
  exact⟨fun _=>⟨rfl,hcx⟩,fun h=>absurd (by rw[<-hcx];exact zba.1 hz) h⟩
theorem zGD(s:ByteArray)(hs:s.size<4294967281)(w:World)(g:GB w):FnP Tryz.prog zfq #[.string s] w (RQE w s):=by
 refine znS s w _ fun b0 hb0 w1 x1=>zbp (by simp[Value.oneCell']) fun w2 o2 e2=>?_
 have h1:=zaa x1
 have l0:=x1.lt b0 (by simp)
 have o2:=o2 w.heap.size h1.size
 have np:(some (⟨w1.heap.size,0,none⟩:Addr))≠none:=by simp
 have h2:=h1.trans e2
 have rz:zxV za6:=fun i hi=>by
  match i,hi with
  |0,_ => simp[zcg,za6]
  |1,_ => simp[zcg,za6]
  |2,_ => simp[zcg,za6]
 have hpb:∀y,(some (⟨w1.heap.size,0,none⟩:Addr))=some y->y.block≠b0:=fun y hy=>by obtain rfl:=Option.some.inj hy;show w1.heap.size≠b0;omega
 have hpl:∀y,(some (⟨w1.heap.size,0,none⟩:Addr))=some y->y.block<w2.heap.size:=fun y hy=>(o2.lt y hy).2
 generalize hpp:(some (⟨w1.heap.size,0,none⟩:Addr))=p at o2 np hpb hpl ⊢
 refine⟨fun hne w3 x3=>?_,fun heq=>?_⟩
 rotate_left
 ·refine zvN (cur:=za6) h2 hb0 o2.cells np rz g fun x hx hs=>?_
  have hl:zbq x=[45]:=zmR (hs.symm.trans heq)
  by_cases hp:pcs x 3=[]
  ·refine zou ?_
   have:idx x 3=[]:=by simpa[pcs] using hp
   intro i hi
   rw[this]
   exact zjE i hi
  ·exfalso
   unfold zbq at hl
   rw[if_neg hp] at hl
   cases hc:pcs x 3 with
   |nil => exact hp hc
   |cons a l =>
    rw[hc,Lib.join_cons] at hl
    have ha:a∈pcs x 3:=by rw[hc];exact List.mem_cons_self ..
    obtain⟨i,_,rfl⟩:=List.mem_map.1 ha
    have:=congrArg List.length hl
    unfold zgE at this
    have h3:(pn i).data.toList.length=3:=zzH i
    rw[List.length_append,List.length_append,h3] at this
    simp at this
    omega
 have h3:=h2.trans (zaa x3)
 have g3:=g.ext h3
 refine(zeX 44 s hs w3 g3).mono fun v w4 ⟨e4,hv,hc4,_⟩=>⟨e4,_,_,_,hv,?_⟩
 have spn:(some (⟨w3.heap.size,0,none⟩:Addr))≠none:=by simp
 have apsp:zbU (some (⟨w3.heap.size,0,none⟩:Addr)) p:=fun a b ha hb he=>by
  obtain rfl:=Option.some.inj ha
  have h5:=hpl b hb
  have h6:=(zaa x3).size
  have h7:w3.heap.size=b.block:=he
  omega
 generalize (some (⟨w3.heap.size,0,none⟩:Addr))=sp at hc4 spn apsp ⊢
 have slen:=zeK (c:=44) _ s rfl
 have ssz:∀i q,(Lib.splitB (one 44) 0 (Lib.countB s (one 44)) s)[i]?=some q->q.size+i<=s.size:=fun i q h=>zcA _ s i q h
 have sgood:∀x,zxV x->s=ofL (zbq x)->Lib.countB s (one 44)+1=(idx x 3).length/\Lib.splitB (one 44) 0 (Lib.countB s (one 44)) s=(pcs x 3).map ofL:=fun x hx hsx=>by
  have:=zyc hx fun h=>hne (by rw[hsx,h];rfl)
  rwa [<-hsx] at this
 generalize Lib.splitB (one 44) 0 (Lib.countB s (one 44)) s=S at hc4 slen ssz sgood
 generalize Lib.countB s (one 44)=n at slen sgood ⊢
 refine⟨fun k w'=>Ext w w'/\0<=k/\k<=(n+1:Nat)/\zau w' sp (S.map Value.string)/\∃cur,Own w.heap.size w' zim 3 p 1 1 (zww cur)/\zxV cur/\∀x,zxV x->s=ofL (zbq x)->good x cur k.toNat,fun k _=>(n+1-k).toNat,
  ⟨h3.trans e4,by omega,by omega,hc4,za6,(o2.ext (zaa x3)).ext e4,rz,fun x _ _=>zjE⟩,?_⟩
 rintro k w10 ⟨x10,hk0,hk1,c10,cur,o10,hr,hgd⟩
 refine⟨fun hlt=>?_,fun hge=>?_⟩
 rotate_left
 ·refine zvN (cur:=cur) x10 hb0 o10.cells np hr g fun x hx hsx=>zou ?_
  have:=hgd x hx hsx
  rwa [show k.toNat=(idx x 3).length by have:=(sgood x hx hsx).1;omega] at this
 obtain⟨pc,hpc⟩:∃pc,S[k.toNat]?=some pc:=⟨_,List.getElem?_eq_getElem (by omega)⟩
 have hcell:Go.Sx.cell w10 (pIdx sp k 1) 0=some (.string pc):=by
  rw[zae]
  exact c10 _ _ (by simp[hpc])
 have hpsz:=ssz _ _ hpc
 refine⟨spn,hk0,hlt,_,hcell,fun w12 h12=>(zwA 61 pc (by omega) w12 ((g.ext x10).ext h12)).mono fun v w13 ⟨e13,hv⟩=>⟨e13,_,_,_,hv,fun w17 x17=>?_⟩⟩
 have hx17:=x10.trans (zaa x17)
 have hcsz:(Lib.cut pc.data.toList [61]).2.1.length<=pc.size:=by have:=zhF pc.data.toList 61;rwa [zhC] at this
 have hthis:∀x,zxV x->s=ofL (zbq x)->∃i,(idx x 3)[k.toNat]?=some i/\i<3/\0<zcg x i/\ofL (Lib.cut pc.data.toList [61]).1=pn i/\Lib.parseIntB 64 (ofL (Lib.cut pc.data.toList [61]).2.1).data.toList=.ok (zcg x i):=fun x hx hsx=>by
  have hS:=(sgood x hx hsx).2
  rw[hS,List.getElem?_map] at hpc
  unfold pcs at hpc
  rw[List.getElem?_map,Option.map_map,Option.map_eq_some_iff] at hpc
  obtain⟨i,hi,rfl⟩:=hpc
  have hm:=zpr (List.mem_of_getElem? hi)
  have hb:=hx i hm.1
  have hcut:Lib.cut (ofL (zgE x i)).data.toList [61]=((pn i).data.toList,Lib.itoa (zcg x i),true):=zwX _ (zGR hm.1).1
  have hcut':Lib.cut ((ofL∘zgE x) i).data.toList [61]=((pn i).data.toList,Lib.itoa (zcg x i),true):=hcut
  rw[hcut']
  exact⟨i,hi,hm.1,by omega,zcb _,zfG hb.1 hb.2⟩
 generalize (ofL (Lib.cut pc.data.toList [61]).1)=name at hthis ⊢
 have hnsz:(ofL (Lib.cut pc.data.toList [61]).2.1).size<=281474976710656:=by rw[zas];omega
 generalize (ofL (Lib.cut pc.data.toList [61]).2.1)=num at hthis hnsz ⊢
 refine(zjA num hnsz w17 (g.ext hx17)).mono fun v w18 ⟨e18,vn,ev,hv,hcase⟩=>⟨e18,vn,ev,hv,fun w21 h21=>?_⟩
 have hx18:=hx17.trans e18
 refine zi8 (by kernel_rfl) (hcase.elim (fun h=>.inl h.1) fun h=>.inr h.1) fun t ht=>⟨Ext.refl _,t,rfl,fun hbad w24 x24=>zIp (zav x24 hx18 (by intro d hd;simp at hd;omega)) fun x hx hsx=>?_,fun hok w24 x24=>?_⟩
 ·exfalso
  obtain⟨i,_,_,hpos,_,hpar⟩:=hthis x hx hsx
  rcases hcase with⟨h1,h2⟩|⟨_,h2⟩
  ·rw[hpar] at h2
   injection h2 with h2
   rcases hbad with h|h
   ·rw[ht.2 h1] at h;cases h
   ·omega
  ·exact h2 _ hpar
 have hx24:=hx18.trans (zaa x24)
 obtain⟨hev,hpar⟩:ev=.nilIface/\Lib.parseIntB 64 num.data.toList=.ok vn:=by
  rcases hcase with h|⟨⟨a,b,h⟩,_⟩
  ·exact h
  ·have:=ht.1 hok.1
   rw[h] at this;cases this
 have o24:Own w.heap.size w24 zim 3 p 1 1 (zww cur):=(((o10.ext (zaa x17)).ext e18).ext (zaa x24))
 have c24:zau w24 sp (S.map Value.string):=(((c10.ext (zaa x17)).ext e18).ext (zaa x24))
 refine(ztm p np w24).mono fun v w25 ⟨e25,q,hv,hq,hqb⟩=>⟨e25,q,3,3,hv,?_⟩
 have apq:zbU q p:=fun a b ha hb he=>by
  have h5:=hqb a ha
  have h6:=(o24.lt b hb).2
  omega
 refine⟨fun k30 w'=>Ext w w'/\0<=k30/\k30<=3/\zau w' sp (S.map Value.string)/\zau w' q (zvF p)/\Own w.heap.size w' zim 3 p 1 1 (zww (upN cur name vn k30.toNat)),fun k30 _=>(3-k30).toNat,
  ⟨hx24.trans e25,by omega,by omega,c24.ext e25,hq,by rw[show(0:Int).toNat=0 from rfl,zAb];exact o24.ext e25⟩,?_⟩
 rintro k30 w31 ⟨x31,hj0,hj3,c31,q31,o31⟩
 refine⟨fun hjlt=>?_,fun hjge=>?_⟩
 ·obtain⟨d1,d2⟩:=ztl q31 hj0 hjlt
  have hj:k30.toNat<3:=by omega
  refine⟨fun hq=>zaj d1 (zah.2 hq),hj0,hjlt,zaj d1,_,d1,_,d2,fun b34 hb34=>⟨fun heq=>⟨fun h=>np (zdk.1 h),?_⟩,fun hne=>⟨i64 (by omega),⟨x31,by omega,by omega,c31,q31,?_⟩,by simp only[];omega⟩⟩⟩
  ·refine zct o31 (by simpa using hj) rfl (fun b hb y hy=>?_) fun w35 o35 g35=>⟨i64 (by omega),⟨g35.ext x31 o31,by omega,by omega,c31.grew apsp g35,q31.grew apq g35,?_⟩,by simp only[];omega⟩
   ·simp only[List.mem_cons,List.mem_singleton,List.mem_nil_iff,or_false] at hb
    rcases hb with rfl|rfl
    ·exact hpb y hy
    ·have:=(o31.lt y hy).2;omega
   ·rw[show(k30+1).toNat=k30.toNat+1 by omega,<-zEE hj heq]
    exact o35
  ·rw[show(k30+1).toNat=k30.toNat+1 by omega,zAa hj hne]
   exact o31
 ·obtain rfl:k30=3:=by omega
  refine⟨i64 (by omega),⟨x31,by omega,by omega,c31,upN cur name vn 3,o31,fun i hi=>?_,fun x hx hsx=>?_⟩,by simp only[];omega⟩
  ·rw[zED hi]
   split
   ·have:=zvC hpar hok.2
    omega
   ·exact hr i hi
  ·obtain⟨i,hi,hi3,_,hname,hp2⟩:=hthis x hx hsx
   rw[hpar] at hp2
   injection hp2 with hp2
   rw[hp2,hname,show(k+1).toNat=k.toNat+1 by omega]
   exact zuD (hgd x hx hsx) hi
theorem zCr(s:List UInt8)(c:UInt8):(Lib.cut s [c]).1.length<=s.length:=by
 unfold Lib.cut
 split
 ·simp only[List.length_take];omega
 ·exact Nat.le_refl _
def zE1(x:ByteArray):List UInt8×List UInt8×Bool:=Lib.cut x.data.toList [61]
def zLe(x:ByteArray):Lb:=⟨ofL (zE1 x).1,ofL (zE1 x).2.1⟩
def zap(c:UInt8)(s:ByteArray):List ByteArray:=Lib.splitB (one c) 0 (Lib.countB s (one c)) s
theorem zjJ(c:UInt8)(s:ByteArray):(zap c s).length=Lib.countB s (one c)+1:=zeK _ s rfl
theorem zhX{c:UInt8}{s:ByteArray}{i:Nat}{q:ByteArray}(h:(zap c s)[i]?=some q):q.size+i<=s.size:=zcA _ s i q h
def zE5(s:ByteArray):Option (List Lb):=if s=⟨#[45]⟩ then some [] else if (zap 44 s).all (fun x=>(zE1 x).2.2) then some ((zap 44 s).map zLe) else none
theorem zGy(s:ByteArray)(hs:s.size<4294967281)(w:World)(g:GB w):FnP Tryz.prog zhl #[.string s] w fun v w'=>Ext w w'/\∃(p:Option Addr) (n c:Nat) (ev:Value),v=.tuple #[.slice p n c,ev] /\
  ((zE5 s=none/\EV ev 3)\/(∃l,zE5 s=some l/\EV ev 0/\n=l.length/\Own w.heap.size w' zmr 2 p n c (l.flatMap zsy)/\l.length<=4294967281/\∀x∈l,x.key.size<=4294967281/\x.val.size<=4294967281)):=by
 refine zqU s w _ ⟨fun h w0 h0=>⟨h0,none,0,0,_,rfl,.inr ⟨[],by unfold zE5;rw[if_pos h],ev0,rfl,Own.nil,by simp,by simp⟩⟩,fun hne w0 h0=>?_⟩
 refine(zeX 44 s hs w0 (g.ext h0)).mono fun v w1 ⟨e1,hv,hc1,hlt1⟩=>⟨e1,_,_,_,hv,?_⟩
 have hlen:=zjJ 44 s
 have hsz:=fun i q=>@zhX 44 s i q
 have hF:zE5 s=if (zap 44 s).all (fun x=>(zE1 x).2.2) then some ((zap 44 s).map zLe) else none:=by unfold zE5;rw[if_neg hne]
 rw[hF]
 change zau w1 _ ((zap 44 s).map Value.string) at hc1
 have hcnt:Lib.countB s (one 44)+1=(zap 44 s).length:=hlen.symm
 rw[hcnt]
 have spn:(some (⟨w0.heap.size,0,none⟩:Addr))≠none:=by simp
 generalize (some (⟨w0.heap.size,0,none⟩:Addr))=sp at hc1 spn ⊢
 have hlen2:(zap 44 s).length<=4294967281:=by
  obtain⟨q,hq⟩:∃q,(zap 44 s)[(zap 44 s).length-1]?=some q:=⟨_,List.getElem?_eq_getElem (by omega)⟩
  have:=hsz _ _ hq
  omega
 generalize zap 44 s=S at hc1 hsz hlen2 ⊢
 have x1:=h0.trans e1
 have cb:∀x:ByteArray,(ofL (zE1 x).1).size<=x.size/\(ofL (zE1 x).2.1).size<=x.size:=fun x=>by
  have h1:=zhF x.data.toList 61
  have h2:=zCr x.data.toList 61
  rw[zhC] at h1 h2
  exact⟨by rw[zas];exact h2,by rw[zas];exact h1⟩
 refine⟨fun p n c k w'=>Ext w1 w'/\0<=k/\k<=S.length/\n=k/\Own w1.heap.size w' zmr 2 p n c (((S.take k.toNat).map zLe).flatMap zsy)/\∀x∈S.take k.toNat,(zE1 x).2.2=true,fun _ _ _ k _=>(S.length-k).toNat,⟨Ext.refl _,by omega,by omega,by simp,Own.nil,by simp⟩,?_⟩
 rintro p n c k w8 ⟨x8,hk0,hk1,hnk,o8,hall⟩
 refine⟨fun hlt=>?_,fun hge w9 h9=>?_⟩
 ·obtain⟨q,hq⟩:∃q,S[k.toNat]?=some q:=⟨_,List.getElem?_eq_getElem (by omega)⟩
  have hqs:=hsz _ _ hq
  have hcell:Go.Sx.cell w8 (pIdx sp k 1) 0=some (.string q):=by
   rw[zae]
   refine(hc1.ext x8) _ _ ?_
   simp[hq]
  refine⟨spn,hk0,hlt,_,hcell,fun w10 h10=>(zwA 61 q (by omega) w10 ((g.ext (x1.trans x8)).ext h10)).mono fun v w11 ⟨e11,hv⟩=>⟨e11,_,_,_,hv,fun hf w15 h15=>?_,fun ht=>?_⟩⟩
  ·refine zu4 ⟨Ext.refl _,_,rfl,rfl,fun w18 h18=>zAU ⟨Ext.refl _,_,rfl,fun w21 h21=>⟨(((x1.trans x8).trans h15).trans h18).trans h21,none,0,0,_,rfl,.inl ⟨?_,zAE (by decide)⟩⟩⟩⟩
   rw[if_neg]
   intro h
   have:=List.all_eq_true.1 h q (List.mem_of_getElem? hq)
   unfold zE1 at this
   rw[hf] at this;cases this
  ·refine push (v:=.agg #[.string (zLe q).key,.string (zLe q).val]) zlj (by omega) o8 x8.size rfl (by intro u hu;simp[Value.cells] at hu;rcases hu with rfl|rfl<;>rfl) (by omega) (by omega) (by omega) fun p' c' w' o' g' np=>⟨i64 (by omega),⟨g'.ext x8 o8,by omega,by omega,by omega,?_,?_⟩,by simp only[];omega⟩
   ·rw[show(k+1).toNat=k.toNat+1 by omega,List.take_add_one,hq]
    simpa[Value.cells] using o'
   ·rw[show(k+1).toNat=k.toNat+1 by omega,List.take_add_one,hq]
    intro x hx
    rcases List.mem_append.1 hx with hx|hx
    ·exact hall x hx
    ·simp at hx;subst hx;exact ht
 ·have hk:k=S.length:=by omega
  subst hk
  have htake:S.take ((S.length:Int)).toNat=S:=by simp
  rw[htake] at o8 hall
  have hx9:=(x1.trans x8).trans h9
  refine⟨hx9,p,n,c,_,rfl,.inr ⟨S.map zLe,?_,ev0,by simp;omega,(o8.ext h9).weak (by have:=x1.size;omega),by simpa using hlen2,fun x hx=>?_⟩⟩
  ·rw[if_pos (List.all_eq_true.2 fun x hx=>hall x hx)]
  ·obtain⟨y,hy,rfl⟩:=List.mem_map.1 hx
   obtain⟨i,hi⟩:=List.mem_iff_getElem?.1 hy
   have:=hsz i y hi
   have:=cb y
   show(ofL (zE1 y).1).size<=_/\(ofL (zE1 y).2.1).size<=_
   omega
theorem zyP{B:Nat}{w:World}{p q:Option Addr}{n c d b7:Nat}{xs:List Value}{m:Hm}(o:Own B w zdO 8 p n c xs)(hB:B<=w.heap.size)(hl:zau w q (zjD m))(hq:q≠none)(hb7:b7<w.heap.size)(hns:∀x,p=some x->x.block≠b7)(hn:n<=1000)
  {J:Option Addr->Nat->Nat->World->Prop} (hk:∀p' c' w',Own B w' zdO 8 p' (n+1) c' (xs++zjD m)->zco w w' p p'->J p' (n+1) c' w') :
  Run Tryz.prog (.append #[34,34] 34 [.slice p n c,.slice q 1 d]) w fun v w'=>zbK [b7] w w'/\∃q':Option Addr,∃m':Nat,∃d':Nat,v=.slice q' m' d'/\J q' m' d' w' :=
 zkR zga (by omega) o hB hq (news:=zjD m) (by simp) hl (zy6 m) (by omega) (by omega) fun p' c' w4 h2 h3 h4=>⟨fun b hb=>by
  simp at hb;subst hb
  refine h3.by_.block b hb7 fun he=>?_
  cases p with
  |none => cases he
  |some y => simp[blk] at he;exact hns y rfl he.symm,_,_,_,rfl,hk p' c' w4 h2 h3⟩
def zoA(name:ByteArray)(l:List Lb)(nd:Nd):Ht:=⟨name,l,nd,za6⟩
def zxi(name w2 w3:ByteArray)(σ:DS)(c:Int)(s:ByteArray)(σ':DS):Prop:=∃nd e,zA2 w2 nd e/\((e≠0/\c=e/\σ'=σ)\/(e=0/\match zE5 w3 with
 |none => c=3/\σ'=σ
 |some l => match σ with
  |.opn _ => c=9/\σ'=σ
  |.shut L => c=zln (L++[zoA name l nd])/\((c≠0/\σ'=σ)\/(c=0/\s=⟨#[111,107]⟩/\σ'=.shut (L++[zoA name l nd])))))
section
variable {O:Nat->Prop} {B db:Nat} {w:World} {K:Kt}
theorem host_c(x:KX O B w db K)(g:GD w)(hBw:B<=w.heap.size)(wp:Option Addr)(wc:Nat)(ws:List ByteArray)(h4:ws.length=4)
  (hsz:∀x∈ws,x.size<4294967281) (hw:zau w wp (ws.map Value.string)) :
  FnP Tryz.prog zeR #[.pointer (ptr db),.slice wp ws.length wc] w (CR O B db w K fun s c σ'=>zxi (ws.getD 1 ⟨#[]⟩) (ws.getD 2 ⟨#[]⟩) (ws.getD 3 ⟨#[]⟩) K.st c s σ'):=by
 have ne:=zaB db
 obtain⟨s0,s1,s2,s3,rfl⟩:∃a b c d,ws=[a,b,c,d]:=by
  match ws,h4 with
  |[a,b,c,d],_ => exact⟨a,b,c,d,rfl⟩
 have cell_:∀{w':World}(i:Nat)(q:ByteArray),Ext w w'->([s0,s1,s2,s3]:List ByteArray)[i]?=some q->Go.Sx.cell w' (pIdx wp (i:Int) 1) 0=some (.string q):=fun {w'} i q hx hq=>by
  rw[zae]
  have:=hw.ext hx i (.string q) (by rw[List.getElem?_map,hq];rfl)
  simpa using this
 have np:wp≠none:=fun h=>zaj (cell_ 1 s1 (Ext.refl w) rfl) (zah.2 h)
 have z1:=hsz s1 (by simp)
 have z2:=hsz s2 (by simp)
 have z3:=hsz s3 (by simp)
 show FnP Tryz.prog zeR #[.pointer (ptr db),.slice wp 4 wc] w (CR O B db w K fun s c σ'=>zxi s1 s2 s3 K.st c s σ')
 refine zmX (ptr db) wp 4 wc w _ ⟨np,by omega,by omega,_,cell_ 2 s2 (Ext.refl w) rfl,fun w1 x1=>(zGD s2 z2 w1 (g.gb.ext x1)).mono fun v w2 ⟨e2,nd,e,hv,hrd⟩=>⟨e2,nd.c,nd.m,nd.g,e,hv,fun b7 hb7=>⟨fun hne w8 x8=>zu4 ⟨Ext.refl _,_,rfl,rfl,fun w11 x11=>zAU ⟨Ext.refl _,_,rfl,fun w14 h14=>?_⟩⟩,fun hz=>⟨np,by omega,by omega,_,cell_ 3 s3 (Ext.refl w) rfl,fun w9 x9=>?_⟩⟩⟩⟩
 ·exact zcE x (((zaa x8).trans (zaa x11)).trans h14) (zAE hne) ⟨nd,e,hrd,.inl ⟨hne,rfl,rfl⟩⟩
 have h9:=zaa x9
 have hb9:=x9.lt b7 (by simp)
 refine(zGy s3 z3 w9 (g.gb.ext h9)).mono fun v w10 ⟨e10,lp,ln,lc,ev,hv,hor⟩=>⟨e10,lp,ln,lc,ev,hv,fun w15 h15=>?_⟩
 have h10:=h9.trans e10
 rcases hor with⟨hno,hE⟩|⟨l,hl,hE,rfl,oL,hll,hls⟩
 ·refine neE hE fun b hb=>⟨Ext.refl _,b,rfl,fun hbt w18 h18=>?_,fun hbf=>absurd (hb.1 hbf) (by decide)⟩
  exact zcE x (h10.trans h18) hE ⟨nd,e,hrd,.inr ⟨hz,by rw[hno];exact⟨rfl,rfl⟩⟩⟩
 refine neE hE fun b hb=>⟨Ext.refl _,b,rfl,fun hbt=>absurd (hb.2 rfl) (by rw[hbt];decide),fun _=>⟨ne,ne,?_⟩⟩
 have y10:=x.ext h10
 rcases K.cases with hK|⟨fb,P,F,hK⟩
 rotate_left
 ·refine⟨_,y10.fbp hK,fun _ w19 x19=>zu4 ⟨Ext.refl _,_,rfl,fun w22 h22=>?_⟩,fun h=>absurd h (zaB fb)⟩
  refine zcE x ((h10.trans (zaa x19)).trans h22) (zF4 (c:=9) (by decide)) ⟨nd,e,hrd,.inr ⟨hz,?_⟩⟩
  rw[hl,Kt.st_opn hK]
  exact⟨rfl,rfl⟩
 obtain⟨hn,⟨M,hM,hst⟩,hok,hO⟩:=x.shut hK
 have h30:=hok.1
 have hMl:M.length=K.L.length:=by rw[<-hM];simp
 refine⟨none,y10.nofp hK,fun h=>absurd rfl h,fun _=>?_⟩
 have hm:zjD ⟨zoA s1 l nd,lp,lc⟩=[.string s1,.slice lp l.length lc,.int .i64 nd.c,.int .i64 nd.m,.int .i64 nd.g,.int .i64 0,.int .i64 0,.int .i64 0]:=rfl
 generalize hmm:(⟨zoA s1 l nd,lp,lc⟩:Hm)=m at hm
 have hmv:(Value.agg #[.string s1,.slice lp l.length lc,.int .i64 nd.c,.int .i64 nd.m,.int .i64 nd.g,.int .i64 0,.int .i64 0,.int .i64 0]).cells.toList=zjD m:=by rw[hm];rfl
 have lit:∀{w26:World}{R:Value->World->Prop},(∀q w27,q≠none->zau w27 q (zjD m)->Ext w26 w27->R (.slice q 1 1) w27)->Run Tryz.prog (.buildSlice 34 1 [(0,(.agg #[.string s1,.slice lp l.length lc,.int .i64 nd.c,.int .i64 nd.m,.int .i64 nd.g,.int .i64 0,.int .i64 0,.int .i64 0]))]) w26 R:=fun {w26 R} h =>
  zcG zga [.agg #[.string s1,.slice lp l.length lc,.int .i64 nd.c,.int .i64 nd.m,.int .i64 nd.g,.int .i64 0,.int .i64 0,.int .i64 0]] rfl rfl (fun u hu=>by simp at hu;subst hu;rfl) (by omega) (by omega) fun w27 o27 e27=>h _ w27 (by simp) (by
   have:=(o27 w26.heap.size (Nat.le_refl _)).cells
   simp only[List.flatMap_cons,List.flatMap_nil,List.append_nil,hmv] at this
   exact this) e27
 have rec_:∀{w':World},Ext w w'->zfQ 8 zjD w' K.hp M:=fun e=>(hst _ (zac e)).1
 have clone:∀{w26:World},Ext w w26->FnP Tryz.prog zal #[.slice K.hp K.hn K.hc] w26 fun v w'=>Ext w26 w'/\∃q' c',v=.slice q' M.length c'/\Own w26.heap.size w' zdO 8 q' M.length c' (M.flatMap zjD):=fun e=>by
  rw[hn,<-hMl]
  exact zsf K.hp K.hc M (by omega) _ (rec_ e)
 have c10:Go.Sx.cell w10 (pAdd (ptr db) 0) 0=some (.slice K.hp K.hn K.hc):=y10.cell (i:=0) rfl
 refine⟨fun all n c w21=>Ext w10 w21/\n=M.length+1/\Own w10.heap.size w21 zdO 8 all n c (M.flatMap zjD++zjD m),⟨ne,ne,_,_,_,c10,np,by omega,by omega,_,cell_ 1 s1 h10 rfl,fun w26 x26=>?_,fun w26 x26=>?_⟩,?_⟩
 ·have h26:=zaa x26
  have hb26:=x26.lt b7 (by simp)
  refine(clone (h10.trans h26)).mono fun v w27 ⟨e27,q',c',hv,o27⟩=>⟨e27,q',M.length,c',hv,fun w31 x31=>lit fun q w32 hq hcq e32=>⟨e32,q,1,1,rfl,fun w36 x36=>?_⟩⟩
  have h36:=(((h26.trans e27).trans (zaa x31)).trans e32).trans (zaa x36)
  have o36:=(((o27.ext (zaa x31)).ext e32).ext (zaa x36)).weak h26.size
  refine zyP o36 h36.size (hcq.ext (zaa x36)) hq (x36.lt b7 (by simp)) (fun a ha he=>?_) (by omega) fun p' c'' w' o' g'=>⟨g'.ext h36 o36,rfl,o'⟩
  have:=(o27.lt a ha).1
  omega
 ·have h26:=zaa x26
  have hb26:=x26.lt b7 (by simp)
  refine lit fun q w27 hq hcq e27=>⟨e27,q,1,1,rfl,fun w31 x31=>?_⟩
  have h31:=(h26.trans e27).trans (zaa x31)
  refine(clone (h10.trans h31)).mono fun v w32 ⟨e32,q',c',hv,o32⟩=>⟨e32,q',M.length,c',hv,fun w36 x36=>?_⟩
  have h36:=(h31.trans e32).trans (zaa x36)
  have o36:=(o32.ext (zaa x36)).weak h31.size
  refine zyP o36 h36.size (((hcq.ext (zaa x31)).ext e32).ext (zaa x36)) hq (x36.lt b7 (by simp)) (fun a ha he=>?_) (by omega) fun p' c'' w' o' g'=>⟨g'.ext h36 o36,rfl,o'⟩
  have:=(o32.lt a ha).1
  have:=x31.lt b7 (by simp)
  omega
 rintro all n c w21 ⟨x21,rfl,oA⟩ w22 h22
 have h21:=h10.trans x21
 have hflat:M.flatMap zjD++zjD m=(M++[m]).flatMap zjD:=by simp
 rw[hflat] at oA
 have hL':(M++[m]).map (·.h)=K.L++[zoA s1 l nd]:=by rw[List.map_append,hM,<-hmm];rfl
 have hAl:∀a,all=some a->w10.heap.size<=a.block:=fun a ha=>(oA.lt a ha).1
 have hdb:db<w.heap.size:=(x.slot.lt _ rfl).2
 have keep:∀{w1 w2:World}{S:Nat->Prop},Ext w21 w1->Fr S w1 w2->(∀b,S b->dO O db b)->zfQ 8 zjD w2 all (M++[m])/\∀m'∈M++[m],Lbs w2 m'.q m'.h.labels:=fun {w1 w2 S} e1 f hS=>by
  have hSlt:∀b,S b->b<w.heap.size:=fun b hb=>by
   rcases hS b hb with h|h
   ·exact x.olt b h
   ·rw[h];exact hdb
  refine⟨((oA.ext e1).fr f fun a ha hs=>?_).recs fun _ _=>rfl,fun m' hm'=>?_⟩
  ·have:=hAl a ha;have:=hSlt _ hs;have:=h10.size;omega
  ·rcases List.mem_append.1 hm' with hm'|hm'
   ·exact(hst w2 ((zac (h21.trans e1)).tr (f.mono hS))).2 m' hm'
   ·simp at hm';subst hm'
    rw[<-hmm]
    refine(((oL.ext x21).ext e1).fr f fun a ha hs=>?_).recs fun _ _=>rfl
    have:=(oL.lt a ha).1;have:=hSlt _ hs;have:=h9.size;omega
 have hsH:ziz w22 all (K.L++[zoA s1 l nd]):=by
  rw[<-hL']
  obtain⟨q1,q2⟩:=keep h22 (Fr.refl (fun _=>False) w22) (fun _ h=>h.elim)
  exact hs_of q1 q2
 have hlen':M.length+1=(K.L++[zoA s1 l nd]).length:=by simp[hMl]
 have hOk':∀h∈K.L++[zoA s1 l nd],zry h/\h.used=za6:=fun h hh=>by
  rcases List.mem_append.1 hh with hh|hh
  ·exact hO h hh
  ·simp at hh;subst hh
   refine⟨⟨by show s1.size<=_;omega,by show l.length<=_;omega,fun y hy=>?_⟩,rfl⟩
   have:=hls y hy
   omega
 rw[hlen']
 refine(zuE all c (K.L++[zoA s1 l nd]) (by rw[<-hlen'];omega) (fun h hh=>(hOk' h hh).1) w22 hsH).mono fun v w23 ⟨e23,hv⟩=>⟨e23,_,hv,fun hne w25 x25=>zu4 ⟨Ext.refl _,_,rfl,fun w28 h28=>?_⟩,fun hz2=>⟨ne,ne,?_⟩⟩
 ·refine zcE x ((h21.trans (zaa x25)).trans h28) (zF4 hne) ⟨nd,e,hrd,.inr ⟨hz,?_⟩⟩
  rw[hl,Kt.st_shut hK]
  exact⟨rfl,.inl ⟨hne,rfl⟩⟩
 have y21:=x.ext h21
 refine zct (off:=0) y21.slot (by simp) rfl (fun b hb y hy=>by simp at hb;subst hb;cases hy;show db≠b;omega) fun w25 o25 g25 w26 h26=>?_
 have f25:Fr (fun b=>b=db) w21 w25:=zaP g25 fun a ha=>by cases ha;rfl
 refine⟨_,_,0,⟨all,(K.L++[zoA s1 l nd]).length,c,K.L++[zoA s1 l nd],none⟩,rfl,ev0,⟨?_,fun _=>⟨rfl,⟨M++[m],hL',fun w'' k=>?_⟩,zzb.1 hz2,hOk'⟩,fun fb P F e=>(by cases e),fun b hb=>?_,x.odis⟩,?_,fun b hb=>?_,⟨nd,e,hrd,.inr ⟨hz,?_⟩⟩⟩
 ·have:dcs ⟨all,(K.L++[zoA s1 l nd]).length,c,K.L++[zoA s1 l nd],none⟩=(dcs K).set 0 (.slice all (K.L++[zoA s1 l nd]).length c):=by simp[dcs,Kt.fp,hK]
  rw[this];exact o25.ext h26
 ·exact keep (Ext.refl _) ((f25.mono fun b hb=>.inr hb).tr ((zac h26).tr k)) (fun b hb=>hb)
 ·have:=x.olt b hb;have:=h21.size;have:=f25.size;have:=h26.size;omega
 ·exact((zac h21).tr (f25.mono fun b hb=>.inl hb)).tr (zac h26)
 ·rcases hb with rfl|⟨fb',P1,F1,e,h⟩
  ·exact .inl (.inl rfl)
  ·cases e
 ·rw[hl,Kt.st_shut hK]
  exact⟨hz2.symm,.inr ⟨rfl,rfl,rfl⟩⟩
end
def sig:Nat->Nat×Bool
 |3 => (4,false)
 |7 => (1,false)
 |11 => (7,false)
 |15 => (6,true)
 |22 => (2,false)
 |26 => (1,true)
 |33 => (2,false)
 |40 => (2,false)
 |47 => (2,false)
 |51 => (2,false)
 |_ => (2,true)
theorem pv_cmd{db pb:Addr}{v:Value}{w:World}:∀x∈KL,PV db pb x.2.2 v w->∃f bd cap,v=.agg #[.int .i64 (sig x.2.2).1,.bool (sig x.2.2).2,.func f bd cap]:=by
 intro x hx
 simp only[KL,List.mem_cons,List.not_mem_nil,or_false] at hx
 rcases hx with rfl|rfl|rfl|rfl|rfl|rfl|rfl|rfl|rfl|rfl|rfl <;>
  (rintro⟨f,bd,cap,e,_⟩;exact⟨f,bd,cap,e⟩)
def zhE(k:ByteArray):Option Nat:=(KL.find? (fun x=>decide (x.1=k))).map (·.2.2)
def zt0(db:Nat)(w:World)(k:ByteArray)(t0:Int)(t1:Bool)(t2:Value)(ok:Bool):Prop :=
 (ok=false/\zhE k=none)\/(ok=true/\∃(pb:Addr) (b:Nat),zhE k=some b/\w.cell? pb=some (.pointer (ptr db))/\PV ⟨db,0,none⟩ pb b (.agg #[.int .i64 t0,.bool t1,t2]) w/\t0=(sig b).1/\t1=(sig b).2/\t2.oneCell'=true)
theorem zt0.ext{db:Nat}{w w':World}{k:ByteArray}{t0:Int}{t1:Bool}{t2:Value}{ok:Bool}(h:zt0 db w k t0 t1 t2 ok)(e:Ext w w'):zt0 db w' k t0 t1 t2 ok:=by
 rcases h with h|⟨h1,pb,b,h2,h3,h4,h5⟩
 ·exact .inl h
 ·exact .inr ⟨h1,pb,b,h2,(Cst.of_ext e).cell h3,zj2 _ _ _ _ _ _ (Cst.of_ext e) h4,h5⟩
def zBS(db:Nat)(w:World)(v:Value):Prop:=∃pb mb M,v=.map (some mb)/\w.cell? pb=some (.pointer (ptr db))/\zdc Value.string w mb M/\∀k,Tab ⟨db,0,none⟩ pb w k (ziC M k)
theorem zBS.ext{db:Nat}{w w':World}{v:Value}(h:zBS db w v)(e:Ext w w'):zBS db w' v:=by
 obtain⟨pb,mb,M,h1,h2,h3,h4⟩:=h
 refine⟨pb,mb,M,h1,(Cst.of_ext e).cell h2,h3.ext e,fun k=>?_⟩
 have:=h4 k
 unfold Tab at this ⊢
 split at this
 ·obtain⟨v,q1,q2⟩:=this
  exact⟨v,q1,zj2 _ _ _ _ _ _ (Cst.of_ext e) q2⟩
 ·exact this
theorem zKW:(Tryz.prog.info? 252).map (·.zero)=some (some (.agg #[.int .i64 0,.bool false,.nilFunc])):=by kernel_rfl
theorem zpy{db:Nat}{w:World}{v:Value}(h:zBS db w v)(k:ByteArray){K:Value->World->Prop}
  (hk:∀t0 t1 t2 ok,zt0 db w k t0 t1 t2 ok->t2.oneCell'=true->K (.tuple #[.agg #[.int .i64 t0,.bool t1,t2],.bool ok]) w):Run Tryz.prog (.lookup 254 v (.string k) true) w K:=by
 obtain⟨pb,mb,M,rfl,h2,h3,h4⟩:=h
 obtain⟨i,hi,hz⟩:∃i,Tryz.prog.info? 252=some i/\i.zero=some (.agg #[.int .i64 0,.bool false,.nilFunc]):=by
  obtain⟨i,h1,h2⟩:=Option.map_eq_some_iff.1 zKW
  exact⟨i,h1,h2⟩
 refine znf (enc:=Value.string) kstr zIw hi hz h3 ?_
 have ht:=h4 k
 unfold Tab at ht
 split at ht
 ·rename_i y j b he
  obtain⟨u,hu,hpv⟩:=ht
  rw[hu]
  obtain⟨f,bd,cap,rfl⟩:=pv_cmd _ (List.mem_of_find?_eq_some he) hpv
  exact hk _ _ _ true (.inr ⟨rfl,pb,b,by unfold zhE;rw[he];rfl,h2,hpv,rfl,rfl,rfl⟩) rfl
 ·rename_i he
  rw[ht]
  exact hk 0 false .nilFunc false (.inl ⟨rfl,by unfold zhE;rw[he];rfl⟩) rfl
def DS.isShut:DS->Bool
 |.shut _ => true
 |.opn _ => false
def doW(R:Nat->List ByteArray->DS->Int->ByteArray->DS->Prop)(ws:List ByteArray)(σ:DS)(c:Int)(s:ByteArray)(σ':DS):Prop :=
 match zhE (ws.getD 0 ⟨#[]⟩) with
 |none => c=1/\σ'=σ
 |some b => if ws.length≠(sig b).1 then c=3/\σ'=σ else if (sig b).2=true/\σ.isShut=true then c=9/\σ'=σ else R b ws σ c s σ'
section
variable {O:Nat->Prop} {B db:Nat} {w:World} {K:Kt}
theorem do_k(R:Nat->List ByteArray->DS->Int->ByteArray->DS->Prop)(x:KX O B w db K)(g:GD w)(line:ByteArray)(hs:line.size<4294967281)
  (hcall:∀(w1:World)(pb wp:Addr)(b:Nat)(wc:Nat)(t2:Value),Ext w w1->zhE ((zap 32 line).getD 0 ⟨#[]⟩)=some b->w1.cell? pb=some (.pointer (ptr db))->PV ⟨db,0,none⟩ pb b (.agg #[.int .i64 (sig b).1,.bool (sig b).2,t2]) w1 ->
   (zap 32 line).length=(sig b).1->(zap 32 line).length<=wc->((sig b).2=true->K.st.isShut=false)->zau w1 (some wp) ((zap 32 line).map Value.string)->(∀x∈zap 32 line,x.size<4294967281) ->
   zIE Tryz.prog t2 [.slice (some wp) (zap 32 line).length wc] w1 (CR O B db w1 K fun s c σ'=>R b (zap 32 line) K.st c s σ')) :
  FnP Tryz.prog zgm #[.pointer (ptr db),.string line] w (CR O B db w K fun s c σ'=>doW R (zap 32 line) K.st c s σ'):=by
 have ne:=zaB db
 refine zpL (ptr db) line w _ fun w0 x0=>(zeX 32 line hs w0 (g.gb.ext x0)).mono fun v w1 ⟨e1,hv,hc1,hlt1⟩=>⟨e1,_,_,_,hv,?_⟩
 have hlen:Lib.countB line (one 32)+1=(zap 32 line).length:=(zjJ 32 line).symm
 have hszs:∀y∈zap 32 line,y.size<4294967281:=fun y hy=>by
  obtain⟨i,hi⟩:=List.mem_iff_getElem?.1 hy
  have:=zhX hi
  omega
 change zau w1 _ ((zap 32 line).map Value.string) at hc1
 have h0:0<(zap 32 line).length:=by omega
 rw[hlen]
 generalize zap 32 line=ws at hc1 hszs hcall h0 ⊢
 have x1:=x0.trans e1
 generalize hsp:(⟨w0.heap.size,0,none⟩:Addr)=sp at hc1
 have cw:∀{w':World},Ext w1 w'->Go.Sx.cell w' (pIdx (some sp) 0 1) 0=some (.string (ws.getD 0 ⟨#[]⟩)):=fun e=>by
  rw[zae]
  refine(hc1.ext e) 0 _ ?_
  rw[List.getElem?_map,getElem?_getD ws ⟨#[]⟩ h0];rfl
 have tab:∀{w9:World},FnP Tryz.prog za4 #[.pointer (ptr db)] w9 fun v w'=>Ext w9 w'/\zBS db w' v:=fun {w9}=>(zAw ⟨db,0,none⟩ w9).mono fun v w' ⟨h1,pb,mb,M,h2,h3,h4,h5⟩=>⟨h1,pb,mb,M,h2,h3,h4,h5⟩
 have zmS:∀v∈[Value.int .i64 0,.bool false,.nilFunc],v.oneCell'=true:=by intro v hv;simp at hv;rcases hv with rfl|rfl|rfl<;>rfl
 let J:Option Addr->Bool->World->Prop:=fun p ok w'=>Ext w1 w'/\∃t0 t1 t2,zt0 db w' (ws.getD 0 ⟨#[]⟩) t0 t1 t2 ok/\Go.Sx.cell w' (pAdd p 0) 0=some (.int .i64 t0)/\Go.Sx.cell w' (pAdd p 1) 0=some (.bool t1)/\Go.Sx.cell w' (pAdd p 2) 0=some t2/\p≠none
 have put:∀{w13 w14 w20:World}{p:Option Addr}{t0:Int}{t1:Bool}{t2:Value}{ok:Bool},Ext w1 w13->zAi w13 252 [.int .i64 0,.bool false,.nilFunc] p w14->Ext w14 w20->zt0 db w20 (ws.getD 0 ⟨#[]⟩) t0 t1 t2 ok->t2.oneCell'=true ->
   zan w20 p [.int .i64 t0,.bool t1,t2] [] (J p ok):=fun {w13 w14 w20 p t0 t1 t2 ok} hx hn e hf h1=>by
  have o14:Own w13.heap.size w14 252 3 p 1 1 [.int .i64 0,.bool false,.nilFunc]:=by
   rw[hn.at_]
   exact⟨by simp,.inr ⟨w13.heap.size,1,_,rfl,Nat.le_refl _,hn.block,Nat.le_refl _,by simp[maxLen],by simp,by simp⟩⟩
  have hblk:w20.heap[w13.heap.size]?=some (.cells #[.int .i64 0,.bool false,.nilFunc] 252):=by
   rw[e.block _ (by rw[hn.size];omega)];exact hn.block
  have hp:p≠none:=by rw[hn.at_];simp
  refine zaS (off:=0) (o14.ext e) (zfc p) (by simp) (by simp) (by intro u hu;simp at hu;rcases hu with rfl|rfl|rfl<;>first|rfl|exact h1) (by simp) fun w21 o21 g21=>?_
  have e20:Ext w13 w20:=hn.ext.trans e
  have e21:Ext w13 w21:=g21.ext e20 (o14.ext e)
  have hcel:zKY w20 w21:=fun q v hv hc=>by
   have hq:q.block≠w13.heap.size:=fun hq=>by
    unfold World.cell? at hc
    rw[hq,hblk] at hc
    simp only at hc
    split at hc
    ·cases hc
    ·have hm:=Array.mem_of_getElem? hc
     simp at hm
     rcases hm with rfl|rfl|rfl<;>exact hv
   have hlt:q.block<w20.heap.size:=by
    rcases Nat.lt_or_ge q.block w20.heap.size with h|h
    ·exact h
    ·unfold World.cell? at hc
     rw[Array.getElem?_eq_none h] at hc;cases hc
   rw[<-hc]
   exact World.cell?_of_block (w:=w20) (g21.by_.block q.block hlt (by rw[hn.at_];simp[blk];exact hq))
  have hcs:=o21.cells
  refine⟨hx.trans e21,t0,t1,t2,?_,?_,?_,?_,hp⟩
  ·rcases hf with h|⟨h1,pb,b,h2,h3,h4,h5⟩
   ·exact .inl h
   ·exact .inr ⟨h1,pb,b,h2,hcel _ _ trivial h3,zHD _ _ _ _ _ _ hcel h4,h5⟩
  ·rw[zak];exact hcs 0 _ rfl
  ·rw[zak];exact hcs 1 _ rfl
  ·rw[zak];exact hcs 2 _ rfl
 have new:∀{w13:World}{T:Option Addr->World->Prop},(∀p w14,zAi w13 252 [.int .i64 0,.bool false,.nilFunc] p w14->T p w14)->New w13 252 [.int .i64 0,.bool false,.nilFunc] T:=fun h=>⟨zmS,h⟩
 refine⟨J,⟨by simp,by omega,by omega,fun w9 x9=>tab.mono fun v w10 ⟨e10,hT⟩=>⟨e10,v,rfl,_,cw (x9.trans e10),fun w13 x13=>?_,fun w13 x13=>?_⟩,⟨_,cw (Ext.refl _),fun w10 x10=>tab.mono fun v w11 ⟨e11,hT⟩=>⟨e11,v,rfl,fun w13 x13=>?_,fun w13 x13=>?_⟩,fun w10 x10=>?_⟩,fun w9 x9=>?_⟩,?_⟩
 ·exact zpy (hT.ext x13) _ fun t0 t1 t2 ok hf h1=>⟨Ext.refl _,t0,t1,t2,ok,rfl,fun w19 x19=>new fun p w20 hn=>put (((x9.trans e10).trans x13).trans x19) hn (Ext.refl _) (hf.ext (x19.trans hn.ext)) h1⟩
 ·exact new fun p w14 hn w15 x15=>zpy (hT.ext ((x13.trans hn.ext).trans x15)) _ fun t0 t1 t2 ok hf h1=>⟨Ext.refl _,t0,t1,t2,ok,rfl,put ((x9.trans e10).trans x13) hn x15 hf h1⟩
 ·exact zpy (hT.ext x13) _ fun t0 t1 t2 ok hf h1=>⟨Ext.refl _,t0,t1,t2,ok,rfl,fun w19 x19=>new fun p w20 hn=>put (((x10.trans e11).trans x13).trans x19) hn (Ext.refl _) (hf.ext (x19.trans hn.ext)) h1⟩
 ·exact new fun p w14 hn w15 x15=>zpy (hT.ext ((x13.trans hn.ext).trans x15)) _ fun t0 t1 t2 ok hf h1=>⟨Ext.refl _,t0,t1,t2,ok,rfl,put ((x10.trans e11).trans x13) hn x15 hf h1⟩
 ·exact new fun p w11 hn w12 x12=>tab.mono fun v w13 ⟨e13,hT⟩=>⟨e13,v,rfl,fun w15 x15=>zpy (hT.ext x15) _ fun t0 t1 t2 ok hf h1=>⟨Ext.refl _,t0,t1,t2,ok,rfl,put x10 hn ((x12.trans e13).trans x15) hf h1⟩⟩
 ·refine new fun p w10 hn=>⟨fun w11 x11=>tab.mono fun v w12 ⟨e12,hT⟩=>⟨e12,v,rfl,_,cw ((((x9.trans hn.ext).trans x11).trans e12)),fun w15 x15=>zpy (hT.ext x15) _ fun t0 t1 t2 ok hf h1=>⟨Ext.refl _,t0,t1,t2,ok,rfl,put x9 hn ((x11.trans e12).trans x15) hf h1⟩⟩,_,cw (x9.trans hn.ext),fun w12 x12=>tab.mono fun v w13 ⟨e13,hT⟩=>⟨e13,v,rfl,fun w15 x15=>zpy (hT.ext x15) _ fun t0 t1 t2 ok hf h1=>⟨Ext.refl _,t0,t1,t2,ok,rfl,put x9 hn ((x12.trans e13).trans x15) hf h1⟩⟩⟩
 rintro p ok w8 ⟨x8,t0,t1,t2,hf,c0,c1,c2,hp⟩
 have h8:=x1.trans x8
 refine⟨fun hok w9 x9=>zu4 ⟨Ext.refl _,_,rfl,fun w12 h12=>zcE x ((h8.trans x9).trans h12) (zF4 (c:=1) (by decide)) ?_⟩,fun hok=>⟨hp,_,c0,?_⟩⟩
 ·rcases hf with⟨_,h⟩|⟨h,_⟩
  ·unfold doW;rw[h];exact⟨rfl,rfl⟩
  ·rw[hok] at h;cases h
 rcases hf with⟨h,_⟩|⟨_,pb,b,hcm,hpb,hpv,rfl,rfl,_⟩
 ·rw[hok] at h;cases h
 refine⟨fun hne w10 x10=>zu4 ⟨Ext.refl _,_,rfl,rfl,fun w13 x13=>zAU ⟨Ext.refl _,_,rfl,fun w16 h16=>zcE x (((h8.trans x10).trans x13).trans h16) (zAE (c:=3) (by decide)) ?_⟩⟩,fun heq=>⟨hp,_,c1,fun _=>ne,fun _=>ne,fun ht=>?_,fun hfl=>⟨hp,_,c2,fun w12 x12=>?_⟩⟩⟩
 ·unfold doW;rw[hcm]
  simp only[]
  rw[if_pos (by omega)]
  first|exact⟨rfl,rfl⟩|simp
 ·have hR:∀(s:ByteArray)(c:Int)(σ:DS),K.st.isShut=false->R b ws K.st c s σ->doW R ws K.st c s σ:=fun s c σ hsh h=>by
   unfold doW;rw[hcm]
   simp only[]
   rw[if_neg (by omega),if_neg (by rw[hsh];simp)]
   exact h
  rcases K.cases with hK|⟨fb,P,F,hK⟩
  ·refine⟨none,(x.ext h8).nofp hK,fun _ w12 x12=>zu4 ⟨Ext.refl _,_,rfl,fun w15 h15=>zcE x ((h8.trans x12).trans h15) (zF4 (c:=9) (by decide)) ?_⟩,fun h=>absurd rfl h⟩
   unfold doW;rw[hcm]
   simp only[]
   rw[if_neg (by omega),if_pos ⟨ht,by rw[Kt.st_shut hK];rfl⟩]
   first|exact⟨rfl,rfl⟩|simp
  ·refine⟨ptr fb,(x.ext h8).fbp hK,fun h=>absurd h (zaB fb),fun _=>⟨hp,_,c2,fun w13 x13=>?_⟩⟩
   have hsh:K.st.isShut=false:=by rw[Kt.st_opn hK];rfl
   have hx:=h8.trans x13
   obtain⟨f,bd,cap,e1,e2⟩:=hcall w13 pb sp b ws.length t2 hx hcm ((Cst.of_ext x13).cell hpb) (zj2 _ _ _ _ _ _ (Cst.of_ext x13) hpv) (by omega) (Nat.le_refl _) (fun _=>hsh) (hc1.ext (x8.trans x13)) hszs
   refine⟨f,bd,cap,e1,e2.mono fun v w14 hC=>?_⟩
   obtain⟨s,ev,c,K',hv,q1,q2,q3,q4,q5⟩:=zwW hx hC
   exact⟨s,ev,hv,fun w17 h17=>⟨s,ev,c,K',rfl,q1,q2.ext h17,q3.tr (zac h17),q4,hR _ _ _ hsh q5⟩⟩
 ·have hx:=h8.trans x12
  obtain⟨f,bd,cap,e1,e2⟩:=hcall w12 pb sp b ws.length t2 hx hcm ((Cst.of_ext x12).cell hpb) (zj2 _ _ _ _ _ _ (Cst.of_ext x12) hpv) (by omega) (Nat.le_refl _) (fun h=>by rw[hfl] at h;cases h) (hc1.ext (x8.trans x12)) hszs
  refine⟨f,bd,cap,e1,e2.mono fun v w14 hC=>?_⟩
  obtain⟨s,ev,c,K',hv,q1,q2,q3,q4,q5⟩:=zwW hx hC
  refine⟨s,ev,hv,fun w17 h17=>⟨s,ev,c,K',rfl,q1,q2.ext h17,q3.tr (zac h17),q4,?_⟩⟩
  unfold doW;rw[hcm]
  simp only[]
  rw[if_neg (by omega),if_neg (by rw[hfl];simp)]
  exact q5
end
theorem As_k{W0 w:World}{v:Value}{c:Int}(he:EV v c)(g:GD w){t:Addr}{old:Value}(hx:Ext W0 w)(ht:W0.heap.size<=t.block)(hc:w.cell? t=some old)(hf:w.frozen? t=false) :
  FnP Tryz.prog zoU #[v,.iface 196 (.pointer (some t))] w fun u w'=>Ext W0 w'/\∃b:Bool,u=.bool b/\((c=0/\b=false)\/(c≠0/\b=true/\Go.Sx.cell w' (some t) 0=some (.int .i64 c))):=by
 refine⟨fun args w=>Tryz.call104 args w,?_⟩
 have hg:w.cell? ⟨0,0,none⟩=some (.iface 329 (.agg #[.pointer (some ⟨11,175,none⟩)])):=zwU g.eType
 have al:∀{w':World}(o:Obj),Ext W0 w'->Ext W0 (w'.alloc o):=fun o h=>Below.alloc h h.size o
 have lt:t.block<w.heap.size:=by
  rcases Nat.lt_or_ge t.block w.heap.size with h|h
  ·exact h
  ·unfold World.cell? at hc
   rw[Array.getElem?_eq_none h] at hc;cases hc
 have ca:∀{w':World}(o:Obj),t.block<w'.heap.size->w'.cell? t=some old->(w'.alloc o).cell? t=some old/\t.block<(w'.alloc o).heap.size:=fun {w'} o h1 h2=>⟨by rw[World.cell?_alloc_lt _ _ t h1];exact h2,by rw[zBY];omega⟩
 have fin:∀{w':World},Ext W0 w'->w'.cell? t=some old->Ext W0 (w'.setCell t (.int .i64 c))/\Go.Sx.cell (w'.setCell t (.int .i64 c)) (some t) 0=some (.int .i64 c):=fun {w'} h1 h2=>⟨Below.setCell h1 ht _,zgu (World.cell?_setCell_same w' t _ h2)⟩
 rcases he with⟨h0,rfl⟩|⟨h0,rfl|⟨k,rfl⟩⟩
 ·exact(as_nil _ w).mono fun e w' ⟨h1,h2⟩=>⟨_,h1,by rw[h2];exact hx,false,rfl,.inl ⟨h0,rfl⟩⟩
 ·refine(as_hit c t old w hg hc hf).mono fun e w' ⟨h1,o1,o2,o3,o4,h2⟩=>⟨_,h1,?_⟩
  obtain⟨a1,b1⟩:=ca o1 lt hc
  obtain⟨a2,b2⟩:=ca o2 b1 a1
  obtain⟨a3,b3⟩:=ca o3 b2 a2
  obtain⟨a4,b4⟩:=ca o4 b3 a3
  obtain⟨q1,q2⟩:=fin (al o4 (al o3 (al o2 (al o1 hx)))) a4
  rw[h2]
  exact⟨q1,true,rfl,.inr ⟨h0,rfl,q2⟩⟩
 ·refine(zI7 k c t old w hg hc hf).mono fun e w' ⟨h1,o1,o2,o3,o4,o5,h2⟩=>⟨_,h1,?_⟩
  obtain⟨a1,b1⟩:=ca o1 lt hc
  obtain⟨a2,b2⟩:=ca o2 b1 a1
  obtain⟨a3,b3⟩:=ca o3 b2 a2
  obtain⟨a4,b4⟩:=ca o4 b3 a3
  obtain⟨a5,b5⟩:=ca o5 b4 a4
  obtain⟨q1,q2⟩:=fin (al o5 (al o4 (al o3 (al o2 (al o1 hx))))) a5
  rw[h2]
  exact⟨q1,true,rfl,.inr ⟨h0,rfl,q2⟩⟩
def zAp(c:Int)(s:ByteArray):ByteArray:=if c=0 then s else (⟨#[101,114,114,32]⟩:ByteArray)++ofL (Lib.itoa c)
abbrev zEO:=Nat->List ByteArray->DS->Int->ByteArray->DS->Prop
def doD(R:zEO)(line:ByteArray)(σ:DS)(a:ByteArray)(σ':DS):Prop:=∃c s,doW R (zap 32 line) σ c s σ'/\a=zAp c s
def zoQ(R:zEO)(line:ByteArray):Prop:=∀(O:Nat->Prop)(B db:Nat)(K:Kt)(w1:World)(pb wp:Addr)(b:Nat)(wc:Nat)(t2:Value),KX O B w1 db K->GD w1->11<=B->B<=w1.heap.size->zhE ((zap 32 line).getD 0 ⟨#[]⟩)=some b->w1.cell? pb=some (.pointer (ptr db)) ->
 PV ⟨db,0,none⟩ pb b (.agg #[.int .i64 (sig b).1,.bool (sig b).2,t2]) w1->(zap 32 line).length=(sig b).1->(zap 32 line).length<=wc->((sig b).2=true->K.st.isShut=false)->zau w1 (some wp) ((zap 32 line).map Value.string)->(∀x∈zap 32 line,x.size<4294967281) ->
 zIE Tryz.prog t2 [.slice (some wp) (zap 32 line).length wc] w1 (CR O B db w1 K fun s c σ'=>R b (zap 32 line) K.st c s σ'/\InR .i64 c)
section
variable {O:Nat->Prop} {B db:Nat} {w:World} {K:Kt}
theorem Do_kD(R:zEO)(x:KX O B w db K)(g:GD w)(hB:11<=B)(hBw:B<=w.heap.size)(line:ByteArray)(hs:line.size<4294967281)(hcall:zoQ R line) :
  FnP Tryz.prog zev #[.pointer (ptr db),.string line] w fun v w'=>∃(a:ByteArray) (K':Kt),v=.string a/\KX O B w' db K'/\Fr (KF db K) w w'/\zuR w db K K'/\doD R line K.st a K'.st:=by
 refine zpK (ptr db) line w _ fun w0 x0=>(do_k (fun b ws σ c s σ'=>R b ws σ c s σ'/\InR .i64 c) (x.ext x0) (g.ext x0) line hs fun w1 pb wp b wc t2 x1 a1 a2 a3 a4 a5 a6 a7 a8=>hcall O B db K w1 pb wp b wc t2 ((x.ext x0).ext x1) ((g.ext x0).ext x1) hB (Nat.le_trans hBw (Nat.le_trans x0.size x1.size)) a1 a2 a3 a4 a5 a6 a7 a8).mono fun v w1 hC=>?_
 obtain⟨s,ev,c,K',rfl,hE,hX,hF,hG,hR⟩:=zwW x0 hC
 have hRR:doW R (zap 32 line) K.st c s K'.st/\InR .i64 c:=by
  unfold doW at hR ⊢
  split at hR
  ·exact⟨hR,by rw[hR.1];exact i64 (by omega)⟩
  ·split at hR
   ·rename_i h;rw[if_pos h];exact⟨hR,by rw[hR.1];exact i64 (by omega)⟩
   ·rename_i h
    rw[if_neg h]
    split at hR
    ·rename_i h;rw[if_pos h];exact⟨hR,by rw[hR.1];exact i64 (by omega)⟩
    ·rename_i h;rw[if_neg h];exact hR
 have g1:GD w1:=g.fr hF fun b hb=>Nat.le_trans hB (x.foot hb).1
 refine⟨s,ev,rfl,fun w4 x4=>⟨by simp[Value.oneCell'],fun p w5 hn w6 x6=>zfH (d:=.pointer 24) (by kernel_rfl) (by intro m hm;cases hm) ⟨Ext.refl _,_,rfl,fun w9 x9=>?_⟩⟩⟩
 obtain⟨q,rfl,hq⟩:=zlC hn
 have hqb:q=⟨w4.heap.size,0,none⟩:=by have:=hn.at_;injection this
 have h49:Ext w4 w9:=(hn.ext.trans x6).trans x9
 have h59:Ext w5 w9:=x6.trans x9
 have h19:Ext w1 w9:=x4.trans h49
 have hfz:w9.frozen? q=false:=by
  have hb:w9.heap[w4.heap.size]?=some (.cells #[.int .i64 0] 24):=by rw[h59.block _ (by rw[hn.size];omega)];exact hn.block
  unfold World.frozen?
  rw[hqb]
  simp only[hb]
  rfl
 refine(As_k hE (g1.ext h19) h49 (by rw[hqb];exact Nat.le_refl _) ((Cst.of_ext h59).cell hq) hfz).mono fun u w10 ⟨e10,b,hu,hb⟩=>⟨b,hu,fun hbt=>?_,fun hbf w12 h12=>?_⟩
 ·rcases hb with⟨_,h⟩|⟨hc,_,hcell⟩
  ·rw[hbt] at h;cases h
  ·refine⟨c,hcell,fun w13 h13=>(znH c (zhK hRR.2) w13 (((g1.ext x4).ext e10).ext h13).gb).mono fun v w14 ⟨e14,hv⟩=>⟨e14,_,hv,?_,fun w16 h16=>?_⟩⟩
   ·have:=Lib.itoa_length_le c (zhK hRR.2).1 (zhK hRR.2).2
    unfold zdl
    rw[zas]
    show 4+_<=_
    omega
   ·have hx:=(x4.trans e10).trans h16
    exact⟨_,K',rfl,hX.ext hx,hF.tr (zac hx),hG,c,s,hRR.1,by unfold zAp;rw[if_neg hc]⟩
 ·rcases hb with⟨hc,_⟩|⟨_,h,_⟩
  ·have hx:=(x4.trans e10).trans h12
   exact⟨s,K',rfl,hX.ext hx,hF.tr (zac hx),hG,c,s,hRR.1,by unfold zAp;rw[if_pos hc]⟩
  ·rw[hbf] at h;cases h
end
inductive zc8(R:zEO):List ByteArray->DS->List ByteArray->DS->Prop
 |nil (σ:DS):zc8 R [] σ [] σ
 |snoc {ls:List ByteArray} {l:ByteArray} {σ σ1 σ2:DS} {us:List ByteArray} {a:ByteArray}:zc8 R ls σ us σ1->doD R l σ1 a σ2->zc8 R (ls++[l]) σ (us++[a]) σ2
theorem zc8.len{R:zEO}{ls us:List ByteArray}{σ σ':DS}(h:zc8 R ls σ us σ'):us.length=ls.length:=by
 induction h with
 |nil => rfl
 |snoc _ _ ih => simp[ih]
theorem zBG(R:zEO)(lines:List ByteArray)(p:Option Addr)(c:Nat)(w:World)(g:GD w)(h6:11<=w.heap.size)(hw:zau w p (lines.map Value.string))(h63:(lines.length:Int)<=9223372036854775807)(hs:∀x∈lines,x.size<4294967281)(hcall:∀x∈lines,zoQ R x) :
  FnP Tryz.prog zcj #[.slice p lines.length c] w fun v w'=>Ext w w'/\((100<lines.length/\v=.tuple #[.slice none 0 0,.int .i64 2])\/(lines.length<=100/\∃(us:List ByteArray) (σ:DS) (q:Option Addr) (d:Nat),v=.tuple #[.slice q lines.length d,.int .i64 0]/\zc8 R lines (.shut []) us σ/\Own w.heap.size w' zay 1 q lines.length d (us.map Value.string))):=by
 refine zvl p lines.length c w _ ⟨fun h w0 h0=>⟨h0,.inl ⟨by omega,rfl⟩⟩,fun hle w0 h0=>(zCv w0).mono fun v w1 ⟨e1,db,hv,x1⟩=>⟨e1,ptr db,hv,?_⟩⟩
 have hx1:=h0.trans e1
 refine⟨fun q n d k w6=>Ext w0 w6/\0<=k/\k<=lines.length/\n=k/\∃(us:List ByteArray) (K:Kt),zc8 R (lines.take k.toNat) (.shut []) us K.st/\Own w0.heap.size w6 zay 1 q n d (us.map Value.string)/\KX (fun b=>b<w0.heap.size\/∃a,q=some a/\a.block=b) w0.heap.size w6 db K,fun _ _ _ k _=>(lines.length-k).toNat,⟨e1,by omega,by omega,by simp,[],_,zc8.nil _,Own.nil,x1.go (S:=fun _=>False) (Fr.refl _ _) (fun _ h=>h.elim) fun b hb=>?_⟩,?_⟩
 ·rcases hb with hb|⟨a,ha,_⟩
  ·exact .inl hb
  ·cases ha
 rintro q n d k w6 ⟨x6,hk0,hk1,hnk,us,K,hp,oA,hX⟩
 have hal:=hp.len
 rw[List.length_take] at hal
 refine⟨fun hlt=>?_,fun hge w7 h7=>?_⟩
 ·obtain⟨l,hl⟩:∃l,lines[k.toNat]?=some l:=⟨_,List.getElem?_eq_getElem (by omega)⟩
  have hm:=List.mem_of_getElem? hl
  have hcell:Go.Sx.cell w6 (pIdx p k 1) 0=some (.string l):=by
   rw[zae]
   refine(hw.ext (h0.trans x6)) _ _ ?_
   simp[hl]
  refine⟨fun hq=>zaj hcell (zah.2 hq),hk0,hlt,l,hcell,fun w8 x8=>?_⟩
  have hsz:w0.heap.size<=w8.heap.size:=(x6.trans x8).size
  refine(Do_kD R (hX.ext x8) (g.ext ((h0.trans x6).trans x8)) (Nat.le_trans h6 h0.size) hsz l (hs l hm) (hcall l hm)).mono fun v w9 ⟨a,K',hv,hX',hF,hG,hD⟩=>⟨a,hv,?_⟩
  have o9:Own w0.heap.size w9 zay 1 q n d (us.map Value.string):=(oA.ext x8).fr hF fun b hb hk=>(hX.ext x8).oft (.inr ⟨b,hb,rfl⟩) hk
  have e9:Ext w0 w9:=(hX.ext x8).keep (x6.trans x8) (Nat.le_refl _) hF
  refine push (v:=.string a) zbY (by omega) o9 e9.size rfl (by intro u hu;simp[Value.cells] at hu;subst hu;rfl) (by omega) (by omega) (by omega) fun q' d' w' o' g' np=>⟨i64 (by omega),⟨g'.ext e9 o9,by omega,by omega,by omega,us++[a],K',?_,?_,?_⟩,by simp only[];omega⟩
  ·rw[show(k+1).toNat=k.toNat+1 by omega,List.take_add_one,hl]
   exact zc8.snoc hp hD
  ·simpa[Value.cells] using o'
  ·refine hX'.go (zaP (S:=fun b=>∃a,q=some a/\a.block=b) g' fun a ha=>⟨a,ha,rfl⟩) (fun b hb=>.inr hb) fun b hb=>?_
   rcases hb with hb|⟨a',ha',rfl⟩
   ·exact .inl (.inl hb)
   ·have hlt':=(o'.lt a' ha').2
    rcases g'.new with hn|hn
    ·left;right
     subst ha'
     cases q with
     |none => simp[blk] at hn
     |some z => simp[blk] at hn;exact⟨z,rfl,hn.symm⟩
    ·exact .inr ⟨hn a' ha',hlt'⟩
 ·have hk:k=lines.length:=by omega
  subst hk
  have htake:lines.take ((lines.length:Int)).toNat=lines:=by simp
  rw[htake] at hp
  have hn:n=lines.length:=by omega
  subst hn
  exact⟨(h0.trans x6).trans h7,.inr ⟨by omega,us,K.st,q,d,rfl,hp,(oA.ext h7).weak h0.size⟩⟩
abbrev zEN:=List ByteArray->DS->Int->ByteArray->DS->Prop
def zqy(N Fr_:zEN):zEO
 |3,ws,σ,c,s,σ' => zxi (ws.getD 1 ⟨#[]⟩) (ws.getD 2 ⟨#[]⟩) (ws.getD 3 ⟨#[]⟩) σ c s σ'
 |7,_,σ,c,s,σ' => zxP σ c s σ'
 |11,ws,σ,c,s,σ' => N ws σ c s σ'
 |15,ws,σ,c,s,σ' => zjm (zof ws 1) σ c s σ'
 |22,ws,σ,c,s,σ' => zra ztC (ws.getD 1 ⟨#[]⟩) σ s c σ'
 |26,_,σ,c,s,σ' => zxS σ c s σ'
 |33,ws,σ,c,s,σ' => zra (zwx true) (ws.getD 1 ⟨#[]⟩) σ s c σ'
 |40,ws,σ,c,s,σ' => zra (zwx false) (ws.getD 1 ⟨#[]⟩) σ s c σ'
 |47,ws,σ,c,s,σ' => zra zFC (ws.getD 1 ⟨#[]⟩) σ s c σ'
 |51,ws,σ,c,s,σ' => zEb (ws.getD 1 ⟨#[]⟩) σ c s σ'
 |55,ws,σ,c,s,σ' => Fr_ ws σ c s σ'
 |_,_,_,_,_,_ => False
def zaD(c:Int):Prop:=0<=c/\c<=10
theorem zaD.inR{c:Int}(h:zaD c):InR .i64 c:=i64 (by unfold zaD at h;omega)
theorem zmQ{s:ByteArray}{n c:Int}(h:zGJ s n c):zaD c:=by rcases h with⟨h,_⟩|⟨h,_⟩<;>(unfold zaD;omega)
theorem zr5{F:Fm}{id e:Int}(h:ztW F id e):zaD e:=by rcases h with⟨_,h⟩|⟨_,h⟩<;>(unfold zaD;omega)
theorem zxX{s:ByteArray}{a:Nd}{e:Int}(h:zA2 s a e):zaD e:=by
 unfold zaD
 by_cases h0:e=0
 ·omega
 ·by_cases h4:e=4
  ·omega
  ·have:=h.2.2.2.1 h0 h4;omega
theorem zuT:∀(l:List Lb)(seen:List ByteArray),zaD (lbE seen l)
 |[],seen => by unfold lbE zaD;omega
 |x::r,seen => by
  rw[lbE]
  split
  ·split
   ·unfold zaD;omega
   ·exact zuT r _
  ·unfold zaD;omega
theorem zGk(seen:List ByteArray)(h:Ht):zaD (hE seen h):=by
 unfold hE
 split;· unfold zaD;omega
 split;· unfold zaD;omega
 split;· unfold zaD;omega
 split;· exact zuT _ _
 split;· unfold zaD;omega
 split;· unfold zaD;omega
 split<;>(unfold zaD;omega)
theorem zuG:∀(L:List Ht)(seen:List ByteArray),zaD (hsE seen L)
 |[],seen => by unfold hsE zaD;omega
 |x::r,seen => by
  rw[hsE]
  split
  ·exact zGk _ _
  ·exact zuG r _
theorem zw1(L:List Ht):zaD (zln L):=by
 unfold zln
 split
 ·unfold zaD;omega
 ·exact zuG _ _
theorem zyd{F:Fm}{n e:Int}{σ:DS}(h:ztC F n e σ):zaD e:=by rcases h with⟨h,_⟩|⟨h,_⟩<;>(unfold zaD;omega)
theorem zr6{ok:Bool}{F:Fm}{n e:Int}{σ:DS}(h:zwx ok F n e σ):zaD e:=by
 rcases h with⟨_,h,_⟩|⟨h,_⟩
 ·exact zr5 h
 ·unfold zaD;omega
theorem zAu{F:Fm}{n e:Int}{σ:DS}(h:zFC F n e σ):zaD e:=by
 rcases h with⟨_,h,_⟩|⟨h,_⟩
 ·exact zr5 h
 ·unfold zaD;omega
theorem zh1{R:Fm->Int->Int->DS->Prop}(hR:∀F n e σ,R F n e σ->zaD e){word:ByteArray}{σ:DS}{s:ByteArray}{c:Int}{σ':DS}(h:zra R word σ s c σ'):zaD c:=by
 obtain⟨n,c1,hn,⟨_,rfl,_⟩|⟨_,_,h⟩⟩:=h
 ·exact zmQ hn
 ·unfold zKk at h
  split at h
  ·unfold zaD;omega
  ·exact hR _ _ _ _ h
theorem zxj{a b c0:ByteArray}{σ:DS}{c:Int}{s:ByteArray}{σ':DS}(h:zxi a b c0 σ c s σ'):zaD c:=by
 obtain⟨nd,e,hr,⟨_,rfl,_⟩|⟨_,h⟩⟩:=h
 ·exact zxX hr
 ·split at h
  ·unfold zaD;omega
  ·split at h
   ·unfold zaD;omega
   ·rw[h.1];exact zw1 _
theorem zxQ{σ:DS}{c:Int}{s:ByteArray}{σ':DS}(h:zxP σ c s σ'):zaD c:=by
 unfold zxP at h
 split at h<;>(unfold zaD;omega)
theorem zxT{σ:DS}{c:Int}{s:ByteArray}{σ':DS}(h:zxS σ c s σ'):zaD c:=by
 unfold zxS at h
 split at h
 ·exact h.elim
 ·unfold zaD;omega
theorem zx6{word:ByteArray}{σ:DS}{c:Int}{s:ByteArray}{σ':DS}(h:zEb word σ c s σ'):zaD c:=by
 obtain⟨_,n,c1,hn,⟨_,rfl⟩|⟨_,h⟩⟩:=h
 ·exact zmQ hn
 ·split at h
  ·unfold zaD;omega
  ·rcases h with⟨_,h,_⟩|⟨_,h⟩<;>(unfold zaD;omega)
theorem ztA{t:ByteArray}{σ:DS}{c:Int}{s:ByteArray}{σ':DS}(h:zjm t σ c s σ'):zaD c:=by
 unfold zjm at h
 split at h
 ·exact h.elim
 ·obtain⟨e,j,hr,⟨h0,rfl,_⟩|⟨h0,hS,_⟩⟩:=h
  ·unfold zaD
   obtain⟨r1,r2,_⟩:=hr
   by_cases hz:3000<t.size
   ·have:=r1 hz;omega
   ·have:=r2 (by omega);omega
  ·have hj:=zi0.2 (hr.2.2.1 h0).ok
   unfold zaD
   rcases hS with⟨h1,_⟩|⟨_,⟨_,h⟩|⟨_,⟨_,h⟩|⟨_,⟨_,h⟩|⟨_,h⟩⟩⟩⟩<;>omega
theorem zwO{a b c d e f:Value}(h:Value.agg #[a,b,c]=.agg #[d,e,f]):c=f:=by
 have:=congrArg Value.cells h
 simp[Value.cells] at this
 exact this.2.2
theorem zmy(N Fr_:zEN)(line:ByteArray)(h11:zhE ((zap 32 line).getD 0 ⟨#[]⟩)=some 11->False)(h55:zhE ((zap 32 line).getD 0 ⟨#[]⟩)=some 55->False):zoQ (zqy N Fr_) line:=by
 intro O B db K w1 pb wp b wc t2 x g hB hBw hcm hpb hpv hlen hcap hsh hw hszs
 generalize zap 32 line=ws at *
 have hb:b=3\/b=7\/b=11\/b=15\/b=22\/b=26\/b=33\/b=40\/b=47\/b=51\/b=55:=by
  unfold zhE at hcm
  obtain⟨e,he,rfl⟩:=Option.map_eq_some_iff.1 hcm
  have:=List.mem_of_find?_eq_some he
  simp only[KL,List.mem_cons,List.not_mem_nil,or_false] at this
  rcases this with rfl|rfl|rfl|rfl|rfl|rfl|rfl|rfl|rfl|rfl|rfl<;>simp
 have hsz1:(ws.getD 1 ⟨#[]⟩).size<=281474976710656:=by
  by_cases h1:1<ws.length
  ·have:=hszs _ (zaq ws ⟨#[]⟩ h1);omega
  ·rw[List.getD_eq_getElem?_getD,List.getElem?_eq_none (by omega)]
   exact Nat.zero_le _
 have hszs':∀y∈ws,y.size<=4294967281:=fun y hy=>by have:=hszs y hy;omega
 have opn:(sig b).2=true->∃fb P F,K.farm=some (fb,P,F):=fun h=>by
  rcases K.cases with hK|h'
  ·have:=hsh h;rw[Kt.st_shut hK] at this;cases this
  ·exact h'
 have meth:∀{F:FuncId}{Rr:ByteArray->Int->DS->Prop},(∃f bd cap,(Value.agg #[.int .i64 (sig b).1,.bool (sig b).2,t2])=.agg #[.int .i64 (sig b).1,.bool (sig b).2,.func f bd cap]/\zbr ⟨db,0,none⟩ F (.func f bd cap)) ->
   FnP Tryz.prog F #[.pointer (ptr db),.slice (some wp) ws.length wc] w1 (CR O B db w1 K Rr)->(∀s c σ,Rr s c σ->zqy N Fr_ b ws K.st c s σ/\InR .i64 c) ->
   zIE Tryz.prog t2 [.slice (some wp) ws.length wc] w1 (CR O B db w1 K fun s c σ'=>zqy N Fr_ b ws K.st c s σ'/\InR .i64 c):=fun {F Rr} h1 h2 h3=>by
  obtain⟨f,bd,cap,e1,e2⟩:=h1
  have e3:=zwO e1
  unfold zbr at e2
  rw[<-e3] at e2
  exact⟨F,_,_,e2,h2.mono fun v w' h=>h.mono h3⟩
 have clo:∀{Rr:ByteArray->Int->DS->Prop},(∃f' cap,t2=.func (.func f') #[] cap/\FnP Tryz.prog f' (#[.slice (some wp) ws.length wc]++cap) w1 (CR O B db w1 K Rr))->(∀s c σ,Rr s c σ->zqy N Fr_ b ws K.st c s σ/\InR .i64 c) ->
   zIE Tryz.prog t2 [.slice (some wp) ws.length wc] w1 (CR O B db w1 K fun s c σ'=>zqy N Fr_ b ws K.st c s σ'/\InR .i64 c):=fun {Rr} h1 h3=>by
  obtain⟨f',cap,e1,e2⟩:=h1
  exact⟨f',#[],cap,e1,e2.mono fun v w' h=>h.mono h3⟩
 have cmd:∀{n:Int}{fl:Bool}{R:Value->World->Prop},zd5 n fl R (.agg #[.int .i64 (sig b).1,.bool (sig b).2,t2]) w1->R t2 w1:=fun {n fl R} h=>by
  obtain⟨f,bd,cap,e1,e2⟩:=h
  have e3:=zwO e1
  rw[e3];exact e2
 have pbc:Go.Sx.cell w1 (some pb) 0=some (.pointer (ptr db)):=zgu hpb
 rcases hb with rfl|rfl|rfl|rfl|rfl|rfl|rfl|rfl|rfl|rfl|rfl
 ·have e2:zbr ⟨db,0,none⟩ 208 t2:=cmd (show zd5 4 false (fun f _=>zbr ⟨db,0,none⟩ 208 f) _ w1 from hpv)
  exact⟨208,_,_,e2,(host_c x g hBw (some wp) wc ws hlen hszs hw).mono fun v w' h=>h.mono fun s c σ q=>⟨q,(zxj q).inR⟩⟩
 ·have e2:zbr ⟨db,0,none⟩ 209 t2:=cmd (show zd5 1 false (fun f _=>zbr ⟨db,0,none⟩ 209 f) _ w1 from hpv)
  exact⟨209,_,_,e2,(open_c x hBw (some wp) ws.length wc).mono fun v w' h=>h.mono fun s c σ q=>⟨q,(zxQ q).inR⟩⟩
 ·exact(h11 hcm).elim
 ·have e2:zbr ⟨db,0,none⟩ 211 t2:=cmd (show zd5 6 true (fun f _=>zbr ⟨db,0,none⟩ 211 f) _ w1 from hpv)
  obtain⟨fb,P,F,hK⟩:=opn rfl
  have hl:ws.length=6:=hlen
  exact⟨211,_,_,e2,(zHn x hK g hB hBw (some wp) wc ws (by omega) hcap (by omega) hszs' hw).mono fun v w' h=>h.mono fun s c σ q=>⟨q,(ztA q).inR⟩⟩
 ·have e2:=cmd (show zd5 2 false (zdi pb 212) _ w1 from hpv)
  have hl:ws.length=2:=hlen
  exact clo (zzT x e2 hpb g.gb ztC (some wp) wc ws (by omega) hsz1 hw fun {w2 fb P F} n e hn hK=>tick_c (x.ext e) hK (zaz e pbc) n) fun s c σ q=>⟨q,(zh1 (fun _ _ _ _=>zyd) q).inR⟩
 ·have e2:zbr ⟨db,0,none⟩ 213 t2:=cmd (show zd5 1 true (fun f _=>zbr ⟨db,0,none⟩ 213 f) _ w1 from hpv)
  obtain⟨fb,P,F,hK⟩:=opn rfl
  exact⟨213,_,_,e2,(plan_c x hK g hB (some wp) ws.length wc).mono fun v w' h=>h.mono fun s c σ q=>⟨q,(zxT q).inR⟩⟩
 ·have e2:=cmd (show zd5 2 false (zdi pb 214) _ w1 from hpv)
  have hl:ws.length=2:=hlen
  exact clo (zzT x e2 hpb g.gb (zwx true) (some wp) wc ws (by omega) hsz1 hw fun {w2 fb P F} n e hn hK=>zH1 (x.ext e) hK (zaz e pbc) n hn true (.inl ⟨rfl,rfl⟩)) fun s c σ q=>⟨q,(zh1 (fun _ _ _ _=>zr6) q).inR⟩
 ·have e2:=cmd (show zd5 2 false (zdi pb 216) _ w1 from hpv)
  have hl:ws.length=2:=hlen
  exact clo (zzT x e2 hpb g.gb (zwx false) (some wp) wc ws (by omega) hsz1 hw fun {w2 fb P F} n e hn hK=>zH1 (x.ext e) hK (zaz e pbc) n hn false (.inr ⟨rfl,rfl⟩)) fun s c σ q=>⟨q,(zh1 (fun _ _ _ _=>zr6) q).inR⟩
 ·have e2:=cmd (show zd5 2 false (zdi pb 217) _ w1 from hpv)
  have hl:ws.length=2:=hlen
  exact clo (zzT x e2 hpb g.gb zFC (some wp) wc ws (by omega) hsz1 hw fun {w2 fb P F} n e hn hK=>zFG (x.ext e) hK (zaz e pbc) n hn) fun s c σ q=>⟨q,(zh1 (fun _ _ _ _=>zAu) q).inR⟩
 ·have e2:=cmd (show zd5 2 false (znG pb) _ w1 from hpv)
  have hl:ws.length=2:=hlen
  exact clo (show_c x e2 hpb g (some wp) wc ws (by omega) hsz1 hw) fun s c σ q=>⟨q,(zx6 q).inR⟩
 ·exact(h55 hcm).elim
theorem zjK(c:UInt8)(a:List UInt8)(l:List (List UInt8))(h:∀y∈a::l,c∉y):zap c (ofL (Lib.join (a::l) [c]))=(a::l).map ofL:=by
 obtain⟨h1,h2⟩:=zdz (c:=c) l a h
 unfold zap
 rw[h1,h2]
theorem zlD{s:ByteArray}{n m c e:Int}(h:zGJ s n c)(g:zGJ s m e):n=m/\c=e:=by
 rcases h with⟨h1,h2,h3,h4,h5⟩|⟨h1,h2,h3⟩<;>rcases g with⟨g1,g2,g3,g4,g5⟩|⟨g1,g2,g3⟩
 ·exact⟨zC4 ⟨h2,h3⟩ ⟨g2,g3⟩ (zmR (h4.symm.trans g4)),by omega⟩
 ·exact absurd h5 (g3 n h2 h3 h4)
 ·exact absurd g5 (h3 m g2 g3 g4)
 ·exact⟨by omega,by omega⟩
theorem itoa0:Lib.itoa 0=[48]:=by rw[zdU (by omega)];rw[Lib.decDigits];rfl
theorem zC2:Lib.itoa 1=[49]:=by rw[zdU (by omega)];rw[Lib.decDigits];rfl
theorem itoa2:Lib.itoa 2=[50]:=by rw[zdU (by omega)];rw[Lib.decDigits];rfl
theorem numR1:zGJ ⟨#[49]⟩ 1 0:=.inl ⟨rfl,by omega,by omega,by rw[zC2];rfl,by show(1:Nat)<=18;omega⟩
theorem zpx:zap 32 ⟨#[111,112,101,110]⟩=[⟨#[111,112,101,110]⟩]:=zjK 32 [111,112,101,110] [] (by decide)
theorem zsr:zhE ⟨#[111,112,101,110]⟩=some 7:=by kernel_rfl
theorem zy4{N Fr_:zEN}{L:List Ht}{a:ByteArray}{σ':DS}(h:doD (zqy N Fr_) ⟨#[111,112,101,110]⟩ (.shut L) a σ'):a=⟨#[111,107]⟩/\σ'=.opn (zio L zBt):=by
 obtain⟨c,s,h,rfl⟩:=h
 rw[zpx] at h
 unfold doW at h
 have e:([(⟨#[111,112,101,110]⟩:ByteArray)]).getD 0 ⟨#[]⟩=⟨#[111,112,101,110]⟩:=rfl
 rw[e,zsr] at h
 have h':zxP (.shut L) c s σ':=h
 obtain⟨rfl,rfl,h3⟩:=h'
 exact⟨rfl,h3⟩
theorem zrF(N Fr_:zEN):zoQ (zqy N Fr_) ⟨#[111,112,101,110]⟩:=zmy N Fr_ _ (by rw[zpx];intro h;exact absurd (zsr.symm.trans h) (by decide)) (by rw[zpx];intro h;exact absurd (zsr.symm.trans h) (by decide))
theorem zuj{N Fr_:zEN}{line:ByteArray}{ws:List ByteArray}{σ:DS}{a:ByteArray}{σ':DS}{b:Nat}(hp:zap 32 line=ws)(hc:zhE (ws.getD 0 ⟨#[]⟩)=some b)(hl:ws.length=(sig b).1)(hf:(sig b).2=true->σ.isShut=false)(h:doD (zqy N Fr_) line σ a σ') :
  ∃c s,zqy N Fr_ b ws σ c s σ'/\a=zAp c s:=by
 obtain⟨c,s,h,rfl⟩:=h
 rw[hp] at h
 unfold doW at h
 rw[hc] at h
 simp only[] at h
 rw[if_neg (by omega),if_neg (fun q=>by rw[hf q.1] at q;exact absurd q.2 (by decide))] at h
 exact⟨c,s,h,rfl⟩
theorem zlg{N Fr_:zEN}{line:ByteArray}{ws:List ByteArray}{b:Nat}(hp:zap 32 line=ws)(hc:zhE (ws.getD 0 ⟨#[]⟩)=some b)(h1:b≠11)(h2:b≠55):zoQ (zqy N Fr_) line :=
 zmy N Fr_ _ (by rw[hp,hc];intro h;injection h with h;exact h1 h) (by rw[hp,hc];intro h;injection h with h;exact h2 h)
def nd1:Nd:=⟨1,0,0⟩
def nd2:Nd:=⟨2,0,0⟩
def bA:ByteArray:=⟨#[97]⟩
def hostA:Ht:=zoA bA [] nd2
def jobA:Jb:=⟨⟨#[97,110,110]⟩,0,nd1,.mk 3 zBs ⟨#[]⟩ 1 [],[]⟩
def zF9:Fm:=zio [hostA] zBt
def zqK:Fm:=zqc zF9 jobA
def zw4:Fm:=zfP zqK 0 0
def zus:Fm:=zg9 zw4 0 true
theorem text2:zbq nd2=[99,112,117,61,50]:=by
 have h:pcs nd2 3=[[99,112,117,61,50]]:=by
  show [zgE nd2 0]=_
  unfold zgE
  show [_++61::Lib.itoa 2]=_
  rw[itoa2];rfl
 unfold zbq
 rw[if_neg (by rw[h];simp),h];rfl
theorem text1:zbq nd1=[99,112,117,61,49]:=by
 have h:pcs nd1 3=[[99,112,117,61,49]]:=by
  show [zgE nd1 0]=_
  unfold zgE
  show [_++61::Lib.itoa 1]=_
  rw[zC2];rfl
 unfold zbq
 rw[if_neg (by rw[h];simp),h];rfl
theorem okn1:okN nd1:=by unfold okN nd1;decide
theorem okn2:okN nd2:=by unfold okN nd2;decide
def wHost:List ByteArray:=[⟨#[104,111,115,116]⟩,⟨#[97]⟩,⟨#[99,112,117,61,50]⟩,⟨#[45]⟩]
theorem zuW:zap 32 ⟨#[104,111,115,116,32,97,32,99,112,117,61,50,32,45]⟩=wHost:=zjK 32 [104,111,115,116] [[97],[99,112,117,61,50],[45]] (by decide)
theorem zyY:zhE (wHost.getD 0 ⟨#[]⟩)=some 3:=by kernel_rfl
def zLk:List ByteArray:=[⟨#[115,117,98,109,105,116]⟩,⟨#[97,110,110]⟩,⟨#[48]⟩,⟨#[99,112,117,61,49]⟩,⟨#[45]⟩,⟨#[99,112,117,62,61,49]⟩]
theorem zzx:zap 32 ⟨#[115,117,98,109,105,116,32,97,110,110,32,48,32,99,112,117,61,49,32,45,32,99,112,117,62,61,49]⟩=zLk:=zjK 32 [115,117,98,109,105,116] [[97,110,110],[48],[99,112,117,61,49],[45],[99,112,117,62,61,49]] (by decide)
theorem zCl:zhE (zLk.getD 0 ⟨#[]⟩)=some 15:=by kernel_rfl
def wPlan:List ByteArray:=[⟨#[112,108,97,110]⟩]
theorem zuX:zap 32 ⟨#[112,108,97,110]⟩=wPlan:=zjK 32 [112,108,97,110] [] (by decide)
theorem zyZ:zhE (wPlan.getD 0 ⟨#[]⟩)=some 26:=by kernel_rfl
def wGood:List ByteArray:=[⟨#[103,111,111,100]⟩,⟨#[49]⟩]
theorem zuV:zap 32 ⟨#[103,111,111,100,32,49]⟩=wGood:=zjK 32 [103,111,111,100] [[49]] (by decide)
theorem zyX:zhE (wGood.getD 0 ⟨#[]⟩)=some 33:=by kernel_rfl
def wShow:List ByteArray:=[⟨#[115,104,111,119]⟩,⟨#[49]⟩]
theorem zuY:zap 32 ⟨#[115,104,111,119,32,49]⟩=wShow:=zjK 32 [115,104,111,119] [[49]] (by decide)
theorem zy0:zhE (wShow.getD 0 ⟨#[]⟩)=some 51:=by kernel_rfl
section
variable {N Fr_:zEN} {a:ByteArray} {σ':DS}
theorem zJu(h:doD (zqy N Fr_) ⟨#[104,111,115,116,32,97,32,99,112,117,61,50,32,45]⟩ (.shut []) a σ'):a=⟨#[111,107]⟩/\σ'=.shut [hostA]:=by
 obtain⟨c,s,hq,rfl⟩:=zuj zuW zyY rfl (fun h=>by cases h) h
 have h':zxi ⟨#[97]⟩ ⟨#[99,112,117,61,50]⟩ ⟨#[45]⟩ (.shut []) c s σ':=hq
 obtain⟨nd,e,hr,h'⟩:=h'
 obtain⟨q1,q2⟩:=(hr.2.2.1 nd2 okn2.pos (by rw[text2];rfl)).1 okn2
 subst q1;subst q2
 rcases h' with⟨h,_⟩|⟨_,h'⟩
 ·exact absurd rfl h
 have hl:zE5 ⟨#[45]⟩=some []:=by unfold zE5;rw[if_pos rfl]
 rw[hl] at h'
 have h2:c=zln ([]++[zoA ⟨#[97]⟩ [] nd2])/\((c≠0/\σ'=.shut [])\/(c=0/\s=⟨#[111,107]⟩/\σ'=.shut ([]++[zoA ⟨#[97]⟩ [] nd2]))):=h'
 have hz:zln ([]++[zoA ⟨#[97]⟩ [] nd2])=0:=by kernel_rfl
 obtain⟨hc,h3⟩:=h2
 rw[hz] at hc
 rcases h3 with⟨h,_⟩|⟨_,h4,h5⟩
 ·exact absurd hc h
 ·rw[hc,h4];exact⟨rfl,h5⟩
theorem zyQ:txt (.mk 3 zBs ⟨#[]⟩ 1 [])=[99,112,117,62,61,49]:=by
 unfold txt
 simp[zC2,zBs]
theorem zC6:okJ jobA:=⟨by kernel_rfl,by show -1000<=(0:Int)/\(0:Int)<=1000;omega,okn1,by kernel_rfl,by show(0:Nat)<=8;omega,by show upA 0 [];trivial⟩
theorem zC7:ofL (jtx jobA)=zof zLk 1:=by
 unfold jtx jps
 show ofL (Lib.join [[97,110,110],Lib.itoa 0,zbq nd1,[45],txt (.mk 3 zBs ⟨#[]⟩ 1 [])] [32])=_
 rw[itoa0,text1,zyQ];rfl
theorem do_sub(h:doD (zqy N Fr_) ⟨#[115,117,98,109,105,116,32,97,110,110,32,48,32,99,112,117,61,49,32,45,32,99,112,117,62,61,49]⟩ (.opn zF9) a σ'):a=⟨#[49]⟩/\σ'=.opn zqK:=by
 obtain⟨c,s,hq,rfl⟩:=zuj zzx zCl rfl (fun h=>rfl) h
 have h':zjm (zof zLk 1) (.opn zF9) c s σ':=hq
 obtain⟨e,j,hr,h'⟩:=h'
 have hJ:JT (zof zLk 1) jobA:=⟨zC6,by show nod (.mk 3 zBs ⟨#[]⟩ 1 [])<=_;unfold nod zj6;omega,zC7.symm,by show(txt (.mk 3 zBs ⟨#[]⟩ 1 [])).length<=_;rw[zyQ];decide⟩
 have hsz:(zof zLk 1).size<=3000:=by show(20:Nat)<=3000;omega
 obtain⟨rfl,rfl⟩:=hr.2.2.2 jobA hJ hsz
 rcases h' with⟨h,_⟩|⟨_,hS,h'⟩
 ·exact absurd rfl h
 have hc:c=0:=by
  rcases hS with⟨h,_⟩|⟨_,⟨h,_⟩|⟨_,⟨⟨y,hy,_⟩,_⟩|⟨_,⟨⟨y,hy,_⟩,_⟩|⟨_,h⟩⟩⟩⟩
  ·exact absurd (zi0.2 zC6) h
  ·exact absurd h (by decide)
  ·cases hy
  ·cases hy
  ·exact h
 rcases h' with⟨h,_⟩|⟨_,h4,h5⟩
 ·exact absurd hc h
 ·have:(((zF9.jobs.length:Nat):Int)+1)=1:=rfl
  rw[hc,h4,this,zC2];exact⟨rfl,h5⟩
theorem plan1:zdd zqK zw4 [(1,0)]:=by
 have hr:rdy zqK=[1]:=by kernel_rfl
 refine⟨[1],⟨by rw[hr],by simp⟩,?_⟩
 refine zqw.run (k:=0) ?_ (zqw.nil _)
 have hf:zb0 zqK.hosts (zad zqK ((1:Int)-1).toNat).job.ask (zad zqK ((1:Int)-1).toNat).job.nd zqK.hosts.length=[0]:=by kernel_rfl
 unfold zf1
 rw[hf]
 refine⟨by simp,fun j hj=>?_⟩
 simp at hj;subst hj
 exact⟨of_decide_eq_true (by kernel_rfl),fun h=>by omega⟩
theorem zJv(h:doD (zqy N Fr_) ⟨#[112,108,97,110]⟩ (.opn zqK) a σ'):a=⟨#[49,64,97]⟩/\σ'=.opn zw4:=by
 obtain⟨c,s,hq,rfl⟩:=zuj zuX zyZ rfl (fun h=>rfl) h
 have h':zxS (.opn zqK) c s σ':=hq
 obtain⟨rfl,G,outs,hp,rfl,rfl⟩:=h'
 obtain⟨rfl,rfl⟩:=zkO hp plan1
 refine⟨?_,rfl⟩
 unfold zAp zEj zis
 rw[if_pos rfl]
 show ofL (Lib.join [Lib.itoa 1++64::[97]] [32])=_
 rw[zC2];rfl
theorem zJt(h:doD (zqy N Fr_) ⟨#[103,111,111,100,32,49]⟩ (.opn zw4) a σ'):a=⟨#[111,107]⟩/\σ'=.opn zus:=by
 obtain⟨c,s,hq,rfl⟩:=zuj zuV zyX rfl (fun h=>by cases h) h
 have h':zra (zwx true) ⟨#[49]⟩ (.opn zw4) s c σ':=hq
 obtain⟨n,c1,hn,h'⟩:=h'
 obtain⟨rfl,rfl⟩:=zlD hn numR1
 rcases h' with⟨h,_⟩|⟨_,rfl,h'⟩
 ·exact absurd rfl h
 have h2:zwx true zw4 1 c σ':=h'
 have hcr:zCe zw4 1:=⟨⟨by omega,by show(1:Int)<=((1:Nat):Int);omega⟩,by kernel_rfl⟩
 rcases h2 with⟨_,_,h,_⟩|⟨h3,_,h4⟩
 ·exact absurd hcr h
 ·rw[h3];exact⟨rfl,h4⟩
theorem zJw(h:doD (zqy N Fr_) ⟨#[115,104,111,119,32,49]⟩ (.opn zus) a σ'):a=⟨#[100,111,110,101]⟩:=by
 obtain⟨c,s,hq,rfl⟩:=zuj zuY zy0 rfl (fun h=>by cases h) h
 have h':zEb ⟨#[49]⟩ (.opn zus) c s σ':=hq
 obtain⟨_,n,c1,hn,h'⟩:=h'
 obtain⟨rfl,rfl⟩:=zlD hn numR1
 rcases h' with⟨h,_⟩|⟨_,h'⟩
 ·exact absurd rfl h
 have h2:(inJ zus 1/\c=0/\s=zv3.getD (zad zus ((1:Int)-1).toNat).what.toNat ⟨#[]⟩)\/(¬inJ zus 1/\c=5):=h'
 have hin:inJ zus 1:=⟨by omega,of_decide_eq_true (by kernel_rfl)⟩
 rcases h2 with⟨_,h3,h4⟩|⟨h,_⟩
 ·have hw:(zad zus ((1:Int)-1).toNat).what=3:=by kernel_rfl
  rw[h3,h4,hw];rfl
 ·exact absurd hin h
end
theorem zc8.inv{R:zEO}{ls:List ByteArray}{l:ByteArray}{σ σ':DS}{us:List ByteArray}(h:zc8 R (ls++[l]) σ us σ'):∃us' σ1 a,us=us'++[a]/\zc8 R ls σ us' σ1/\doD R l σ1 a σ':=by
 generalize hX:ls++[l]=X at h
 cases h with
 |nil => simp at hX
 |@snoc ls' l' _ σ1 _ us' a hp hd =>
  obtain⟨rfl,h2⟩:=List.append_inj' hX rfl
  injection h2 with h2
  subst h2
  exact⟨us',σ1,a,rfl,hp,hd⟩
theorem zc8.inv0{R:zEO}{σ σ':DS}{us:List ByteArray}(h:zc8 R [] σ us σ'):us=[]/\σ'=σ:=by
 generalize hX:([]:List ByteArray)=X at h
 cases h with
 |nil => exact⟨rfl,rfl⟩
 |snoc => simp at hX
theorem zyB(p q:Option Addr)(c d:Nat)(A B:List ByteArray)(h63:(A.length:Int)<=9223372036854775806)(w:World)(hA:zau w p (A.map Value.string))(hB:zau w q (B.map Value.string)) :
  FnP Tryz.prog zax #[.slice p A.length c,.slice q B.length d] w fun v w'=>Ext w w'/\v=.bool (decide (A=B)):=by
 refine zeZ p A.length c q B.length d w _ ⟨fun hne w0 h0=>⟨h0,?_⟩,fun heq=>?_⟩
 ·rw[decide_eq_false]
  intro h;exact hne (by rw[h])
 refine⟨fun k w'=>w'=w/\0<=k/\k<=A.length/\A.take k.toNat=B.take k.toNat,fun k _=>(A.length-k).toNat,⟨rfl,by omega,by omega,by simp⟩,?_⟩
 rintro k w2 ⟨rfl,hk0,hk1,ht⟩
 refine⟨fun hlt=>?_,fun hge w3 h3=>⟨h3,?_⟩⟩
 ·obtain⟨x,hx⟩:∃x,A[k.toNat]?=some x:=⟨_,List.getElem?_eq_getElem (by omega)⟩
  obtain⟨y,hy⟩:∃y,B[k.toNat]?=some y:=⟨_,List.getElem?_eq_getElem (by omega)⟩
  have c1:Go.Sx.cell w2 (pIdx p k 1) 0=some (.string x):=by
   rw[zae];exact hA _ _ (by simp[hx])
  have c2:Go.Sx.cell w2 (pIdx q k 1) 0=some (.string y):=by
   rw[zae];exact hB _ _ (by simp[hy])
  refine⟨fun h=>zaj c1 (zah.2 h),hk0,hlt,x,c1,fun h=>zaj c2 (zah.2 h),hk0,by omega,y,c2,fun hne w5 h5=>⟨h5,?_⟩,fun he=>⟨i64 (by omega),⟨rfl,by omega,by omega,?_⟩,by simp only[];omega⟩⟩
  ·rw[decide_eq_false]
   intro h;rw[h,hy] at hx;injection hx with hx;exact hne hx.symm
  ·rw[show(k+1).toNat=k.toNat+1 by omega,List.take_add_one,List.take_add_one,ht,hx,hy,he]
 ·rw[decide_eq_true]
  rw[List.take_of_length_le (by omega),List.take_of_length_le (by omega)] at ht
  exact ht
def zfN:List ByteArray:=[⟨#[104,111,115,116,32,97,32,99,112,117,61,50,32,45]⟩,⟨#[111,112,101,110]⟩,⟨#[115,117,98,109,105,116,32,97,110,110,32,48,32,99,112,117,61,49,32,45,32,99,112,117,62,61,49]⟩,⟨#[112,108,97,110]⟩,⟨#[103,111,111,100,32,49]⟩,⟨#[115,104,111,119,32,49]⟩]
def zLj:List ByteArray:=[⟨#[111,107]⟩,⟨#[111,107]⟩,⟨#[49]⟩,⟨#[49,64,97]⟩,⟨#[111,107]⟩,⟨#[100,111,110,101]⟩]
theorem wPlays{N Fr_:zEN}{us:List ByteArray}{σ:DS}(h:zc8 (zqy N Fr_) zfN (.shut []) us σ):us=zLj:=by
 obtain⟨u5,σ5,a6,rfl,h,d6⟩:=zc8.inv (ls:=zfN.take 5) h
 obtain⟨u4,σ4,a5,rfl,h,d5⟩:=zc8.inv (ls:=zfN.take 4) h
 obtain⟨u3,σ3,a4,rfl,h,d4⟩:=zc8.inv (ls:=zfN.take 3) h
 obtain⟨u2,σ2,a3,rfl,h,d3⟩:=zc8.inv (ls:=zfN.take 2) h
 obtain⟨u1,σ1,a2,rfl,h,d2⟩:=zc8.inv (ls:=zfN.take 1) h
 obtain⟨u0,σ0,a1,rfl,h,d1⟩:=zc8.inv (ls:=[]) h
 obtain⟨rfl,rfl⟩:=h.inv0
 obtain⟨rfl,rfl⟩:=zJu d1
 obtain⟨rfl,rfl⟩:=zy4 d2
 obtain⟨rfl,rfl⟩:=do_sub d3
 obtain⟨rfl,rfl⟩:=zJv d4
 obtain⟨rfl,rfl⟩:=zJt d5
 obtain rfl:=zJw d6
 rfl
theorem wCalls(N Fr_:zEN):∀x∈zfN,zoQ (zqy N Fr_) x:=by
 intro x hx
 simp only[zfN,List.mem_cons,List.not_mem_nil,or_false] at hx
 rcases hx with rfl|rfl|rfl|rfl|rfl|rfl
 ·exact zlg zuW zyY (by decide) (by decide)
 ·exact zrF N Fr_
 ·exact zlg zzx zCl (by decide) (by decide)
 ·exact zlg zuX zyZ (by decide) (by decide)
 ·exact zlg zuV zyX (by decide) (by decide)
 ·exact zlg zuY zy0 (by decide) (by decide)
theorem ztF(w:World)(g:GD w)(h6:11<=w.heap.size):FnP Tryz.prog zar #[] w fun v w'=>Ext w w'/\v=.bool true:=by
 refine zjc w _ fun w0 x0=>zcG zbY (zfN.map Value.string) rfl rfl (fun u hu=>by obtain⟨x,_,rfl⟩:=List.mem_map.1 hu;rfl) (by omega) (by omega) fun w1 o1 e1=>⟨e1,_,_,_,rfl,fun w5 x5=>?_⟩
 have c1:=((o1 w0.heap.size (Nat.le_refl _)).ext x5).cells
 have hfl:((zfN.map Value.string).flatMap fun v=>v.cells.toList)=zfN.map Value.string:=rfl
 rw[hfl] at c1
 have hx:=(x0.trans e1).trans x5
 have hl:zfN.length=6:=rfl
 refine(zBG (zqy (fun _ _ _ _ _=>False) (fun _ _ _ _ _=>False)) zfN _ 6 w5 (g.ext hx) (Nat.le_trans h6 hx.size) c1 (by rw[hl];omega) (fun x hx=>?_) (wCalls _ _)).mono fun v w6 ⟨e6,hor⟩=>?_
 ·simp only[zfN,List.mem_cons,List.not_mem_nil,or_false] at hx
  rcases hx with rfl|rfl|rfl|rfl|rfl|rfl<;>decide
 rcases hor with⟨h,_⟩|⟨_,us,σ,q,d,hv,hp,oU⟩
 ·exact absurd h (by decide)
 obtain rfl:=wPlays hp
 refine⟨q,zfN.length,d,0,hv,fun _ w11 x11=>zcG zbY (zLj.map Value.string) rfl rfl (fun u hu=>by obtain⟨x,_,rfl⟩:=List.mem_map.1 hu;rfl) (by omega) (by omega) fun w12 o12 e12=>⟨e12,_,_,_,rfl,fun w16 x16=>?_⟩,fun h=>absurd rfl h⟩
 have c12:=((o12 w11.heap.size (Nat.le_refl _)).ext x16).cells
 have hfl2:((zLj.map Value.string).flatMap fun v=>v.cells.toList)=zLj.map Value.string:=rfl
 rw[hfl2] at c12
 refine(zyB q _ d 6 zLj zLj (by show((6:Nat):Int)<=_;omega) w16 (((oU.ext x11).ext e12).ext x16).cells c12).mono fun v w17 ⟨e17,hv⟩=>⟨e17,_,hv,fun w19 x19=>⟨?_,by simp⟩⟩
 exact((((hx.trans e6).trans x11).trans e12).trans x19)
abbrev zbW:FuncId:=9
abbrev zdL:FuncId:=42
def zk4(O:Option Addr)(P R:Nat)(S T U V:Int)(c:Option Addr)(m W:Nat)(J:World)(K:Value->World->Prop):Prop:=
 ∀d:Nat,J.heap.size<=d->∀e,zag [] [d] J e->FnP Tryz.prog zcZ #[(.agg #[(.slice O P R),(.int .i64 S),(.int .i64 T),(.int .i64 U),(.int .i64 V)])] e fun M j=>Ext e j/\∃f g,M=(.tuple #[(.pointer f),(.int .i64 g)])/\((g≠0)->∀n,Ext j n->K (.pointer none) n)/\((g=0)->∃(l:Int->World->Prop) (I:Int->World->Nat),l 0 j/\∀(a:Int)(b:World),l a b->(((a<(m:Int))->c≠none/\(0:Int)<=a/\(a:Int)<(m:Int)/\(pIdx c a 15)≠none/\∃o,cell b (pIdx c a 15) 0=some (.int .i64 o)/\∃p,cell b (pIdx c a 15) 1=some (.string p)/\∃q,cell b (pIdx c a 15) 2=some (.int .i64 q)/\∃r,cell b (pIdx c a 15) 3=some (.int .i64 r)/\∃s,cell b (pIdx c a 15) 4=some (.int .i64 s)/\∃t,cell b (pIdx c a 15) 5=some (.int .i64 t)/\∃u,cell b (pIdx c a 15) 6=some (.int .i64 u)/\∃v,cell b (pIdx c a 15) 7=some (.string v)/\∃w,cell b (pIdx c a 15) 8=some (.string w)/\∃x,cell b (pIdx c a 15) 9=some (.int .i64 x)/\∃y z A,cell b (pIdx c a 15) 10=some (.slice y z A)/\∃B C D,cell b (pIdx c a 15) 11=some (.slice B C D)/\∃E,cell b (pIdx c a 15) 12=some (.int .i64 E)/\∃F,cell b (pIdx c a 15) 13=some (.int .i64 F)/\∃G,cell b (pIdx c a 15) 14=some (.bool G)/\∀h:Nat,b.heap.size<=h->∀i,zag [] [d,h] b i->FnP Tryz.prog zcx #[(.pointer f),(.agg #[(.int .i64 o),(.string p),(.int .i64 q),(.int .i64 r),(.int .i64 s),(.int .i64 t),(.int .i64 u),(.string v),(.string w),(.int .i64 x),(.slice y z A),(.slice B C D),(.int .i64 E),(.int .i64 F),(.bool G)])] i fun N k=>zbK [d,h] i k/\∃L,N=(.int .i64 L)/\InR .i64 (a+1)/\(l (a+1) k/\I (a+1) k<I a b)))/\(((m:Int)<=a)->∀H,Ext b H->K (.pointer f) H))
theorem zkN(a:Option Addr)(b c:Nat)(d e f g:Int)(i:Option Addr)(j k:Nat)(l:World)(m:Value->World->Prop)(h:zk4 a b c d e f g i j k l m):FnP Tryz.prog zdL #[(.agg #[(.slice a b c),(.int .i64 d),(.int .i64 e),(.int .i64 f),(.int .i64 g)]),(.slice i j k)] l m:=
 zab (Eq.mp (by kernel_rfl:_=Runs Tryz.prog m ({N:=27,muts:=[21,29,22,24,81,32,37,307]}:Cfg) Tryz.f42 (Tryz.f42.body.getD .skip) [.agg [.slc a b c,.int .i64 d,.int .i64 e,.int .i64 f,.int .i64 g],.sc (.slc i j k)] l) h) Tryz.func42 (by kernel_rfl) (fun a w=>Tryz.call42 a w) (by kernel_rfl) (by kernel_rfl) rfl rfl
def zf0(aj:Option Addr)(ak al:Nat)(am an ao ap:Int)(c:Option Addr)(y a7:Nat)(aM:World)(B:Value->World->Prop):Prop:=
 ∀d:Nat,aM.heap.size<=d->∀E,zag [] [d] aM E->FnP Tryz.prog zmq #[(.agg #[(.slice aj ak al),(.int .i64 am),(.int .i64 an),(.int .i64 ao),(.int .i64 ap)])] E fun aS z=>Ext E z/\∃p F,aS=(.tuple #[(.pointer p),(.int .i64 F)])/\∀G,Ext z G->FnP Tryz.prog zar #[] G fun aT aU=>Ext G aU/\∃H,aT=(.bool H)/\((((((H=false)\/(F≠0))\/(p=none))\/(20<(y:Int)))->∀I,Ext z I->FnP Tryz.prog zar #[] I fun aV aW=>Ext I aW/\∃aq,aV=(.bool aq)/\∀b,Ext z b->B (.bool aq) b))/\(((((H=true)/\(F=0))/\(p≠none))/\((y:Int)<=20))->∃(C:Option Addr->Nat->Nat->Int->World->Prop) (D:Option Addr->Nat->Nat->Int->World->Nat),C none 0 0 0 z/\∀(n:Option Addr)(e:Nat)(o:Nat)(a:Int)(b:World),C n e o a b->(((a<(y:Int))->c≠none/\(0:Int)<=a/\(a:Int)<(y:Int)/\(pIdx c a 15)≠none/\∃J,cell b (pIdx c a 15) 0=some (.int .i64 J)/\∃K,cell b (pIdx c a 15) 1=some (.string K)/\∃q,cell b (pIdx c a 15) 2=some (.int .i64 q)/\∃L,cell b (pIdx c a 15) 3=some (.int .i64 L)/\∃M,cell b (pIdx c a 15) 4=some (.int .i64 M)/\∃N,cell b (pIdx c a 15) 5=some (.int .i64 N)/\∃O,cell b (pIdx c a 15) 6=some (.int .i64 O)/\∃r,cell b (pIdx c a 15) 7=some (.string r)/\∃P,cell b (pIdx c a 15) 8=some (.string P)/\∃R,cell b (pIdx c a 15) 9=some (.int .i64 R)/\∃h S T,cell b (pIdx c a 15) 10=some (.slice h S T)/\∃f U V,cell b (pIdx c a 15) 11=some (.slice f U V)/\∃W,cell b (pIdx c a 15) 12=some (.int .i64 W)/\∃g,cell b (pIdx c a 15) 13=some (.int .i64 g)/\∃X,cell b (pIdx c a 15) 14=some (.bool X)/\∀s:Nat,b.heap.size<=s->∀Y,zag [] [d,s] b Y->FnP Tryz.prog zgo #[(.pointer p),(.agg #[(.int .i64 J),(.string K),(.int .i64 q),(.int .i64 L),(.int .i64 M),(.int .i64 N),(.int .i64 O),(.string r),(.string P),(.int .i64 R),(.slice h S T),(.slice f U V),(.int .i64 W),(.int .i64 g),(.bool X)])] Y fun aX aF=>zbK [d,s] Y aF/\∃aN,aX=(.int .i64 aN)/\∀i,zag [] [d,s] aF i->FnP Tryz.prog zb4 #[(.agg #[(.int .i64 J),(.string K),(.int .i64 q),(.int .i64 L),(.int .i64 M),(.int .i64 N),(.int .i64 O),(.string r),(.string P),(.int .i64 R),(.slice h S T),(.slice f U V),(.int .i64 W),(.int .i64 g),(.bool X)])] i fun ah x=>Ext i x/\∃t ar au j,ah=(.tuple #[(.slice t ar au),(.int .i64 j)])/\(((j=0)->∀k,zag [] [d,s] x k->Run Tryz.prog (.append #[93,93] 93 [(.slice n e o),(.slice t ar au)]) k fun ai A=>zbK [d,s] k A/\∃l Z aa,ai=(.slice l Z aa)/\InR .i64 (a+1)/\(C l Z aa (a+1) A/\D l Z aa (a+1) A<D n e o a b)))/\((j≠0)->InR .i64 (a+1)/\(C n e o (a+1) x/\D n e o (a+1) x<D n e o a b))))/\(((y:Int)<=a)->((100000<(e:Int))->∀u,Ext b u->B (.bool true) u)/\(((e:Int)<=100000)->∀u,zag [] [d] b u->FnP Tryz.prog zc1 #[(.pointer p)] u fun aY aG=>Ext u aG/\∃q av aw,aY=(.slice q av aw)/\∀ab,zag [] [d] aG ab->FnP Tryz.prog zhq #[(.slice q av aw)] ab fun aZ aH=>Ext ab aH/\∃r ax ay h,aZ=(.tuple #[(.slice r ax ay),(.int .i64 h)])/\∀ac,zag [] [d] aH ac->FnP Tryz.prog zhu #[(.agg #[(.slice aj ak al),(.int .i64 am),(.int .i64 an),(.int .i64 ao),(.int .i64 ap)]),(.slice r ax ay)] ac fun a0 aI=>Ext ac aI/\∃f ad,a0=(.tuple #[(.pointer f),(.int .i64 ad)])/\∀ae,zag [] [d] aI ae->FnP Tryz.prog zdL #[(.agg #[(.slice aj ak al),(.int .i64 am),(.int .i64 an),(.int .i64 ao),(.int .i64 ap)]),(.slice c y a7)] ae fun a1 aJ=>Ext ae aJ/\∃g,a1=(.pointer g)/\∀af,zag [] [d] aJ af->FnP Tryz.prog zc1 #[(.pointer p)] af fun a2 m=>Ext af m/\∃az aA aB,a2=(.slice az aA aB)/\∀i,Ext m i->FnP Tryz.prog zbb #[(.slice az aA aB),(.slice n e o)] i fun ah x=>Ext i x/\∃t,ah=(.bool t)/\(((((((t=true)/\(h=(e:Int)))/\(ad=0))/\(f≠none))/\(g≠none))->∀v,Ext m v->FnP Tryz.prog zby #[(.pointer f)] v fun a3 a4=>Ext v a4/\∃j,a3=(.int .i64 j)/\∀k,Ext m k->FnP Tryz.prog zby #[(.pointer g)] k fun ai A=>Ext k A/\∃l,ai=(.int .i64 l)/\(((j=l)->∀w,zag [] [d] m w->FnP Tryz.prog zaA #[(.pointer f)] w fun a5 aK=>Ext w aK/\∃aO aC aP,a5=(.slice aO aC aP)/\∀ag,zag [] [d] aK ag->FnP Tryz.prog zaA #[(.pointer g)] ag fun a6 aL=>Ext ag aL/\∃aQ aD aR,a6=(.slice aQ aD aR)/\∀aE,Ext aL aE->B (.bool (decide ((aC:Int)=(aD:Int)))) aE))/\((j≠l)->∀w,Ext m w->B (.bool false) w)))/\((((((t=false)\/(h≠(e:Int)))\/(ad≠0))\/(f=none))\/(g=none))->∀v,Ext m v->B (.bool false) v))))
theorem zfV(a:Option Addr)(b c:Nat)(d e f g:Int)(i:Option Addr)(j k:Nat)(l:World)(m:Value->World->Prop)(h:zf0 a b c d e f g i j k l m):FnP Tryz.prog zbW #[(.agg #[(.slice a b c),(.int .i64 d),(.int .i64 e),(.int .i64 f),(.int .i64 g)]),(.slice i j k)] l m:=
 zab (Eq.mp (by kernel_rfl:_=Runs Tryz.prog m ({N:=114,muts:=[21,29,22,24,81,32,37,307]}:Cfg) Tryz.f9 (Tryz.f9.body.getD .skip) [.agg [.slc a b c,.int .i64 d,.int .i64 e,.int .i64 f,.int .i64 g],.sc (.slc i j k)] l) h) Tryz.func9 (by kernel_rfl) (fun a w=>Tryz.call9 a w) (by kernel_rfl) (by kernel_rfl) rfl rfl
theorem zoD(W:World)(R:Array Value->Prop)(h:∀x_0:Option Addr,∀x_0l:Nat,∀x_0c:Nat,zaC Tryz.prog W 76 x_0 x_0l x_0c->∀x_1:Int,InR .i64 x_1->∀x_2:Int,InR .i64 x_2->∀x_3:Int,InR .i64 x_3->∀x_4:Int,InR .i64 x_4->∀l:Option Addr,∀ll:Nat,∀lc:Nat,zaC Tryz.prog W 80 l ll lc->R #[(.agg #[(.slice x_0 x_0l x_0c),(.int .i64 x_1),(.int .i64 x_2),(.int .i64 x_3),(.int .i64 x_4)]),(.slice l ll lc)])(args:Array Value)(hg:zcD Tryz.prog W Tryz.f9.params.toList args.toList):R args:=by
 have e_:(zeP Tryz.prog W Tryz.f9.params.toList fun l=>R l.toArray)=(∀x_0:Option Addr,∀x_0l:Nat,∀x_0c:Nat,zaC Tryz.prog W 76 x_0 x_0l x_0c->∀x_1:Int,InR .i64 x_1->∀x_2:Int,InR .i64 x_2->∀x_3:Int,InR .i64 x_3->∀x_4:Int,InR .i64 x_4->∀l:Option Addr,∀ll:Nat,∀lc:Nat,zaC Tryz.prog W 80 l ll lc->R #[(.agg #[(.slice x_0 x_0l x_0c),(.int .i64 x_1),(.int .i64 x_2),(.int .i64 x_3),(.int .i64 x_4)]),(.slice l ll lc)]):=by kernel_rfl
 exact zfu (by rw[e_];exact h) args hg
def run(l t:Int):List UInt8:=if l<t then Lib.itoa l++45::Lib.itoa t else Lib.itoa l
theorem zfF(p:Option Addr)(c:Nat):pCut p c 0 1=p:=by
 unfold pCut
 split
 ·rfl
 ·cases p<;>simp[add_zero]
theorem zxe{w:World}(g:GD w):11<=w.heap.size:=by
 have h:=g.gc.2 0 (by omega)
 obtain⟨a,ha,hb,_⟩:=zdQ h
 obtain rfl:=Option.some.inj ha
 exact hb
end Go.Proofs.YtcceeahmcecbnaaGreatDoor
namespace Go.Proofs.YtcceeahmcecbnaaGreatDoor
open Go.Sx Go.RowKit Go.ChangeShapes Go.WideShapes Go.ChangeAt
def zx7(ss:List ByteArray):DataW Unit:=.agg (ss.map fun s=>.lit (.string s.data.toList))
theorem zsq{enc:TypeId×Value->Unit}{P:Program}{w:World}{base:Nat}{sp:Nat->Bool}{held:Bool}{fuel:Nat}{t e:TypeId}{n:Nat}{cs:List Value}{ss:List ByteArray}{p:List MemPlace}
  (ht:P.underlying t=some (.array n e)) (he:P.underlying e=some .string) (hce:P.cellsOf e=1) (hct:P.cellsOf t=n)
  (h:DataW.trod enc P w base sp held fuel t cs=some (zx7 ss,p)):cs=ss.map Value.string:=by
 cases fuel with
 |zero => simp[DataW.trod] at h
 |succ fuel =>
  simp only[DataW.trod,ht,hce,hct,Nat.mul_one] at h
  split at h
  ·rename_i hl
   obtain⟨xs,hm,hx⟩:=Option.map_eq_some_iff.1 h
   have hxs:xs.map (·.1)=ss.map fun s=>(DataW.lit (.string s.data.toList):DataW Unit):=by
    have:=congrArg Prod.fst hx
    simpa[zx7] using this
   have hxl:xs.length=n:=by simpa using Lib.mapM_length hm
   have hzl:ss.length=n:=by
    have:=congrArg List.length hxs
    simp at this
    omega
   apply List.ext_getElem?
   intro i
   by_cases hi:i<n
   ·obtain⟨b,hb,hf⟩:=Lib.mapM_at hm i i (by simp[hi])
    obtain⟨s,hc,rfl,_⟩:=DataW.trod_string he hf
    have h1:cs[i]?=some (.string s):=by
     have:=congrArg (·[0]?) hc
     simpa[List.getElem?_take,List.getElem?_drop] using this
    have h2:(xs.map (·.1))[i]?=some (DataW.lit (.string s.data.toList):DataW Unit):=by simp[hb]
    rw[hxs] at h2
    simp only[List.getElem?_map,Option.map_eq_some_iff,DataW.lit.injEq,Lit.string.injEq] at h2
    obtain⟨z',hz',he'⟩:=h2
    have:z'=s:=by
     have:=congrArg ofL he'
     rwa [zcb,zcb] at this
    subst this
    simp[h1,hz']
   ·rw[List.getElem?_eq_none (by omega),List.getElem?_eq_none (by simp;omega)]
  ·cases h
theorem zAP{P:Program}{W:World}{l:List (String×DataW Unit)}(h:laidMet P l W)(hp:(l.all fun x=>x.2.handleName?.isNone)=true):laidMetH P l W:=by
 have hnone:(l.filter fun x=>x.2.handleName?.isSome)=[]:=by
  rw[List.filter_eq_nil_iff]
  intro a ha hs
  have:=List.all_eq_true.1 hp a ha
  cases hh:a.2.handleName?<;>simp_all
 unfold laidMetH
 rw[hnone]
 exact h
theorem zDc{P:Program}{W:World}{l:List (String×DataW Unit)}(h:laidMet P l W){name:String}{ss:List ByteArray}
  (hm:(name,zx7 ss)∈l) {g:Nat} {t e:TypeId} {n:Nat} (hg:P.globalNamed name=some g) (hty:(P.globals[g]?).map (·.type)=some t)
  (ht:P.underlying t=some (.array n e)) (he:P.underlying e=some .string) (hce:P.cellsOf e=1) (hct:P.cellsOf t=n):zau W (some ⟨g,0,none⟩) (ss.map Value.string):=by
 obtain⟨ps,hL,_⟩:=h
 obtain⟨g',t',cs,fuel,p,h1,h2,h3,h4⟩:=zeF hL _ hm
 obtain rfl:=Option.some.inj (hg.symm.trans h1)
 obtain rfl:=Option.some.inj (hty.symm.trans h2)
 have hcs:=zsq ht he hce hct h4
 intro i v hv
 have h5:=World.var?_cell hg h3 i
 have hlen:cs[i]?=some v:=by
  have:cs.toList[i]?=some v:=by rw[hcs];exact hv
  simpa using this
 rw[hlen] at h5
 have ha:(Addr.add ⟨g,0,none⟩ i)=⟨g,i,none⟩:=by
  unfold Addr.add
  by_cases h0:i=0
  ·subst h0;rfl
  ·rw[if_neg h0];simp
 show W.cell? (Addr.add ⟨g,0,none⟩ i)=some v
 rw[ha];exact h5
theorem zvZ{P:Program}{W:World}{name:String}{zs:List Int}{k:IntKind}(h:Lib.TabIs P W name k zs){g:Nat}(hg:P.globalNamed name=some g):zau W (some ⟨g,0,none⟩) (zs.map fun z=>Value.int k z):=by
 intro i v hv
 have h5:=World.var?_cell hg h i
 have hlen:((zs.map fun z=>Value.int k z).toArray)[i]?=some v:=by simpa using hv
 rw[hlen] at h5
 have ha:(Addr.add ⟨g,0,none⟩ i)=⟨g,i,none⟩:=by
  unfold Addr.add
  by_cases h0:i=0
  ·subst h0;rfl
  ·rw[if_neg h0];simp
 show W.cell? (Addr.add ⟨g,0,none⟩ i)=some v
 rw[ha];exact h5
def lD : List (String × DataW Unit) := [("math/bits.deBruijn32tab", Rows.laid_math_bits_deBruijn32tab), ("math/bits.deBruijn64tab", Rows.laid_math_bits_deBruijn64tab), ("internal/strconv.uint64pow10", Rows.laid_internal_strconv_uint64pow10), ("shiftbell/civil.ahead", Rows.laid_shiftbell_civil_ahead), ("unicode/utf8.acceptRanges", Rows.laid_unicode_utf8_acceptRanges), ("errors.errorType", Rows.laid_errors_errorType), ("strconv.ErrRange", Rows.laid_strconv_ErrRange), ("strconv.ErrSyntax", Rows.laid_strconv_ErrSyntax), ("shiftbell/desk.whats", Rows.laid_shiftbell_desk_whats), ("unicode/utf8.first", Rows.laid_unicode_utf8_first)]
def lD9 : List (String × DataW Unit) := [("math/bits.deBruijn32tab", Rows.laid_math_bits_deBruijn32tab), ("math/bits.deBruijn64tab", Rows.laid_math_bits_deBruijn64tab), ("internal/strconv.uint64pow10", Rows.laid_internal_strconv_uint64pow10), ("shiftbell/civil.ahead", Rows.laid_shiftbell_civil_ahead), ("unicode/utf8.acceptRanges", Rows.laid_unicode_utf8_acceptRanges), ("strconv.ErrRange", Rows.laid_strconv_ErrRange), ("strconv.ErrSyntax", Rows.laid_strconv_ErrSyntax), ("shiftbell/desk.whats", Rows.laid_shiftbell_desk_whats), ("unicode/utf8.first", Rows.laid_unicode_utf8_first)]
theorem zGx {W : World} (h : laidMetH Tryz.prog lD W) : laidMet Tryz.prog lD9 W /\ handlesMet Tryz.prog [("errors.errorType", Rows.laid_errors_errorType)] W := by
 have e1 : (lD.filter fun x => x.2.handleName?.isSome) = [("errors.errorType", Rows.laid_errors_errorType)] := by kernel_rfl
 have e2:(lD.filter fun x=>x.2.handleName?.isNone)=lD9:=by kernel_rfl
 unfold laidMetH at h
 rw[e1,e2] at h
 exact h
theorem zJJ {W : World} (h : handlesMet Tryz.prog [("errors.errorType", Rows.laid_errors_errorType)] W) : Go.Sx.cell W (some ⟨0, 0, none⟩) 0 = some errT := by
 obtain⟨name,u,ty,e1,e2,e3,e4,e5⟩:=h _ (List.mem_singleton.2 rfl)
 have en:name=[101,114,114,111,114]:=(Option.some.inj e1).symm
 subst en
 have hrt : (Tryz.prog.cutTypes.find? (·.1 == "internal/reflectlite.rtype")).map (·.2) = some 329 := by kernel_rfl
 obtain rfl:=Option.some.inj (hrt.symm.trans e2)
 have hsz:Tryz.prog.types.size=439:=by kernel_rfl
 have hone:((List.range 439).filter fun t=>Tryz.prog.rowNamed t [101,114,114,111,114])=[175]:=by kernel_rfl
 have hm:ty∈(List.range 439).filter fun t=>Tryz.prog.rowNamed t [101,114,114,111,114]:=List.mem_filter.2 ⟨List.mem_range.2 (by rw[<-hsz];exact e3),e4⟩
 rw[hone] at hm
 obtain rfl:=List.mem_singleton.1 hm
 have hh:typeHandle Tryz.prog 175=.pointer (some ⟨11,175,none⟩):=by kernel_rfl
 rw[hh] at e5
 have et : Tryz.prog.globalNamed "errors.errorType" = some 0 := by kernel_rfl
 have:=World.var?_cell et e5 0
 exact zgu (this.trans (by unfold errT;rfl))
theorem laid_okD{W:World}(h:laidMetH Tryz.prog lD W)(hsp:W.ShapedOpen Tryz.prog):GD W:=by
 obtain⟨h9,hh⟩:=zGx h
 have hp:(lD9.all fun x=>x.2.handleName?.isNone)=true:=by kernel_rfl
 have h9':=zAP h9 hp
 refine⟨gb_of h9' hsp hp (by simp[lD9]) (by simp[lD9]) (by simp[lD9]),?_,zJJ hh,?_,?_⟩
 ·have hm : ("shiftbell/desk.whats", (Rows.laid_shiftbell_desk_whats : DataW Unit)) ∈ lD9 := by simp [lD9]
  exact zDc h9 (name := "shiftbell/desk.whats") (ss := zv3) (by exact hm) (g := 4) (t := (Tryz.prog.globals[4]?).elim 0 (·.type)) (e := 9) (n := 6) (by kernel_rfl) (by kernel_rfl) (by kernel_rfl) (by kernel_rfl) (by kernel_rfl) (by kernel_rfl)
 ·have hm : ("math/bits.deBruijn64tab", (Rows.laid_math_bits_deBruijn64tab : DataW Unit)) ∈ lD9 := by simp [lD9]
  have ht := zvZ (zsR h9' hp (name := "math/bits.deBruijn64tab") (k := .u8) (zs := Lib.deBruijn64tab.map Int.ofNat) (by exact hm) (g := 9) (t := (Tryz.prog.globals[9]?).elim 0 (·.type)) (e := 5) (n := 64) (by kernel_rfl) (by kernel_rfl) (by kernel_rfl) (by kernel_rfl) (by kernel_rfl) (by kernel_rfl)) (g := 9) (by kernel_rfl)
  intro i hi
  refine ht i _ ?_
  have hl:i<Lib.deBruijn64tab.length:=hi
  rw[List.getElem?_map,List.getElem?_map,List.getD_eq_getElem?_getD,List.getElem?_eq_getElem hl]
  rfl
 ·have hm : ("shiftbell/civil.ahead", (Rows.laid_shiftbell_civil_ahead : DataW Unit)) ∈ lD9 := by simp [lD9]
  have ht := zvZ (zsR h9' hp (name := "shiftbell/civil.ahead") (k := .i64) (zs := [0, 0, 31, 59, 90, 120, 151, 181, 212, 243, 273, 304, 334]) (by exact hm) (g := 10) (t := (Tryz.prog.globals[10]?).elim 0 (·.type)) (e := 3) (n := 13) (by kernel_rfl) (by kernel_rfl) (by kernel_rfl) (by kernel_rfl) (by kernel_rfl) (by kernel_rfl)) (g := 10) (by kernel_rfl)
  intro i hi
  refine ht i _ ?_
  match i,hi with
  |0,_|1,_|2,_|3,_|4,_|5,_|6,_|7,_|8,_|9,_|10,_|11,_|12,_ => rfl
noncomputable def preD (os:Os):World:=(World.holding Tryz.prog os ⟨#[],#[],[]⟩).setCell ⟨0,0,none⟩ errT
noncomputable def zEi (os:Os):World:=(preD os).layVars Tryz.prog lD9
theorem startD_os(os:Os):(zEi os).os=os:=World.layVars_os _ _ _
theorem door_D(os:Os)(args:Array Value):laidMetH Tryz.prog lD ((zEi os).forCall (fun _ _=>0) ⟨#[],args,[]⟩).memory:=by
 have e1 : (lD.filter fun x => x.2.handleName?.isSome) = [("errors.errorType", Rows.laid_errors_errorType)] := by kernel_rfl
 have e2:(lD.filter fun x=>x.2.handleName?.isNone)=lD9:=by kernel_rfl
 unfold laidMetH
 rw[e1,e2]
 refine⟨?_,?_⟩
 ·have a1:(lD9.filter fun x=>(lD9.map (·.1)).contains x.1)=lD9:=List.filter_eq_self.2 fun x hx=>List.contains_iff_mem.2 (List.mem_map.2 ⟨x,hx,rfl⟩)
  have a2:(lD9.filter fun x=>!(lD9.map (·.1)).contains x.1)=[]:=List.filter_eq_nil_iff.2 fun x hx=>by rw[List.contains_iff_mem.2 (List.mem_map.2 ⟨x,hx,rfl⟩)];simp
  have h:laidMet Tryz.prog lD9 (zEi os):=laidMet_layVars (w0:=preD os) (lD9.map (·.1)) [] (by rw[a1];rfl) (by rw[a1];kernel_rfl) (by rw[a1];kernel_rfl) (by rw[a2];exact LaidIn.none)
  exact h.of_heap (by simp[World.memory,World.forCall,Input.heap])
 ·intro x hx
  obtain rfl:=List.mem_singleton.1 hx
  exact⟨[101,114,114,111,114],329,175,rfl,by kernel_rfl,of_decide_eq_true (by kernel_rfl),by kernel_rfl,by kernel_rfl⟩
end Go.Proofs.YtcceeahmcecbnaaGreatDoor
