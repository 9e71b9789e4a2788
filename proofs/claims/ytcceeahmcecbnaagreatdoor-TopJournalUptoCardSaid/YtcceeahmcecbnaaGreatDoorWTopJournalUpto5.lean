/- The framework, the program's texts and what is shown of them: part 5. -/
import Derived.Test.YtcceeahmcecbnaaGreatDoorWTopJournalUpto4
import Derived.Test.YtcceeahmcecbnaaGreatDoorRows
import Derived.Orders
set_option linter.unusedVariables false
set_option linter.unusedSimpArgs false
set_option maxRecDepth 100000
namespace Go.Proofs.YtcceeahmcecbnaaGreatDoor
open Go.Sx Go.RowKit
theorem zqI:zfW Tryz.prog zek=some (za9,1,8,.pointer none):=by kernel_rfl
def thc(t:Th)(k:Nat):List Value:=[.int .i64 t.prio,.int .i64 t.id,.int .i64 t.born,.int .i64 (k:Int)]
def ptr(b:Nat):Option Addr:=some ⟨b,0,none⟩
def pv(t:Th):Value:=.pointer (ptr t.b)
theorem zaB(b:Nat):ptr b≠none:=by simp[ptr]
theorem zb9{a b:Nat}(h:a≠b):zbU (ptr a) (ptr b):=fun x y hx hy=>by cases hx;cases hy;exact h
theorem zjB{a:Nat}{p:Option Addr}(h:∀x,p=some x->a≠x.block):zbU (ptr a) p:=fun x y hx hy=>by cases hx;exact h y hy
def zjz(qb:Nat)(p:Option Addr)(H:List Th)(b:Nat):Prop:=b=qb\/(∃a,p=some a/\a.block=b)\/∃t∈H,t.b=b
theorem zph{qb:Nat}{p:Option Addr}{H G:List Th}(h:H.Perm G)(b:Nat):zjz qb p H b↔zjz qb p G b:=by
 unfold zjz
 constructor<;>rintro (h1|h1|⟨t,ht,h1⟩)
 ·exact .inl h1
 ·exact .inr (.inl h1)
 ·exact .inr (.inr ⟨t,h.mem_iff.1 ht,h1⟩)
 ·exact .inl h1
 ·exact .inr (.inl h1)
 ·exact .inr (.inr ⟨t,h.mem_iff.2 ht,h1⟩)
structure QI(B:Nat)(w:World)(qb:Nat)(x y:Value)(p:Option Addr)(c:Nat)(H:List Th):Prop where
 slot:Own B w zla 3 (ptr qb) 1 1 [.slice p H.length c,x,y]
 arr:Own B w za9 1 p H.length c (H.map pv)
 th:∀k,k<H.length->Own B w zam 4 (ptr (at_ H k).b) 1 1 (thc (at_ H k) k)
 inj:∀i k,i<H.length->k<H.length->(at_ H i).b=(at_ H k).b->i=k
 aq:∀i,i<H.length->(at_ H i).b≠qb
 ap:∀a,p=some a->a.block≠qb/\∀i,i<H.length->(at_ H i).b≠a.block
section
variable {B qb:Nat} {x y:Value} {p:Option Addr} {c:Nat} {H:List Th} {w:World}
theorem QI.ext{w':World}(q:QI B w qb x y p c H)(h:Ext w w'):QI B w' qb x y p c H:=⟨q.slot.ext h,q.arr.ext h,fun k hk=>(q.th k hk).ext h,q.inj,q.aq,q.ap⟩
theorem QI.fr{S:Nat->Prop}{w':World}(q:QI B w qb x y p c H)(h:Fr S w w')(hs:∀b,zjz qb p H b->¬S b):QI B w' qb x y p c H :=
 ⟨q.slot.fr h fun a ha=>by cases ha;exact hs _ (.inl rfl),q.arr.fr h fun a ha=>hs _ (.inr (.inl ⟨a,ha,rfl⟩)),fun k hk=>(q.th k hk).fr h fun a ha=>by cases ha;exact hs _ (.inr (.inr ⟨_,zB2 H hk,rfl⟩)),q.inj,q.aq,q.ap⟩
theorem QI.foot(q:QI B w qb x y p c H){b:Nat}(h:zjz qb p H b):B<=b/\b<w.heap.size:=by
 rcases h with rfl|⟨a,ha,rfl⟩|⟨t,ht,rfl⟩
 ·exact q.slot.lt _ rfl
 ·exact q.arr.lt a ha
 ·obtain⟨k,hk,rfl⟩:=zIb ht
  exact(q.th k hk).lt _ rfl
theorem QI.ne(q:QI B w qb x y p c H)(h:0<H.length):p≠none:=q.arr.ne1 h (by omega)
theorem map_at{i:Nat}(h:i<H.length):(H.map pv)[i]?=some (pv (at_ H i)):=by
 unfold at_
 rw[List.getElem?_map,List.getElem?_eq_getElem h,List.getD_eq_getElem?_getD,List.getElem?_eq_getElem h];rfl
theorem zoZ{e:TypeId}{n:Nat}(o:Own B w e 1 p n c (H.map pv)){i:Int}(h0:0<=i)(h:i.toNat<H.length):cell w (pIdx p i 1) 0=some (.pointer (ptr (at_ H i.toNat).b)):=by
 rw[zae]
 have:=o.cells (i.toNat*1+0) (pv (at_ H i.toNat)) (by rw[Nat.mul_one,Nat.add_zero];exact map_at h)
 exact this
theorem zvY{e:TypeId}{n:Nat}{q:Option Addr}{xs:List Value}{v:Value}{ns:List Nat}{i:Int}{K:World->Prop}(ho:Own B w e 1 q n c xs)(hi:i.toNat<xs.length)(h1:v.oneCell'=true)(hns:∀b∈ns,∀x,q=some x->x.block≠b)
  (hk:∀w',Own B w' e 1 q n c (xs.set i.toNat v)->zco w w' q q->K w'):zan w (pIdx q i 1) [v] ns K :=
 zaS ho (by rw[ztk,Nat.mul_one]) (by simp;omega) (by simp) (by simpa using h1) hns hk
theorem zI3{t u:Th}{i k:Nat}(ht:Own B w zam 4 (ptr t.b) 1 1 (thc t i))(hu:Own B w zam 4 (ptr u.b) 1 1 (thc u k)) :
  FnP Tryz.prog zdp #[.pointer (ptr t.b),.pointer (ptr u.b)] w fun v w'=>Ext w w'/\v=.bool (decide (ahead t u)):=by
 refine zjW (ptr t.b) (ptr u.b) w _ ?_
 unfold ze5
 simp only[zaR]
 have nt:=zaB t.b
 have nu:=zaB u.b
 refine⟨nt,nt,nt,_,ht.cellAt (i:=0) rfl,nu,nu,nu,_,hu.cellAt (i:=0) rfl,fun _=>nt,fun _=>nt,fun _=>nt,fun hlt w2 h2=>⟨h2,?_⟩,
  fun hle=>⟨_,ht.cellAt (i:=0) rfl,nu,nu,nu,_,hu.cellAt (i:=0) rfl,fun _=>nt,fun _=>nt,fun he=>⟨_,ht.cellAt0 (i:=2) rfl,nu,nu,_,hu.cellAt0 (i:=2) rfl,fun w6 h6=>⟨h6,?_⟩⟩,fun hne w4 h4=>⟨h4,?_⟩⟩⟩
 ·rw[decide_eq_true (show ahead t u from .inl hlt)]
 ·congr 1
  refine decide_eq_decide.2 ?_
  unfold ahead;omega
 ·rw[decide_eq_false]
  unfold ahead;omega
theorem zzw(q:QI B w qb x y p c H){i k:Int}(i0:0<=i)(hi:i<H.length)(k0:0<=k)(hk:k<H.length) :
  FnP Tryz.prog zeT #[.slice p H.length c,.int .i64 i,.int .i64 k] w fun v w'=>Ext w w'/\v=.bool (decide (ahead (at_ H i.toNat) (at_ H k.toNat))):=by
 have hp:=q.ne (by omega)
 refine zm6 p H.length c i k w _ ⟨hp,i0,hi,_,zoZ q.arr i0 (by omega),hp,k0,hk,_,zoZ q.arr k0 (by omega),fun w2 h2=>?_⟩
 exact(zI3 ((q.th i.toNat (by omega)).ext h2) ((q.th k.toNat (by omega)).ext h2)).mono fun v w3 ⟨e3,qhv⟩=>⟨e3,_,qhv,fun w5 h5=>⟨h5,rfl⟩⟩
theorem len_k:FnP Tryz.prog zfr #[.slice p H.length c] w fun v w'=>Ext w w'/\v=.int .i64 H.length :=
 zoa p H.length c w _ fun w0 h0=>⟨h0,rfl⟩
theorem zEq(q:QI B w qb x y p c H){i k:Int}(i0:0<=i)(hi:i<H.length)(k0:0<=k)(hk:k<H.length) :
  FnP Tryz.prog zeV #[.slice p H.length c,.int .i64 i,.int .i64 k] w fun v w'=>v=.tuple #[]/\QI B w' qb x y p c (swp H i.toNat k.toNat)/\Fr (zjz qb p H) w w':=by
 have hp:=q.ne (by omega)
 obtain⟨a,rfl⟩:∃a,p=some a:=by cases p with|none=>exact absurd rfl hp|some a=>exact⟨a,rfl⟩
 obtain⟨aq',ath⟩:=q.ap a rfl
 have hni:i.toNat<H.length:=by omega
 have hnk:k.toNat<H.length:=by omega
 refine zm8 (some a) H.length c i k w _ ⟨hp,k0,hk,_,zoZ q.arr k0 hnk,hp,i0,hi,_,zoZ q.arr i0 hni,hp,i0,hi,?_⟩
 refine zvY q.arr (by simpa using hni) rfl (by simp) fun w2 o2 g2=>⟨hp,k0,hk,zvY o2 (by simpa using hnk) rfl (by simp) fun w3 o3 g3=>?_⟩
 have e3:((H.map pv).set i.toNat (.pointer (ptr (at_ H k.toNat).b))).set k.toNat (.pointer (ptr (at_ H i.toNat).b))=(swp H i.toNat k.toNat).map pv:=by unfold swp;rw[List.map_set,List.map_set];rfl
 rw[e3] at o3
 have hl:=zEr H i.toNat k.toNat
 have th3:∀m,m<H.length->Own B w3 zam 4 (ptr (at_ H m).b) 1 1 (thc (at_ H m) m):=fun m hm =>
  ((q.th m hm).st (zjB fun x hx=>by cases hx;exact ath m hm) g2).st (zjB fun x hx=>by cases hx;exact ath m hm) g3
 have ci:=zoZ o3 i0 (by omega)
 have ck:=zoZ o3 k0 (by omega)
 rw[zqg H hni hnk] at ci ck
 rw[if_pos rfl] at ck
 have ci':cell w3 (pIdx (some a) i 1) 0=some (.pointer (ptr (at_ H k.toNat).b)):=by
  rw[ci];by_cases h:i.toNat=k.toNat
  ·rw[if_pos h,h]
  ·rw[if_neg h,if_pos rfl]
 refine⟨hp,i0,hi,_,ci',hp,k0,hk,_,ck,zaB _,zaB _,?_⟩
 refine zct (th3 k.toNat hnk) (by simp[thc]) rfl (by simp) fun w4 o4 g4=>⟨zaB _,zaB _,?_⟩
 have o4':Own B w4 zam 4 (ptr (at_ H k.toNat).b) 1 1 (thc (at_ H k.toNat) i.toNat):=by
  have:(thc (at_ H k.toNat) k.toNat).set 3 (.int .i64 i)=thc (at_ H k.toNat) i.toNat:=by simp only[thc,List.set_cons_succ,List.set_cons_zero];rw[Int.toNat_of_nonneg i0]
  rw[<-this];exact o4
 have h5:Own B w4 zam 4 (ptr (at_ H i.toNat).b) 1 1 (thc (at_ H i.toNat) i.toNat):=by
  by_cases h:i.toNat=k.toNat
  ·rw[<-h] at o4';exact o4'
  ·exact(th3 i.toNat hni).st (zb9 fun he=>h (q.inj _ _ hni hnk he)) g4
 refine zct h5 (by simp[thc]) rfl (by simp) fun w5 o5 g5=>?_
 have o5':Own B w5 zam 4 (ptr (at_ H i.toNat).b) 1 1 (thc (at_ H i.toNat) k.toNat):=by
  have:(thc (at_ H i.toNat) i.toNat).set 3 (.int .i64 k)=thc (at_ H i.toNat) k.toNat:=by simp only[thc,List.set_cons_succ,List.set_cons_zero];rw[Int.toNat_of_nonneg k0]
  rw[<-this];exact o5
 intro w8 h8
 have sa:=zqg H hni hnk
 have mem:∀m,m<H.length->∃m',m'<H.length/\at_ (swp H i.toNat k.toNat) m=at_ H m'/\(m'=if m=k.toNat then i.toNat else if m=i.toNat then k.toNat else m):=fun m hm=>by
  rw[sa m]
  by_cases h1:m=k.toNat
  ·rw[if_pos h1,if_pos h1];exact⟨_,hni,rfl,rfl⟩
  ·rw[if_neg h1,if_neg h1]
   by_cases h2:m=i.toNat
   ·rw[if_pos h2,if_pos h2];exact⟨_,hnk,rfl,rfl⟩
   ·rw[if_neg h2,if_neg h2];exact⟨_,hm,rfl,rfl⟩
 have out:∀m,m<H.length->m≠i.toNat->m≠k.toNat->Own B w5 zam 4 (ptr (at_ H m).b) 1 1 (thc (at_ H m) m):=fun m hm h1 h2 =>
  ((th3 m hm).st (zb9 fun he=>h2 (q.inj _ _ hm hnk he)) g4).st (zb9 fun he=>h1 (q.inj _ _ hm hni he)) g5
 refine⟨rfl,QI.ext ⟨?_,?_,fun m hm=>?_,fun m n hm hn he=>?_,fun m hm=>?_,fun b hb=>⟨?_,fun m hm=>?_⟩⟩ h8,?_⟩
 ·rw[hl]
  have s3:=(q.slot.st (zjB fun x hx=>by cases hx;exact Ne.symm aq') g2).st (zjB fun x hx=>by cases hx;exact Ne.symm aq') g3
  exact(s3.st (zb9 (Ne.symm (q.aq _ hnk))) g4).st (zb9 (Ne.symm (q.aq _ hni))) g5
 ·rw[hl]
  have f:∀m,m<H.length->zbU (some a) (ptr (at_ H m).b):=fun m hm u v hu qhv=>by cases hu;cases qhv;exact Ne.symm (ath m hm)
  exact(o3.st (f _ hnk) g4).st (f _ hni) g5
 ·rw[hl] at hm
  rw[sa m]
  by_cases h1:m=k.toNat
  ·rw[if_pos h1,h1];exact o5'
  ·rw[if_neg h1]
   by_cases h2:m=i.toNat
   ·rw[if_pos h2,h2]
    exact o4'.st (zb9 fun he=>by have:=q.inj _ _ hnk hni he;omega) g5
   ·rw[if_neg h2];exact out m hm h2 h1
 ·rw[hl] at hm hn
  obtain⟨m',h1,h2,h3⟩:=mem m hm
  obtain⟨n',h4,h5,h6⟩:=mem n hn
  rw[h2,h5] at he
  have:=q.inj _ _ h1 h4 he
  subst this
  rw[h3] at h6
  split at h6<;>split at h6<;>(try split at h6)<;>(try split at h6)<;>omega
 ·rw[hl] at hm
  obtain⟨m',h1,h2,-⟩:=mem m hm
  rw[h2];exact q.aq _ h1
 ·cases hb;exact aq'
 ·rw[hl] at hm
  cases hb
  obtain⟨m',h1,h2,-⟩:=mem m hm
  rw[h2];exact ath _ h1
 ·have fa:Fr (zjz qb (some a) H) w w3:=(zaP g2 fun x hx=>.inr (.inl ⟨x,hx,rfl⟩)).tr (zaP g3 fun x hx=>.inr (.inl ⟨x,hx,rfl⟩))
  have ft:∀m,m<H.length->∀x,ptr (at_ H m).b=some x->zjz qb (some a) H x.block:=fun m hm x hx=>by cases hx;exact .inr (.inr ⟨_,zB2 H hm,rfl⟩)
  exact((fa.tr (zaP g4 (ft _ hnk))).tr (zaP g5 (ft _ hni))).tr (zac h8)
def qhv(qb:Nat):Value:=.iface zb8 (.pointer (ptr qb))
theorem zuL{name:String}{f:FuncId}{pr:Bool}{r:Value}{args:List Value}{K:Value->World->Prop}
  (hm:((Tryz.prog.info? zb8).bind fun i=>i.methods.find? (·.name==name)).map (fun m=>(m.path.toList,m.func))=some ([],some (f,pr)))
  (hr : (receiverAt zb8 (.val (.pointer (ptr qb))) pr (some ((name.splitOn ".").getLastD name))).run Tryz.prog w = .ok r w) (h : FnP Tryz.prog f (#[r] ++ args.toArray) w K) : zqE Tryz.prog name (qhv qb) args w K := by
 cases hi:Tryz.prog.info? zb8 with
 |none => rw[hi] at hm;simp at hm
 |some i =>
  rw[hi] at hm
  simp only[Option.bind_some] at hm
  cases hq:i.methods.find? (·.name==name) with
  |none => rw[hq] at hm;simp at hm
  |some m =>
   rw[hq] at hm
   simp only[Option.map_some,Option.some.injEq,Prod.mk.injEq] at hm
   refine⟨zb8,.pointer (ptr qb),f,r,rfl,?_,h⟩
   obtain⟨n,hn⟩:∃n,Tryz.prog.types.size+Made.depth=n+1:=⟨Tryz.prog.types.size+Made.depth-1,by unfold Made.depth;omega⟩
   rw[hn]
   exact zDm hi hq (by have:=hm.1;exact Array.toList_eq_nil_iff.1 this) hm.2 hr
theorem QI.recv(q:QI B w qb x y p c H){o:Option String}:(receiverAt zb8 (.val (.pointer (ptr qb))) false o).run Tryz.prog w=.ok (.slice p H.length c) w :=
 zDX (e:=zek) (d:=.slice za9) (by kernel_rfl) (by kernel_rfl) (by kernel_rfl) (q.slot.cellAt (i:=0) rfl)
theorem zC1 (q : QI B w qb x y p c H) {K : Value -> World -> Prop} (h : FnP Tryz.prog zfr #[.slice p H.length c] w K) : zqE Tryz.prog "Len" (qhv qb) [] w K := zuL (pr := false) (by kernel_rfl) q.recv h
theorem zov (q : QI B w qb x y p c H) {a b : Value} {K : Value -> World -> Prop} (h : FnP Tryz.prog zeT #[.slice p H.length c, a, b] w K) : zqE Tryz.prog "Less" (qhv qb) [a, b] w K := zuL (pr := false) (by kernel_rfl) q.recv h
theorem zsJ (q : QI B w qb x y p c H) {a b : Value} {K : Value -> World -> Prop} (h : FnP Tryz.prog zeV #[.slice p H.length c, a, b] w K) : zqE Tryz.prog "Swap" (qhv qb) [a, b] w K := zuL (pr := false) (by kernel_rfl) q.recv h
theorem zGo {a : Value} {K : Value -> World -> Prop} (h : FnP Tryz.prog zeU #[.pointer (ptr qb), a] w K) : zqE Tryz.prog "Push" (qhv qb) [a] w K := zuL (pr := true) (by kernel_rfl) (zzK (e := zek) (by kernel_rfl)) h
theorem zJ0 {K : Value -> World -> Prop} (h : FnP Tryz.prog zfs #[.pointer (ptr qb)] w K) : zqE Tryz.prog "Pop" (qhv qb) [] w K := zuL (pr := true) (by kernel_rfl) (zzK (e := zek) (by kernel_rfl)) h
theorem tdiv2{j:Int}(h:0<=j):(j-1).tdiv 2=((par j.toNat:Nat):Int):=by
 unfold par
 by_cases h0:j=0
 ·subst h0;decide
 ·rw[Int.tdiv_eq_ediv_of_nonneg (by omega)];omega
theorem up_k(q:QI B w qb x y p c H){j:Int}{n:Nat}(j0:0<=j)(hj:j<n)(hnl:n<=H.length)(hn:H.length<=1000)(hu:Up H n j.toNat) :
  FnP Tryz.prog zdm #[qhv qb,.int .i64 j] w fun v w'=>v=.tuple #[]/\∃Y,QI B w' qb x y p c Y/\Y.Perm H/\(∀k,n<=k->at_ Y k=at_ H k)/\Hp Y n/\Fr (zjz qb p H) w w':=by
 refine zjU (qhv qb) j w _ ⟨fun j1 w'=>0<=j1/\j1<n/\∃Y,QI B w' qb x y p c Y/\Y.Perm H/\(∀k,n<=k->at_ Y k=at_ H k)/\Up Y n j1.toNat/\Fr (zjz qb p H) w w',fun j1 _=>j1.toNat,⟨j0,hj,H,q,.refl _,fun _ _=>rfl,hu,Fr.refl _ _⟩,?_⟩
 rintro j1 w2 ⟨h0,h1,Y,qy,hp,hout,hu,hf⟩
 have hl:=hp.length_eq
 simp only[tdiv2 h0]
 have hpar:par j1.toNat<=j1.toNat:=by unfold par;omega
 refine⟨i64 (by omega),i64 (by omega),fun he w3 h3=>?_,fun hne w3 h3=>zov (qy.ext h3) ((zzw (qy.ext h3) h0 (by omega) (by omega) (by omega)).mono fun v w4 ⟨e4,qhv⟩=>⟨_,qhv,fun hb w6 h6=>?_,fun hb w6 h6=>?_⟩)⟩
 ·have:j1.toNat=0:=by unfold par at he;omega
  rw[this] at hu
  exact⟨trivial,Y,qy.ext h3,hp,hout,zEF hu,hf.tr (zac h3)⟩
 ·simp only[Int.toNat_natCast,decide_eq_false_iff_not] at hb
  exact⟨trivial,Y,((qy.ext h3).ext e4).ext h6,hp,hout,zKT hu hb,((hf.tr (zac h3)).tr (zac e4)).tr (zac h6)⟩
 ·simp only[Int.toNat_natCast,decide_eq_true_eq] at hb
  have q6:=((qy.ext h3).ext e4).ext h6
  have hlt:par j1.toNat<j1.toNat:=by unfold par at hne ⊢;omega
  refine zsJ q6 ((zEq q6 (by omega) (by omega) h0 (by omega)).mono fun v w7 ⟨qhv,q7,f7⟩=>⟨qhv,⟨by omega,by omega,_,q7,?_,fun k hk=>?_,?_,?_⟩,by omega⟩)
  ·exact(zoL Y (by omega) (by omega)).trans hp
  ·rw[zqg Y (by omega) (by omega),if_neg (by omega),if_neg (by omega)];exact hout k hk
  ·simp only[Int.toNat_natCast]
   exact zKS (by omega) (by omega) (by omega) hu hb
  ·exact(((hf.tr (zac h3)).tr (zac e4)).tr (zac h6)).tr (f7.mono fun b=>(zph hp b).1)
theorem down_k(q:QI B w qb x y p c H){i0 n:Int}(h00:0<=i0)(n0:0<=n)(hn:n<=H.length)(hH:H.length<=1000)(hi:i0<=1000)(hu:Dn H n.toNat i0.toNat i0.toNat) :
  FnP Tryz.prog zcM #[qhv qb,.int .i64 i0,.int .i64 n] w fun v w'=>∃(r:Bool) (Y:List Th),v=.bool r/\QI B w' qb x y p c Y/\Y.Perm H/\(∀k,n.toNat<=k->at_ Y k=at_ H k)/\(r=true->Hp Y n.toNat)/\(r=false->Y=H/\Up Y n.toNat i0.toNat)/\Fr (zjz qb p H) w w':=by
 refine ziE (qhv qb) i0 n w _ ⟨fun i w'=>i0<=i/\(i<n\/i=i0)/\∃Y,QI B w' qb x y p c Y/\Y.Perm H/\(∀k,n.toNat<=k->at_ Y k=at_ H k)/\(i=i0->Y=H)/\Dn Y n.toNat i0.toNat i.toNat/\Fr (zjz qb p H) w w',fun i _=>(2001-i).toNat,⟨Int.le_refl _,.inr rfl,H,q,.refl _,fun _ _=>rfl,fun _=>rfl,hu,Fr.refl _ _⟩,?_⟩
 rintro i w2 ⟨hi0,hin,Y,qy,hp,hout,hsame,hd,hf⟩
 have hl:=hp.length_eq
 have stop:∀w',QI B w' qb x y p c Y->Fr (zjz qb p H) w w'->(∀k,1<=k->k<n.toNat->par k=i.toNat->¬ahead (at_ Y k) (at_ Y i.toNat))->∃(r:Bool) (Y:List Th),Value.bool (decide (i0<i))=.bool r/\QI B w' qb x y p c Y/\Y.Perm H/\(∀k,n.toNat<=k->at_ Y k=at_ H k)/\(r=true->Hp Y n.toNat)/\(r=false->Y=H/\Up Y n.toNat i0.toNat)/\Fr (zjz qb p H) w w':=by
  intro w' qw fw hs
  refine⟨_,Y,rfl,qw,hp,hout,fun h=>?_,fun h=>?_,fw⟩
  ·simp only[decide_eq_true_eq] at h
   exact zsu hd (by omega) hs
  ·simp only[decide_eq_false_iff_not] at h
   obtain rfl:i=i0:=by omega
   exact⟨hsame rfl,zui hd hs⟩
 have kid:∀k,1<=k->k<n.toNat->par k=i.toNat->(k:Int)=2*i+1\/(k:Int)=2*i+1+1:=fun k k1 kn hk=>by unfold par at hk;omega
 have step:∀(j:Int)(w6:World),(j=2*i+1\/j=2*i+1+1)->j<n->QI B w6 qb x y p c Y->Fr (zjz qb p H) w w6->ahead (at_ Y j.toNat) (at_ Y i.toNat)->(∀k,1<=k->k<n.toNat->par k=i.toNat->¬ahead (at_ Y k) (at_ Y j.toNat)) ->
   zqE Tryz.prog "Swap" (qhv qb) [.int .i64 i, .int .i64 j] w6 fun v7 w7 => v7 = .tuple #[] /\ ((i0 <= j /\ (j < n \/ j = i0) /\ ∃ Y, QI B w7 qb x y p c Y /\ Y.Perm H /\ (∀ k, n.toNat <= k -> at_ Y k = at_ H k) /\ (j = i0 -> Y = H) /\ Dn Y n.toNat i0.toNat j.toNat /\ Fr (zjz qb p H) w w7) /\ (2001 - j).toNat < (2001 - i).toNat) := by
  intro j w6 hj hjn qw fw ha hs
  refine zsJ qw ((zEq qw (by omega) (by omega) (by omega) (by omega)).mono fun v w7 ⟨qhv,q7,f7⟩=>⟨qhv,⟨by omega,.inl hjn,_,q7,?_,fun k hk=>?_,fun h=>by omega,?_,?_⟩,by omega⟩)
  ·exact(zoL Y (by omega) (by omega)).trans hp
  ·rw[zqg Y (by omega) (by omega),if_neg (by omega),if_neg (by omega)];exact hout k hk
  ·exact zJq (by omega) (by omega) (by omega) (by unfold par;omega) (by omega) hd ha hs
  ·exact fw.tr (f7.mono fun b=>(zph hp b).1)
 refine⟨i64 (by omega),i64 (by omega),fun hge w3 h3=>stop w3 (qy.ext h3) (hf.tr (zac h3)) fun k k1 kn hk=>by rcases kid k k1 kn hk with h|h<;>omega,fun hlt=>⟨i64 (by omega),fun h2 w3 h3=>?_,fun h2 w3 h3=>?_⟩⟩
 ·have q3:=qy.ext h3
  refine zov q3 ((zzw q3 (by omega) (by omega) (by omega) (by omega)).mono fun v w4 ⟨e4,qhv⟩=>⟨_,qhv,fun hb w6 h6=>?_,fun hb w6 h6=>?_⟩)
  all_goals
   have q6:=(q3.ext e4).ext h6
   have f6:=((hf.tr (zac h3)).tr (zac e4)).tr (zac h6)
   simp only[decide_eq_true_eq,decide_eq_false_iff_not] at hb
   refine zov q6 ((zzw q6 (by omega) (by omega) (by omega) (by omega)).mono fun v w7 ⟨e7,qhv⟩=>⟨_,qhv,fun hc w9 h9=>?_,fun hc w9 h9=>?_⟩)
   all_goals
    have q9:=(q6.ext e7).ext h9
    have f9:=(f6.tr (zac e7)).tr (zac h9)
    simp only[decide_eq_true_eq,decide_eq_false_iff_not] at hc
  ·refine stop w9 q9 f9 fun k k1 kn hk=>?_
   rcases kid k k1 kn hk with h|h
   ·have:k=(2*i+1).toNat:=by omega
    rw[this];exact fun h'=>hc (zoY hb h')
   ·have:k=(2*i+1+1).toNat:=by omega
    rw[this];exact hc
  ·refine step _ w9 (.inr rfl) h2 q9 f9 hc fun k k1 kn hk=>?_
   rcases kid k k1 kn hk with h|h
   ·have:k=(2*i+1).toNat:=by omega
    rw[this];exact zkr hb
   ·have:k=(2*i+1+1).toNat:=by omega
    rw[this];unfold ahead;omega
  ·refine stop w9 q9 f9 fun k k1 kn hk=>?_
   rcases kid k k1 kn hk with h|h
   ·have:k=(2*i+1).toNat:=by omega
    rw[this];exact hc
   ·have:k=(2*i+1+1).toNat:=by omega
    rw[this];exact zdW hb hc
  ·refine step _ w9 (.inl rfl) hlt.1 q9 f9 hc fun k k1 kn hk=>?_
   rcases kid k k1 kn hk with h|h
   ·have:k=(2*i+1).toNat:=by omega
    rw[this];unfold ahead;omega
   ·have:k=(2*i+1+1).toNat:=by omega
    rw[this];exact hb
 ·have q3:=qy.ext h3
  refine zov q3 ((zzw q3 (by omega) (by omega) (by omega) (by omega)).mono fun v w4 ⟨e4,qhv⟩=>⟨_,qhv,fun hb w6 h6=>?_,fun hb w6 h6=>?_⟩)
  all_goals
   have q6:=(q3.ext e4).ext h6
   have f6:=((hf.tr (zac h3)).tr (zac e4)).tr (zac h6)
   simp only[decide_eq_true_eq,decide_eq_false_iff_not] at hb
  ·refine stop w6 q6 f6 fun k k1 kn hk=>?_
   rcases kid k k1 kn hk with h|h
   ·have:k=(2*i+1).toNat:=by omega
    rw[this];exact hb
   ·omega
  ·refine step _ w6 (.inl rfl) hlt.1 q6 f6 hb fun k k1 kn hk=>?_
   rcases kid k k1 kn hk with h|h
   ·have:k=(2*i+1).toNat:=by omega
    rw[this];unfold ahead;omega
   ·omega
end
section
variable {B qb:Nat} {x y:Value} {p:Option Addr} {c:Nat} {H:List Th} {w:World}
def tv(b:Nat):Value:=.iface za9 (.pointer (ptr b))
theorem zeD{H:List Th}{t:Th}{k:Nat}(h:k<H.length):at_ (H++[t]) k=at_ H k:=by
 unfold at_;rw[List.getD_eq_getElem?_getD,List.getD_eq_getElem?_getD,List.getElem?_append_left h]
theorem ziT{H:List Th}{t:Th}:at_ (H++[t]) H.length=t:=by
 unfold at_;rw[List.getD_eq_getElem?_getD,List.getElem?_append_right (Nat.le_refl _)];simp
theorem zmu{H:List Th}{m k:Nat}(h:k<m):at_ (H.take m) k=at_ H k:=by
 unfold at_;rw[List.getD_eq_getElem?_getD,List.getD_eq_getElem?_getD,List.getElem?_take,if_pos h]
theorem push_k(q:QI B w qb x y p c H)(hn:H.length<=999)(hB:B<=w.heap.size){t:Th}{j:Nat}(ht:Own B w zam 4 (ptr t.b) 1 1 (thc t j))(hf:¬zjz qb p H t.b) :
  FnP Tryz.prog zeU #[.pointer (ptr qb),tv t.b] w fun v w'=>v=.tuple #[]/\∃p' c',QI B w' qb x y p' c' (H++[t])/\Fr (zjz qb p (t::H)) w w'/\(∀a,p'=some a->(∃a',p=some a'/\a'.block=a.block)\/w.heap.size<=a.block):=by
 have hq:t.b≠qb:=fun h=>hf (.inl h)
 have hpa:∀a,p=some a->t.b≠a.block:=fun a ha h=>hf (.inr (.inl ⟨a,ha,h.symm⟩))
 have hth:∀k,k<H.length->(at_ H k).b≠t.b:=fun k hk h=>hf (.inr (.inr ⟨_,zB2 H hk,h⟩))
 refine zm7 (ptr qb) (tv t.b) w _ fun w0 h0=>zr7 (d:=.pointer zam) (by kernel_rfl) (by simp) ⟨Ext.refl _,_,rfl,zaB _,_,_,_,(q.slot.ext h0).cellAt (i:=0) rfl,zaB _,zaB _,?_⟩
 have q0:=q.ext h0
 refine zct (ht.ext h0) (by simp[thc]) rfl (by simp) fun w6 o6 g6=>?_
 have o6':Own B w6 zam 4 (ptr t.b) 1 1 (thc t H.length):=o6
 have s6:=q0.slot.st (zb9 (Ne.symm hq)) g6
 have a6:=q0.arr.st (fun u v hu qhv=>by cases qhv;exact Ne.symm (hpa u hu)) g6
 have t6:∀k,k<H.length->Own B w6 zam 4 (ptr (at_ H k).b) 1 1 (thc (at_ H k) k):=fun k hk=>(q0.th k hk).st (zb9 (hth k hk)) g6
 have f6:Fr (zjz qb p (t::H)) w w6:=(zac h0).tr (zaP g6 fun a ha=>by cases ha;exact .inr (.inr ⟨t,List.mem_cons_self ..,rfl⟩))
 have hB6:B<=w6.heap.size:=Nat.le_trans hB f6.size
 refine⟨zaB _,_,_,_,s6.cellAt (i:=0) rfl,?_⟩
 refine push zqI (by omega) a6 hB6 rfl (by intro u hu;simp[Value.cells] at hu;subst hu;rfl) (by omega) (by omega) (by omega) fun p' c' w16 o16 g16 hp'=>⟨zaB _,?_⟩
 have s16:=s6.st (fun u v hu qhv=>by cases hu;exact Ne.symm (q.ap v qhv).1) g16
 have t16:∀k,k<H.length->Own B w16 zam 4 (ptr (at_ H k).b) 1 1 (thc (at_ H k) k):=fun k hk=>(t6 k hk).st (zjB fun v qhv=>(q.ap v qhv).2 k hk) g16
 have o16t:=o6'.st (zjB fun v qhv=>hpa v qhv) g16
 have np:∀a,p'=some a->(∃a',p=some a'/\a'.block=a.block)\/w6.heap.size<=a.block:=fun a ha=>by
  rcases g16.new with h|h
  ·subst ha
   cases p with
   |none => simp[blk] at h
   |some z => simp[blk] at h;exact .inl ⟨z,rfl,h.symm⟩
  ·exact .inr (h a ha)
 have ap':∀a,p'=some a->a.block≠qb/\a.block≠t.b/\∀k,k<H.length->(at_ H k).b≠a.block:=fun a ha=>by
  rcases np a ha with⟨z,hz,he⟩|h
  ·rw[<-he]
   exact⟨(q.ap z hz).1,Ne.symm (hpa z hz),(q.ap z hz).2⟩
  ·have l1:=(s6.lt _ rfl).2
   have l2:=(o6'.lt _ rfl).2
   exact⟨fun e=>by simp[ptr] at l1;omega,fun e=>by simp[ptr] at l2;omega,fun k hk e=>by have:=((t6 k hk).lt _ rfl).2;simp at this;omega⟩
 have st16:zan w16 (ptr qb) [.slice p' (H.length+1) c'] [] fun w20=>∀w21,Ext w20 w21->(Value.tuple #[]=.tuple #[]/\∃p' c',QI B w21 qb x y p' c' (H++[t])/\Fr (zjz qb p (t::H)) w w21/\(∀a,p'=some a->(∃a',p=some a'/\a'.block=a.block)\/w.heap.size<=a.block)):=by
  have:=zct (off:=0) s16 (by simp) (v:=.slice p' (H.length+1) c') rfl (ns:=[]) (by simp) (K:=fun w20=>∀w21,Ext w20 w21->(Value.tuple #[]=.tuple #[]/\∃p' c',QI B w21 qb x y p' c' (H++[t])/\Fr (zjz qb p (t::H)) w w21/\(∀a,p'=some a->(∃a',p=some a'/\a'.block=a.block)\/w.heap.size<=a.block))) fun w20 o20 g20 w21 h21=>?_
  ·rw[zaR] at this;exact this
  have hl:(H++[t]).length=H.length+1:=by simp
  refine⟨rfl,p',c',QI.ext ⟨?_,?_,fun k hk=>?_,fun i k hi hk he=>?_,fun i hi=>?_,fun a ha=>⟨(ap' a ha).1,fun i hi=>?_⟩⟩ h21,?_,fun a ha=>?_⟩
  ·rw[hl];exact o20
  ·rw[hl,List.map_append]
   have:Own B w16 za9 1 p' (H.length+1) c' (H.map pv++[t].map pv):=o16
   exact this.st (fun u v hu qhv=>by cases qhv;exact(ap' u hu).1) g20
  ·rw[hl] at hk
   by_cases h:k<H.length
   ·rw[zeD h];exact(t16 k h).st (zb9 (q.aq k h)) g20
   ·obtain rfl:k=H.length:=by omega
    rw[ziT];exact o16t.st (zb9 hq) g20
  ·rw[hl] at hi hk
   by_cases h1:i<H.length<;>by_cases h2:k<H.length
   ·rw[zeD h1,zeD h2] at he;exact q.inj i k h1 h2 he
   ·obtain rfl:k=H.length:=by omega
    rw[zeD h1,ziT] at he;exact absurd he (hth i h1)
   ·obtain rfl:i=H.length:=by omega
    rw[zeD h2,ziT] at he;exact absurd he.symm (hth k h2)
   ·omega
  ·rw[hl] at hi
   by_cases h1:i<H.length
   ·rw[zeD h1];exact q.aq i h1
   ·obtain rfl:i=H.length:=by omega
    rw[ziT];exact hq
  ·rw[hl] at hi
   by_cases h1:i<H.length
   ·rw[zeD h1];exact(ap' a ha).2.2 i h1
   ·obtain rfl:i=H.length:=by omega
    rw[ziT];exact Ne.symm (ap' a ha).2.1
  ·refine((f6.tr (zaP g16 fun a ha=>.inr (.inl ⟨a,ha,rfl⟩))).tr (zaP g20 fun a ha=>by cases ha;exact .inl rfl)).tr (zac h21)
  ·rcases np a ha with h|h
   ·exact .inl h
   ·exact .inr (Nat.le_trans f6.size h)
 exact st16
theorem pop_k(q:QI B w qb x y p c H)(hl:0<H.length) :
  FnP Tryz.prog zfs #[.pointer (ptr qb)] w fun v w'=>v=tv (at_ H (H.length-1)).b/\QI B w' qb x y p c (H.take (H.length-1))/\Fr (fun b=>b=qb) w w'/\Own B w' zam 4 (ptr (at_ H (H.length-1)).b) 1 1 (thc (at_ H (H.length-1)) (H.length-1)):=by
 have hp:=q.ne hl
 have s0:=q.slot.cellAt (i:=0) rfl
 have hc:=q.arr.le
 have e1:((H.length:Int)-1).toNat=H.length-1:=by omega
 have ca:=zoZ q.arr (i:=(H.length:Int)-1) (by omega) (by omega)
 rw[e1] at ca
 refine zob (ptr qb) w _ ⟨zaB _,_,_,_,s0,i64 (by omega),zaB _,_,_,_,s0,hp,by omega,by omega,_,ca,zaB _,_,_,_,s0,by omega,by omega,by omega,zaB _,?_⟩
 rw[show(((H.length:Int)-1)-0).toNat=H.length-1 by omega,show c-(0:Int).toNat=c by simp,zfF]
 have st:=zct (off:=0) q.slot (by simp) (v:=.slice p (H.length-1) c) rfl (ns:=[]) (by simp) (K:=fun w10=>∀w11,Ext w10 w11->Run Tryz.prog (.makeInterface za9 (.pointer (ptr (at_ H (H.length-1)).b))) w11 fun v12 w12=>Ext w11 w12/\∃t13:Value,v12=t13/\∀w14,Ext w12 w14 ->
  (t13=tv (at_ H (H.length-1)).b/\QI B w14 qb x y p c (H.take (H.length-1))/\Fr (fun b=>b=qb) w w14/\Own B w14 zam 4 (ptr (at_ H (H.length-1)).b) 1 1 (thc (at_ H (H.length-1)) (H.length-1)))) fun w10 o10 g10 w11 h11=>?_
 ·rw[zaR] at st;exact st
 refine zfH (d:=.pointer zam) (by kernel_rfl) (by simp) ⟨Ext.refl _,_,rfl,fun w14 h14=>⟨rfl,?_,((zaP g10 fun a ha=>by cases ha;rfl).tr (zac h11)).tr (zac h14),?_⟩⟩
 ·refine QI.ext (QI.ext ?_ h11) h14
  have hm:(H.take (H.length-1)).length=H.length-1:=by simp
  have th:∀k,k<H.length->Own B w10 zam 4 (ptr (at_ H k).b) 1 1 (thc (at_ H k) k):=fun k hk=>(q.th k hk).st (zb9 (q.aq k hk)) g10
  refine⟨?_,?_,fun k hk=>?_,fun i k hi hk he=>?_,fun i hi=>?_,fun a ha=>⟨(q.ap a ha).1,fun i hi=>?_⟩⟩
  ·rw[hm];exact o10
  ·have:=(q.arr.st (fun u v hu qhv=>by cases qhv;exact(q.ap u hu).1) g10).pre (m:=H.length-1) (by omega)
   rw[hm,List.map_take];rw[Nat.mul_one] at this;exact this
  ·rw[hm] at hk;rw[zmu hk];exact th k (by omega)
  ·rw[hm] at hi hk;rw[zmu hi,zmu hk] at he;exact q.inj i k (by omega) (by omega) he
  ·rw[hm] at hi;rw[zmu hi];exact q.aq i (by omega)
  ·rw[hm] at hi;rw[zmu hi];exact(q.ap a ha).2 i (by omega)
 ·exact(((q.th (H.length-1) (by omega)).st (zb9 (q.aq _ (by omega))) g10).ext h11).ext h14
theorem zpg{p':Option Addr}{t:Th}{G:List Th}{n:Nat}(hg:∀u∈G,u=t\/u∈H)(hp:∀a,p'=some a->(∃a',p=some a'/\a'.block=a.block)\/n<=a.block)(b:Nat)(h:zjz qb p' G b):zjz qb p (t::H) b\/n<=b:=by
 rcases h with h|⟨a,ha,rfl⟩|⟨u,hu,rfl⟩
 ·exact .inl (.inl h)
 ·rcases hp a ha with⟨z,hz,he⟩|h
  ·exact .inl (.inr (.inl ⟨z,hz,he⟩))
  ·exact .inr h
 ·refine .inl (.inr (.inr ⟨u,?_,rfl⟩))
  rcases hg u hu with rfl|h
  ·exact List.mem_cons_self ..
  ·exact List.mem_cons_of_mem _ h
theorem zxh(q:QI B w qb x y p c H)(hh:Hp H H.length)(hn:H.length<=999)(hB:B<=w.heap.size){t:Th}{j:Nat}(ht:Own B w zam 4 (ptr t.b) 1 1 (thc t j))(hf:¬zjz qb p H t.b) :
  FnP Tryz.prog zcL #[qhv qb,tv t.b] w fun v w'=>v=.tuple #[]/\∃p' c' Y,QI B w' qb x y p' c' Y/\Y.Perm (t::H)/\Hp Y Y.length/\Fr (zjz qb p (t::H)) w w'/\(∀a,p'=some a->(∃a',p=some a'/\a'.block=a.block)\/w.heap.size<=a.block):=by
 refine ziD (qhv qb) (tv t.b) w _ fun w0 h0=>zGo ((push_k (q.ext h0) hn (Nat.le_trans hB h0.size) (ht.ext h0) hf).mono fun v w1 ⟨qhv,p',c',q1,f1,np⟩=>⟨qhv,fun w2 h2=>?_⟩)
 have q2:=q1.ext h2
 have hl:(H++[t]).length=H.length+1:=by simp
 refine zC1 q2 (len_k.mono fun v w3 ⟨e3,qhv⟩=>⟨_,qhv,i64 (by omega),fun w5 h5=>?_⟩)
 have q5:=(q2.ext e3).ext h5
 have hup:Up (H++[t]) (H.length+1) H.length:=zHv (zzk hh fun k hk=>zeD hk)
 rw[show(((H++[t]).length:Int)-1)=(H.length:Int) by omega]
 refine(up_k q5 (j:=(H.length:Int)) (n:=H.length+1) (by omega) (by omega) (by omega) (by omega) hup).mono fun v w6 ⟨qhv,Y,q6,hp,_,hhp,f6⟩=>⟨qhv,fun w7 h7=>⟨rfl,p',c',Y,q6.ext h7,hp.trans (List.perm_append_comm (l₁:=H) (l₂:=[t])),?_,?_,fun a ha=>?_⟩⟩
 ·rw[hp.length_eq,hl];exact hhp
 ·have f5:Fr (zjz qb p (t::H)) w w5:=((((zac h0).tr f1).tr (zac h2)).tr (zac e3)).tr (zac h5)
  refine(f5.trans f6 fun b hb=>zpg (fun u hu=>?_) (fun a ha=>?_) b hb).tr (zac h7)
  ·rcases List.mem_append.1 hu with h|h
   ·exact .inr h
   ·exact .inl (by simpa using h)
  ·rcases np a ha with h|h
   ·exact .inl h
   ·exact .inr (Nat.le_trans h0.size h)
 ·rcases np a ha with h|h
  ·exact .inl h
  ·exact .inr (Nat.le_trans h0.size h)
theorem zEu{Y:List Th}(h:0<Y.length):Y.take (Y.length-1)++[at_ Y (Y.length-1)]=Y:=by
 have:=List.take_append_drop (Y.length-1) Y
 have hd:Y.drop (Y.length-1)=[at_ Y (Y.length-1)]:=by
  rw[List.drop_eq_getElem_cons (by omega),List.drop_of_length_le (by omega)]
  unfold at_
  rw[List.getD_eq_getElem?_getD,List.getElem?_eq_getElem (by omega)];rfl
 rw[<-hd];exact this
theorem zDK{Y G:List Th}(h:0<Y.length)(hp:Y.Perm G):(at_ Y (Y.length-1)::Y.take (Y.length-1)).Perm G:=by
 refine List.Perm.trans ?_ hp
 have:=zEu h
 refine List.Perm.trans (List.perm_append_comm (l₁:=[_])) ?_
 rw[this]
theorem zAM(q:QI B w qb x y p c H)(hh:Hp H H.length)(h0:0<H.length)(hn:H.length<=1000) :
  FnP Tryz.prog zdb #[qhv qb] w fun v w'=>∃(t:Th) (j:Nat) (Y:List Th),v=tv t.b/\QI B w' qb x y p c Y/\(t::Y).Perm H/\Hp Y Y.length/\(∀u∈H,¬ahead u t)/\Own B w' zam 4 (ptr t.b) 1 1 (thc t j)/\Fr (zjz qb p H) w w':=by
 refine zjb (qhv qb) w _ fun w0 h0'=>zC1 (q.ext h0') (len_k.mono fun v w1 ⟨e1,qhv⟩=>⟨_,qhv,i64 (by omega),fun w3 h3=>?_⟩)
 have q3:=((q.ext h0').ext e1).ext h3
 have f3:Fr (zjz qb p H) w w3:=((zac h0').tr (zac e1)).tr (zac h3)
 refine zsJ q3 ((zEq q3 (by omega) (by omega) (by omega) (by omega)).mono fun v w4 ⟨qhv,q4,f4⟩=>⟨qhv,fun w5 h5=>?_⟩)
 have e0:((H.length:Int)-1).toNat=H.length-1:=by omega
 rw[e0] at q4
 have q5:=q4.ext h5
 have hl:=zEr H (0:Int).toNat (H.length-1)
 have sa:=zqg H (i:=(0:Int).toNat) (j:=H.length-1) (by simpa using h0) (by omega)
 refine(down_k q5 (by omega) (by omega) (by omega) (by omega) (by omega) ?_).mono fun v w6 ⟨r,Y,qhv,q6,hp,hout,ht,hf,f6⟩=>⟨_,qhv,fun w8 h8=>?_⟩
 ·rw[e0]
  by_cases h1:H.length-1=0
  ·rw[h1];exact⟨fun k _ hk=>by omega,fun h=>by simp at h⟩
  ·refine zFQ (zJY hh (by omega)) (fun k hk hk0=>?_) (by simp;omega)
   rw[sa k,if_neg (by omega),if_neg hk0]
 ·have hYl:Y.length=H.length:=by rw[hp.length_eq,hl]
  have hY:Hp Y (H.length-1):=by
   rw[e0] at ht hf
   cases r with
   |true => exact ht rfl
   |false => exact zEF (hf rfl).2
  have q8:=q6.ext h8
  have hlast:at_ Y (Y.length-1)=at_ H 0:=by
   rw[hYl,hout _ (by omega),sa,if_pos rfl];rfl
  have hpH:Y.Perm H:=hp.trans (zoL H (by simpa using h0) (by omega))
  refine zJ0 ((pop_k q8 (by omega)).mono fun v w9 ⟨qhv,q9,f9,o9⟩=>⟨v,rfl,fun w11 h11=>⟨at_ Y (Y.length-1),Y.length-1,Y.take (Y.length-1),qhv,q9.ext h11,zDK (by omega) hpH,?_,fun u hu=>?_,o9.ext h11,?_⟩⟩)
  ·rw[List.length_take,Nat.min_eq_left (by omega),hYl]
   exact zzk hY fun k hk=>zmu hk
  ·rw[hlast]
   obtain⟨k,hk,rfl⟩:=zIb hu
   exact zGl hh k hk
  ·have fp:∀b,zjz qb p (swp H (0:Int).toNat (H.length-1)) b->zjz qb p H b:=fun b=>(zph (zoL H (by simpa using h0) (by omega)) b).1
   exact(((((f3.tr f4).tr (zac h5)).tr (f6.mono fp)).tr (zac h8)).tr (f9.mono fun b hb=>.inl hb)).tr (zac h11)
end
def zJB:Int->Value:=Value.int .i64
theorem kq:zBk Tryz.prog zfR zJB (.int .i64):=zGw (by kernel_rfl)
theorem mapq:Tryz.prog.underlying zgs=some (.map zfR za9):=by kernel_rfl
def Rel(H:List Th)(m:List (Int×Value)):Prop:=(∀t∈H,ziC m t.id=some (pv t))/\∀id v,ziC m id=some v->∃t∈H,t.id=id/\v=pv t
structure QQ(B:Nat)(w:World)(qb mb:Nat)(born:Int)(p:Option Addr)(c:Nat)(H:List Th)(m:List (Int×Value)):Prop where
 qi:QI B w qb (.map (some mb)) (.int .i64 born) p c H
 mp:zdc zJB w mb m
 hp:Hp H H.length
 mB:B<=mb
 mf:¬zjz qb p H mb
def ziy(mb qb:Nat)(p:Option Addr)(H:List Th)(b:Nat):Prop:=b=mb\/zjz qb p H b
section
variable {B qb mb:Nat} {born:Int} {p:Option Addr} {c:Nat} {H:List Th} {m:List (Int×Value)} {w:World}
theorem QQ.ext{w':World}(q:QQ B w qb mb born p c H m)(h:Ext w w'):QQ B w' qb mb born p c H m:=⟨q.qi.ext h,q.mp.ext h,q.hp,q.mB,q.mf⟩
theorem QQ.fr{S:Nat->Prop}{w':World}(q:QQ B w qb mb born p c H m)(h:Fr S w w')(hs:∀b,ziy mb qb p H b->¬S b):QQ B w' qb mb born p c H m:=⟨q.qi.fr h fun b hb=>hs b (.inr hb),q.mp.fr h (hs _ (.inl rfl)),q.hp,q.mB,q.mf⟩
theorem QQ.foot(q:QQ B w qb mb born p c H m){b:Nat}(h:ziy mb qb p H b):B<=b/\b<w.heap.size:=by
 rcases h with rfl|h
 ·exact⟨q.mB,q.mp.lt⟩
 ·exact q.qi.foot h
theorem QI.reslot{x y y':Value}{w':World}(q:QI B w qb x y p c H)(o:Own B w' zla 3 (ptr qb) 1 1 [.slice p H.length c,x,y'])(g:zco w w' (ptr qb) (ptr qb)):QI B w' qb x y' p c H :=
 ⟨o,q.arr.st (fun u v hu qhv=>by cases qhv;exact(q.ap u hu).1) g,fun k hk=>(q.th k hk).st (zb9 (q.aq k hk)) g,q.inj,q.aq,q.ap⟩
theorem qnew_k:FnP Tryz.prog zko #[] w fun v w'=>Ext w w'/\∃qb mb,v=.pointer (ptr qb)/\w.heap.size<=qb/\∀B,B<=w.heap.size->QQ B w' qb mb 0 none 0 [] []:=by
 refine zvv w _ fun w0 h0=>zkS (enc:=zJB) fun w1 m1 e1=>⟨e1,_,rfl,rfl,fun w3 h3=>zbp (by simp[Value.oneCell']) fun w4 o4 e4 w5 h5=>⟨(((h0.trans e1).trans h3).trans e4).trans h5,w3.heap.size,w0.heap.size,rfl,?_,fun B hB=>?_⟩⟩
 ·exact Nat.le_trans (Nat.le_trans h0.size e1.size) h3.size
 ·have hm:=m1.lt
  refine QQ.ext ⟨⟨o4 B (Nat.le_trans (Nat.le_trans (Nat.le_trans hB h0.size) e1.size) h3.size),Own.nil,fun k hk=>by simp at hk,fun i k hi=>by simp at hi,fun i hi=>by simp at hi,fun a ha=>by cases ha⟩,(m1.ext h3).ext e4,fun k k1 kn=>by simp at kn,Nat.le_trans hB h0.size,?_⟩ h5
  rintro (h|⟨a,ha,_⟩|⟨t,ht,_⟩)
  ·have:=h3.size;omega
  ·cases ha
  ·cases ht
theorem zG1(hr:Rel H m)(id:Int):∃t3:Option Addr,(ziC m id).getD (.pointer none)=.pointer t3/\(t3=none↔∀t∈H,t.id≠id)/\(t3≠none->∃t∈H,t.id=id/\t3=ptr t.b):=by
 cases hm:ziC m id with
 |none =>
  refine⟨none,rfl,⟨fun _ t ht he=>?_,fun _=>rfl⟩,fun h=>absurd rfl h⟩
  have:=hr.1 t ht;rw[he,hm] at this;cases this
 |some v =>
  obtain⟨t,ht,he,rfl⟩:=hr.2 id v hm
  exact⟨ptr t.b,rfl,⟨fun h=>absurd h (zaB _),fun h=>absurd he (h t ht)⟩,fun _=>⟨t,ht,he,rfl⟩⟩
theorem zKy{t:Th}{Y:List Th}(hr:Rel H m)(hn:∀u∈H,u.id≠t.id)(hp:Y.Perm (t::H)):Rel Y (zqz m t.id (pv t)):=by
 refine⟨fun u hu=>?_,fun id v qhv=>?_⟩
 ·rw[zlA]
  rcases List.mem_cons.1 (hp.mem_iff.1 hu) with rfl|h
  ·rw[if_pos rfl]
  ·rw[if_neg (Ne.symm (hn u h))];exact hr.1 u h
 ·rw[zlA] at qhv
  split at qhv
  ·rename_i h
   exact⟨t,hp.mem_iff.2 (List.mem_cons_self ..),h,(Option.some.inj qhv).symm⟩
  ·obtain⟨u,hu,h1,h2⟩:=hr.2 id v qhv
   exact⟨u,hp.mem_iff.2 (List.mem_cons_of_mem _ hu),h1,h2⟩
def Ids(H:List Th):Prop:=(H.map (·.id)).Nodup
theorem zKx{t:Th}{Y:List Th}(hr:Rel H m)(hn:(zdE m).Nodup)(hi:Ids H)(hp:(t::Y).Perm H):Rel Y (zu2 m t.id)/\Ids Y:=by
 have h1:((t::Y).map (·.id)).Nodup:=(hp.map _).nodup_iff.2 hi
 simp only[List.map_cons,List.nodup_cons] at h1
 have hne:∀u∈Y,u.id≠t.id:=fun u hu he=>h1.1 (by rw[<-he];exact List.mem_map_of_mem hu)
 refine⟨⟨fun u hu=>?_,fun id v qhv=>?_⟩,h1.2⟩
 ·rw[zu3 m hn,if_neg (Ne.symm (hne u hu))]
  exact hr.1 u (hp.mem_iff.1 (List.mem_cons_of_mem _ hu))
 ·rw[zu3 m hn] at qhv
  split at qhv
  ·cases qhv
  ·rename_i h
   obtain⟨u,hu,h2,h3⟩:=hr.2 id v qhv
   rcases List.mem_cons.1 (hp.mem_iff.2 hu) with rfl|hy
   ·exact absurd h2 h
   ·exact⟨u,hy,h2,h3⟩
theorem qput_k(q:QQ B w qb mb born p c H m)(hr:Rel H m)(hn:H.length<=200)(hb:-1<=born/\born<=1000000000)(hB:B<=w.heap.size)(prio id:Int) :
  FnP Tryz.prog zeg #[.pointer (ptr qb),.int .i64 prio,.int .i64 id] w fun v w'=>∃e:Int,v=.int .i64 e /\
   (e≠0->Ext w w'/\((∃t∈H,t.id=id)/\e=6\/H.length=200/\e=7)) /\
   (e=0->(∀t∈H,t.id≠id)/\H.length≠200/\∃b p' c' Y,QQ B w' qb mb (born+1) p' c' Y (zqz m id (pv ⟨b,prio,id,born+1⟩))/\Y.Perm (⟨b,prio,id,born+1⟩::H)/\Fr (ziy mb qb p H) w w' /\
    (∀k,ziy mb qb p' Y k->ziy mb qb p H k\/w.heap.size<=k)):=by
 obtain⟨t3,e3,hnone,hsome⟩:=zG1 hr id
 have ne:=zaB qb
 refine zlP (ptr qb) prio id w _ ⟨ne,ne,_,q.qi.slot.cellAt0 (i:=1) rfl,fun w1 h1=>zG9 kq mapq zhH (a:=id) (q.mp.ext h1) ⟨Ext.refl _,t3,e3,fun hs w4 h4=>⟨_,rfl,fun _=>⟨h1.trans h4,.inl ⟨?_,rfl⟩⟩,fun h=>by cases h⟩,fun hs=>⟨ne,ne,_,_,_,(q.ext h1).qi.slot.cellAt0 (i:=0) rfl,fun h200 w7 h7=>⟨_,rfl,fun _=>⟨h1.trans h7,.inr ⟨by omega,rfl⟩⟩,fun h=>by cases h⟩,fun h200=>?_⟩⟩⟩
 ·obtain⟨t,ht,he,_⟩:=hsome hs;exact⟨t,ht,he⟩
 have q1:=q.ext h1
 refine⟨ne,ne,_,q1.qi.slot.cellAt0 (i:=2) rfl,i64 (by omega),ne,ne,?_⟩
 refine zct q1.qi.slot (by simp) rfl (by simp) fun w8 o8 g8=>⟨ne,ne,_,o8.cellAt0 (i:=2) rfl,fun w10 h10=>?_⟩
 have qi8:=q1.qi.reslot (y':=.int .i64 (born+1)) o8 g8
 have m8:=q1.mp.grew (p:=ptr qb) (q:=ptr qb) (fun x hx=>by cases hx;exact fun h=>q.mf (.inl h.symm)) g8
 have f8:Fr (ziy mb qb p H) w w8:=(zac h1).tr (zaP g8 fun a ha=>by cases ha;exact .inr (.inl rfl))
 refine zbp (by simp[Value.oneCell']) fun w11 o11 e11=>⟨ne,ne,_,((qi8.ext h10).ext e11).slot.cellAt0 (i:=1) rfl,fun w13 h13=>?_⟩
 have sz10:w.heap.size<=w10.heap.size:=Nat.le_trans f8.size h10.size
 have o11:=o11 B (Nat.le_trans hB sz10)
 have t13:=o11.ext h13
 have qi13:=((qi8.ext h10).ext e11).ext h13
 have f13:Fr (ziy mb qb p H) w w13:=((f8.tr (zac h10)).tr (zac e11)).tr (zac h13)
 have hfr:¬ziy mb qb p H w10.heap.size:=fun h=>by have:=(q.foot h).2;omega
 refine zh0 kq mapq (a:=id) (((m8.ext h10).ext e11).ext h13) fun w14 m14 g14=>⟨ne,ne,fun w15 h15=>?_⟩
 have g14':Fr (fun b=>b=mb) w13 w14:=zaP g14 fun a ha=>by cases ha;rfl
 have qi14:=qi13.fr g14' fun b hb h=>q.mf (h▸hb)
 have t14:=t13.fr g14' fun a ha h=>by cases ha;exact hfr (.inl h)
 rw[zaR]
 refine zfH (d:=.pointer zek) (by kernel_rfl) (by simp) ⟨Ext.refl _,_,rfl,fun w18 h18=>zfH (d:=.pointer zam) (by kernel_rfl) (by simp) ⟨Ext.refl _,_,rfl,fun w21 h21=>?_⟩⟩
 have qi21:=((qi14.ext h15).ext h18).ext h21
 have t21:=((t14.ext h15).ext h18).ext h21
 have f21:Fr (ziy mb qb p H) w w21:=(((f13.tr (g14'.mono fun b hb=>.inl hb)).tr (zac h15)).tr (zac h18)).tr (zac h21)
 refine(zxh (t:=⟨w10.heap.size,prio,id,born+1⟩) (j:=0) qi21 q.hp (by omega) (Nat.le_trans hB f21.size) t21 fun h=>hfr (.inr h)).mono fun v w22 ⟨qhv,p',c',Y,qi22,hp,hh,f22,np⟩=>⟨qhv,fun w23 h23=>⟨0,rfl,fun h=>absurd rfl h,fun _=>⟨hnone.1 hs,by omega,w10.heap.size,p',c',Y,QQ.ext ⟨qi22,?_,hh,q.mB,?_⟩ h23,hp,?_,fun k hk=>?_⟩⟩⟩
 ·have m21:=((m14.ext h15).ext h18).ext h21
  refine m21.fr f22 ?_
  rintro (h|h|⟨t,ht,h⟩)
  ·exact q.mf (.inl h)
  ·exact q.mf (.inr (.inl h))
  ·rcases List.mem_cons.1 ht with rfl|ht
   ·exact hfr (.inl h)
   ·exact q.mf (.inr (.inr ⟨t,ht,h⟩))
 ·intro h
  rcases zpg (fun u hu=>List.mem_cons.1 (hp.mem_iff.1 hu)) np mb h with h|h
  ·rcases h with h|h|⟨t,ht,h⟩
   ·exact q.mf (.inl h)
   ·exact q.mf (.inr (.inl h))
   ·rcases List.mem_cons.1 ht with rfl|ht
    ·exact hfr (.inl h)
    ·exact q.mf (.inr (.inr ⟨t,ht,h⟩))
  ·have:=((m14.ext h15).ext h18 |>.ext h21).lt;omega
 ·refine(f21.trans f22 fun b hb=>?_).tr (zac h23)
  rcases hb with h|h|⟨t,ht,h⟩
  ·exact .inl (.inr (.inl h))
  ·exact .inl (.inr (.inr (.inl h)))
  ·rcases List.mem_cons.1 ht with rfl|ht
   ·simp only at h;exact .inr (by omega)
   ·exact .inl (.inr (.inr (.inr ⟨t,ht,h⟩)))
 ·rcases hk with rfl|hk
  ·exact .inl (.inl rfl)
  ·rcases zpg (fun u hu=>List.mem_cons.1 (hp.mem_iff.1 hu)) np k hk with h|h
   ·rcases h with h|h|⟨t,ht,h⟩
    ·exact .inl (.inr (.inl h))
    ·exact .inl (.inr (.inr (.inl h)))
    ·rcases List.mem_cons.1 ht with rfl|ht
     ·simp only at h;exact .inr (by omega)
     ·exact .inl (.inr (.inr (.inr ⟨t,ht,h⟩)))
   ·exact .inr (Nat.le_trans f21.size h)
theorem zKv(q:QQ B w qb mb born p c H m)(hn:H.length<=1000) :
  FnP Tryz.prog za3 #[.pointer (ptr qb)] w fun v w' =>
   (H=[]/\v=.tuple #[.agg #[.int .i64 0,.int .i64 0],.bool false]/\Ext w w') \/
   ∃t Y,v=.tuple #[.agg #[.int .i64 t.prio,.int .i64 t.id],.bool true]/\QQ B w' qb mb born p c Y (zu2 m t.id)/\(t::Y).Perm H/\(∀u∈H,¬ahead u t)/\Fr (ziy mb qb p H) w w':=by
 have ne:=zaB qb
 refine zkM (ptr qb) w _ fun b0 hb0=>⟨ne,ne,_,_,_,q.qi.slot.cellAt0 (i:=0) rfl,fun h0 w4 h4=>.inl ⟨List.length_eq_zero_iff.1 (by omega),rfl,h4⟩,fun h0=>⟨ne,ne,fun w4 x4=>?_⟩⟩
 have h4:=zaa x4
 rw[zaR]
 refine zfH (d:=.pointer zek) (by kernel_rfl) (by simp) ⟨Ext.refl _,_,rfl,fun w7 x7=>?_⟩
 have h7:=zaa x7
 have q7:=(q.ext h4).ext h7
 have lt4:=x4.lt b0 (by simp)
 have nf:∀k,ziy mb qb p H k->k≠b0:=fun k hk h=>by have:=(q.foot hk).2;omega
 refine(zAM q7.qi q.hp (by omega) hn).mono fun v w8 ⟨t,j,Y,qhv,q8,hp,hh,hmin,ht,f8⟩=>⟨?_,v,rfl,fun w10 x10=>?_⟩
 ·refine f8.kept fun b hb=>?_
  obtain rfl:b=b0:=by simpa using hb
  exact⟨x7.lt b (by simp),fun h=>nf b (.inr h) rfl⟩
 subst qhv
 have h10:=zaa x10
 have hth:t∈H:=hp.mem_iff.1 (List.mem_cons_self ..)
 have mfY:¬zjz qb p Y mb:=by
  rintro (h|h|⟨u,hu,h⟩)
  ·exact q.mf (.inl h)
  ·exact q.mf (.inr (.inl h))
  ·exact q.mf (.inr (.inr ⟨u,hp.mem_iff.1 (List.mem_cons_of_mem _ hu),h⟩))
 have tb:t.b≠mb:=fun h=>q.mf (.inr (.inr ⟨t,hth,h⟩))
 have tb0:t.b≠b0:=nf _ (.inr (.inr (.inr ⟨t,hth,rfl⟩)))
 have m10:=(q7.mp.fr f8 q.mf).ext h10
 have net:=zaB t.b
 refine zr7 (d:=.pointer zam) (by kernel_rfl) (by simp) ⟨Ext.refl _,_,rfl,ne,ne,_,(q8.ext h10).slot.cellAt0 (i:=1) rfl,net,net,by rw[zaR];exact net,_,(by rw[zaR];exact(ht.ext h10).cellAt0 (i:=1) rfl),fun w15 x15=>?_⟩
 have h15:=zaa x15
 have lt15:=x15.lt b0 (by simp)
 refine zA5 (ts:=[3]) kq mapq (a:=t.id) (m10.ext h15) fun w16 m16 g16=>?_
 have f16:Fr (fun b=>b=mb) w15 w16:=zaP g16 fun a ha=>by cases ha;rfl
 have q16:=((q8.ext h10).ext h15).fr f16 fun b hb h=>mfY (h▸hb)
 have t16:=((ht.ext h10).ext h15).fr f16 fun a ha h=>by cases ha;exact tb h
 rw[zaR]
 refine⟨f16.kept fun b hb=>?_,rfl,net,net,net,_,t16.cellAt (i:=0) rfl,_,t16.cellAt (i:=1) rfl,fun w19 x19=>.inr ⟨t,Y,rfl,?_,hp,hmin,?_⟩⟩
 ·obtain rfl:b=b0:=by simpa using hb
  exact⟨lt15,fun h=>nf b (.inl h) rfl⟩
 ·have f19:Fr (fun b=>b=b0) w16 w19:=zbL x19 fun d hd=>.inl (by simpa using hd)
  have hY:∀k,ziy mb qb p Y k->ziy mb qb p H k:=fun k hk=>by
   rcases hk with h|h|h|⟨u,hu,h⟩
   ·exact .inl h
   ·exact .inr (.inl h)
   ·exact .inr (.inr (.inl h))
   ·exact .inr (.inr (.inr ⟨u,hp.mem_iff.1 (List.mem_cons_of_mem _ hu),h⟩))
  exact QQ.fr ⟨q16,m16,hh,q.mB,mfY⟩ f19 fun k hk h=>nf k (hY k hk) h
 ·have f16':Fr (ziy mb qb p H) w w16:=(((((zac h4).tr (zac h7)).tr (f8.mono fun b hb=>.inr hb)).tr (zac h10)).tr (zac h15)).tr (f16.mono fun b hb=>.inl hb)
  refine f16'.trans (zbL (S:=fun b=>b=b0) x19 fun d hd=>.inl (by simpa using hd)) fun b hb=>.inr (by omega)
end
def Far(n:Nat)(w:World)(X:World->Prop):Prop:=∀S:Nat->Prop,(∀b,S b->b<n)->∀w'',Fr S w w''->X w''
theorem Far.at{n:Nat}{w:World}{X:World->Prop}(h:Far n w X):X w:=h (fun _=>False) (fun _ h=>h.elim) w (Fr.refl _ w)
structure AR where
 t:AT
 p:Option Addr
 c:Nat
abbrev zFZ(x:AR):List Value:=zos x.t x.p x.c
theorem zJ1{w:World}{t:AT}{q:Option Addr}{d:Nat}{L:List AR}(hm:L.map (·.t)=t.xs)(hle:t.xs.length<=d)(hR:zfQ 5 zFZ w q L)(hT:∀x∈L,IsT w x.t x.p x.c):IsT w t q d:=by
 rw[AT.eta t]
 unfold IsT
 refine⟨hle,IsL.of fun j x hx=>?_⟩
 rw[<-hm,List.getElem?_map] at hx
 obtain⟨r,hr,rfl⟩:=Option.map_eq_some_iff.1 hx
 exact⟨r.p,r.c,fun m u hu=>by rw[Nat.zero_add];exact hR j r hr m u hu,hT r (List.mem_of_getElem? hr)⟩
def AOut(w:World)(t:AT)(v:Value)(w':World):Prop:=Ext w w'/\∃q d,v=av t q d/\Far w.heap.size w' fun w''=>IsT w'' t q d
theorem zGO:∀(t:AT)(p:Option Addr)(c:Nat)(w:World),IsT w t p c->zeO t=0->FnP Tryz.prog ze6 #[av t p c] w (AOut w t):=by
 intro t
 induction t using AT.ind with
 |h k key val n xs ih =>
  intro p c w hT hE
  have hEx:=(zgX hE).2
  have h2:xs.length<=2:=by
   have:=zsB (zgX hE).1
   have h3:zfT k<=2:=by unfold zfT;split<;>(try split)<;>omega
   show xs.length<=2
   have h4:xs.length=zfT k:=this
   omega
  refine zqW k key val n p xs.length c w _ fun b0 hb0 b1 hb1=>?_
  refine⟨fun l ll lc k' w'=>Ext w w'/\0<=k'/\k'<=xs.length/\ll=k'.toNat/\(∀b∈[b0,b1],∀y,l=some y->y.block≠b)/\∃L:List AR,L.map (·.t)=xs.take k'.toNat/\Own w.heap.size w' zdN 5 l ll lc (L.flatMap zFZ) /\
    ∀x∈L,∀w'',Fr (fun b=>b<w.heap.size\/b=b0\/b=b1\/∃a,l=some a/\a.block=b) w' w''->IsT w'' x.t x.p x.c,
   fun _ _ _ k' _=>(xs.length-k').toNat,⟨Ext.refl _,by omega,by omega,rfl,fun b _ y hy=>(by cases hy),[],rfl,Own.nil,fun x hx=>(by cases hx)⟩,?_⟩
  rintro l ll lc k' w5 ⟨x5,hk0,hk1,rfl,hbl,L,hL,oL,hTL⟩
  have hLl:L.length=k'.toNat:=by have:=congrArg List.length hL;rw[List.length_map,List.length_take] at this;omega
  refine⟨fun hlt=>?_,fun hge w6 x6=>?_⟩
  ·have hT5:=hT.ext x5 _ _ _
   obtain⟨x,p',c',hx,hmem,hIx,a1,a2,g0,g1,g2,g3,g4⟩:=hT5.at hk0 (by exact hlt)
   refine⟨a1,hk0,hlt,a2,_,g0,_,g1,_,g2,_,g3,_,_,_,g4,fun b13 hb13 w14 x14=>?_⟩
   have h14:=zaa x14
   have hw14:=x5.trans h14
   refine(ih x hmem p' c' w14 (hIx.ext h14 _ _ _) (hEx x hmem)).mono fun v w15 ⟨e15,q,d,hv,hF⟩=>⟨e15,x.k,x.key,x.val,x.n,q,x.xs.length,d,hv,?_⟩
   have h515:=h14.trans e15
   have hw15:=x5.trans h515
   have oL15:=oL.ext h515
   have hns:∀b∈[b0,b1,b13],∀y,l=some y->y.block≠b:=fun b hb y hy=>by
    simp only[List.mem_cons,List.not_mem_nil,or_false] at hb
    rcases hb with rfl|rfl|rfl
    ·exact hbl _ (by simp) y hy
    ·exact hbl _ (by simp) y hy
    ·have:=(oL.lt y hy).2;omega
   refine zp0 (v:=av x q d) zfx (by omega) oL15 hw15.size hns rfl (by intro u hu;simp[Value.cells] at hu;rcases hu with rfl|rfl|rfl|rfl|rfl<;>rfl) (by omega) (by omega) (by omega) fun l' lc' w29 o29 g29 _ hb29=>⟨i64 (by omega),⟨g29.ext hw15 oL15,by omega,by omega,by omega,fun b hb y hy=>hb29 b (by simp at hb ⊢;omega) y hy,L++[⟨x,q,d⟩],?_,?_,?_⟩,by simp only[];omega⟩
   ·rw[show(k'+1).toNat=k'.toNat+1 by omega,List.map_append,hL,List.take_add_one]
    have hx':xs[k'.toNat]?=some x:=hx
    rw[hx'];rfl
   ·rw[List.flatMap_append]
    simpa[Value.cells,zFZ,zos] using o29
   ·have step:∀(w0 w'':World),Ext w0 w15->w0.heap.size<=w15.heap.size->(∀b,b<w.heap.size\/b=b0\/b=b1\/(∃a,l=some a/\a.block=b)->True)->Fr (fun b=>b<w.heap.size\/b=b0\/b=b1\/∃a,l'=some a/\a.block=b) w29 w''->Fr (fun b=>b<w.heap.size\/b=b0\/b=b1\/∃a,l=some a/\a.block=b) w0 w'':=fun w0 w'' h0 hs _ fw=>by
     have f1:Fr (fun b=>b<w.heap.size\/b=b0\/b=b1\/∃a,l=some a/\a.block=b) w0 w29:=(zac h0).tr (zaP g29 fun a ha=>.inr (.inr (.inr ⟨a,ha,rfl⟩)))
     refine f1.trans fw fun b hb=>?_
     rcases hb with h|h|h|⟨a2,ha2,hk2⟩
     ·exact .inl (.inl h)
     ·exact .inl (.inr (.inl h))
     ·exact .inl (.inr (.inr (.inl h)))
     rcases g29.new with hn|hn
     ·left
      rw[ha2] at hn
      cases hout:l with
      |none => rw[hout] at hn;simp[blk] at hn
      |some y => rw[hout] at hn;simp[blk] at hn;exact .inr (.inr (.inr ⟨y,rfl,by omega⟩))
     ·right
      have:=hn a2 ha2
      omega
    intro y hy w'' fw
    rcases List.mem_append.1 hy with hy|hy
    ·exact hTL y hy w'' (step w5 w'' h515 h515.size (fun _ _=>trivial) fw)
    ·simp at hy;subst hy
     refine hF _ (fun b hb=>?_) w'' (step w15 w'' (Ext.refl _) (Nat.le_refl _) (fun _ _=>trivial) fw)
     rcases hb with h|h|h|⟨a,ha,rfl⟩
     ·have:=hw14.size;omega
     ·subst h;exact x14.lt _ (by simp)
     ·subst h;exact x14.lt _ (by simp)
     ·have:=(oL.lt a ha).2;have:=h14.size;omega
  ·have hkl:k'.toNat=xs.length:=by omega
   rw[hkl,List.take_length] at hL
   rw[hkl] at oL hLl
   have hx6:Ext w w6:=zav x6 x5 (by intro d hd;simp at hd;omega)
   have f6:Fr (fun b=>b<w.heap.size\/b=b0\/b=b1\/∃a,l=some a/\a.block=b) w5 w6:=zbL x6 (fun d hd=>by simp at hd;rcases hd with rfl|rfl<;>simp)
   refine⟨hx6,l,lc,by rw[hkl];rfl,fun S hS w'' fw=>?_⟩
   have fall:Fr (fun b=>b<w.heap.size\/b=b0\/b=b1\/∃a,l=some a/\a.block=b) w5 w'':=f6.tr (fw.mono fun b hb=>.inl (hS b hb))
   have ol6:=(oL.but x6.toBut (fun d hd y hy=>hbl d (by simp at hd ⊢;omega) y hy)).fr fw (fun a ha hs=>by
    have:=hS _ hs
    have:=(oL.lt a ha).1
    omega)
   exact zJ1 (t:=.mk k key val n xs) hL (by show xs.length<=lc;have:=oL.le;omega) (ol6.recs fun _ _=>rfl) fun x hx=>hTL x hx w'' fall
structure St where
 job:Jb
 what:Int
 host:Int
 since:Int
 again:Int
 tries:Int
structure StR where
 s:St
 pa:Option Addr
 ca:Nat
 pf:Option Addr
 cf:Nat
abbrev zun(r:StR):List Value:=[.string r.s.job.user,.int .i64 r.s.job.prio,.int .i64 r.s.job.nd.c,.int .i64 r.s.job.nd.m,.int .i64 r.s.job.nd.g,.int .i64 r.s.job.ask.k,.string r.s.job.ask.key,.string r.s.job.ask.val,.int .i64 r.s.job.ask.n,.slice r.pa r.s.job.ask.xs.length r.ca,.slice r.pf r.s.job.aft.length r.cf,
 .int .i64 r.s.what,.int .i64 r.s.host,.int .i64 r.s.since,.int .i64 r.s.again,.int .i64 r.s.tries]
abbrev sv(r:StR):Value:=.agg #[.string r.s.job.user,.int .i64 r.s.job.prio,.int .i64 r.s.job.nd.c,.int .i64 r.s.job.nd.m,.int .i64 r.s.job.nd.g,.int .i64 r.s.job.ask.k,.string r.s.job.ask.key,.string r.s.job.ask.val,.int .i64 r.s.job.ask.n,.slice r.pa r.s.job.ask.xs.length r.ca,.slice r.pf r.s.job.aft.length r.cf,
 .int .i64 r.s.what,.int .i64 r.s.host,.int .i64 r.s.since,.int .i64 r.s.again,.int .i64 r.s.tries]
theorem zy8(r:StR):(zun r).length=16:=rfl
theorem zy9(r:StR):∀u∈zun r,u.oneCell'=true:=by
 intro u hu
 simp only[List.mem_cons,List.not_mem_nil,or_false] at hu
 rcases hu with rfl|rfl|rfl|rfl|rfl|rfl|rfl|rfl|rfl|rfl|rfl|rfl|rfl|rfl|rfl|rfl<;>rfl
theorem zFa(q:Option Addr)(c:Nat)(D:List Int)(h60:D.length<=1000)(w:World)(hD:zeh .i64 w q D) :
  FnP Tryz.prog zcC #[.slice q D.length c] w fun v w'=>Ext w w'/\∃p' c',v=.slice p' D.length c'/\Own w.heap.size w' zfR 1 p' D.length c' (D.map (.int .i64)):=by
 refine zhW q D.length c w _ ⟨fun hn w0 h0=>?_,fun hn=>?_⟩
 ·cases D with
  |nil => exact⟨h0,none,0,rfl,Own.nil⟩
  |cons x r => exact absurd hn fun hq => zaj (zeh.idx hD (i:=0) (by omega) (by simp)) (zah.2 hq)
 ·exact zo8 (Q:=fun v w'=>Ext w w'/\∃p' c',v=.slice p' D.length c'/\Own w.heap.size w' zfR 1 p' D.length c' (D.map (.int .i64))) zfy (by omega) hD (by simp) (by intro u hu;simp at hu;obtain⟨x,_,rfl⟩:=hu;rfl) (by omega) (by omega) hn fun p' c' w' hx o=>⟨hx,p',c',rfl,o⟩
def SOut(w:World)(s:St)(v:Value)(w':World):Prop:=Ext w w'/\∃r:StR,v=sv r/\r.s=s/\Far w.heap.size w' fun w''=>IsJ w'' s.job r.pa r.ca r.pf
theorem zDG(r:StR)(w:World)(hJ:IsJ w r.s.job r.pa r.ca r.pf)(hE:zeO r.s.job.ask=0)(h8:r.s.job.aft.length<=8):FnP Tryz.prog zjx #[sv r] w (SOut w r.s):=by
 refine zxH r.s.job.user r.s.job.prio r.s.job.nd.c r.s.job.nd.m r.s.job.nd.g r.s.job.ask.k r.s.job.ask.key r.s.job.ask.val r.s.job.ask.n r.pa r.s.job.ask.xs.length r.ca r.pf r.s.job.aft.length r.cf r.s.what r.s.host r.s.since r.s.again r.s.tries w _ fun b0 hb0 b1 hb1 w2 x2=>?_
 have h2:=zaa x2
 refine(zFa r.pf r.cf r.s.job.aft (by omega) w2 (hJ.2.ext h2)).mono fun v w3 ⟨e3,pf,cf,hv,oF⟩=>⟨e3,pf,_,cf,hv,fun w7 x7=>?_⟩
 have h7:Ext w w7:=zav x7 (h2.trans e3) (by intro d hd;simp at hd;omega)
 have oF7:=oF.but x7.toBut (fun d hd y hy=>by simp at hd;subst hd;have:=(oF.lt y hy).1;have:=x2.lt d (by simp);omega)
 refine(zGO r.s.job.ask r.pa r.ca w7 (hJ.1.ext h7 _ _ _) hE).mono fun v w8 ⟨e8,pa,ca,hv,hF⟩=>⟨e8,_,_,_,_,pa,_,ca,hv,fun w16 x16=>?_⟩
 have h16:Ext w w16:=zav x16 (h7.trans e8) (by intro d hd;simp at hd;omega)
 refine⟨h16,⟨r.s,pa,ca,pf,cf⟩,rfl,rfl,fun S hS w'' fw=>?_⟩
 have f816:Fr (fun b=>b=b0\/b=b1) w8 w16:=zbL x16 (fun d hd=>by simp at hd;rcases hd with rfl|rfl<;>simp)
 have fall:Fr (fun b=>b<w.heap.size\/b=b0\/b=b1) w8 w'':=(f816.mono fun b hb=>.inr hb).tr (fw.mono fun b hb=>.inl (hS b hb))
 have hb0':b0<w2.heap.size:=x2.lt b0 (by simp)
 have hb1':b1<w2.heap.size:=x2.lt b1 (by simp)
 have h27:w2.heap.size<=w7.heap.size:=Nat.le_trans e3.size x7.size
 refine⟨hF _ (fun b hb=>?_) w'' fall,?_⟩
 ·rcases hb with h|rfl|rfl
  ·have:=h2.size;omega
  ·omega
  ·omega
 ·exact((oF7.ext e8).fr fall (fun a ha hs=>by
   have:=(oF.lt a ha).1
   have:=h2.size
   omega)).cells
theorem zIk(p:Option Addr)(c:Nat)(L:List Ht)(h30:L.length<=30)(h8:∀h∈L,h.labels.length<=8)(w:World)(hL:ziz w p L) :
  FnP Tryz.prog zdI #[.slice p L.length c] w fun v w'=>Ext w w'/\∃p' c',∃M:List Hm,v=.slice p' L.length c'/\M.map (·.h)=L/\Own w.heap.size w' zdO 8 p' L.length c' (M.flatMap zjD)/\(∀m∈M,LbA w' p' m)/\∀m∈M,LbN w.heap.size m:=by
 refine zn9 p L.length c w _ fun w0 h0=>?_
 obtain⟨M0,hM0,hR0,hl0⟩:=hs_ms (hL.ext h0)
 have hlen0:M0.length=L.length:=by rw[<-hM0];simp
 rw[<-hlen0]
 refine(zsf p c M0 (by omega) w0 hR0).mono fun v w1 ⟨e1,p',c',hv,o1⟩=>⟨e1,p',M0.length,c',hv,?_⟩
 have lt0:∀m∈M0,LbA w1 p' m:=fun m hm=>⟨(hl0 m hm).ext e1,by
  cases hlb:m.h.labels with
  |nil => exact .inl rfl
  |cons x r =>
   refine .inr fun a b ha hb=>?_
   have:=(hl0 m hm).lt (x:=x) (by rw[hlb];exact List.mem_cons_self ..) (by simp) a ha
   have:=(o1.lt b hb).1
   omega⟩
 refine⟨fun k w'=>Ext w w'/\0<=k/\k<=M0.length/\∃M:List Hm,M.map (·.h)=L/\Own w0.heap.size w' zdO 8 p' M0.length c' (M.flatMap zjD)/\(∀m∈M,LbA w' p' m)/\∀j,j<k.toNat->∀m,M[j]?=some m->LbN w.heap.size m,fun k _=>(M0.length-k).toNat,⟨h0.trans e1,by omega,by omega,M0,hM0,o1,lt0,fun j hj=>by simp at hj⟩,?_⟩
 rintro k w7 ⟨x7,hk0,hk1,M,hM,o7,hA7,hN7⟩
 have hlen:M.length=M0.length:=by rw[hlen0,<-hM];simp
 refine⟨fun hlt=>?_,fun hge w8 h8=>⟨x7.trans h8,p',c',M,rfl,hM,(o7.ext h8).weak h0.size,fun m hm=>⟨(hA7 m hm).1.ext h8,(hA7 m hm).2⟩,fun m hm=>by
  obtain⟨j,hj⟩:=List.mem_iff_getElem?.1 hm
  have hjl:=(List.getElem?_eq_some_iff.1 hj).1
  exact hN7 j (by omega) m hj⟩⟩
 have r7:zfQ 8 zjD w7 p' M:=o7.recs fun _ _=>rfl
 have g:=r7.idx default hk0 (by omega) (j:=1) rfl
 have hp':=o7.ne1 (by omega) (by omega)
 have hm:=zaq M default (i:=k.toNat) (by omega)
 generalize hmd:M.getD k.toNat default=m at g hm
 have hml:m.h∈L:=by rw[<-hM];exact List.mem_map_of_mem hm
 refine⟨hp',hk0,hlt,fun hq=>hp' (zah.1 hq),m.q,m.h.labels.length,m.d,by rw[zak];exact g,fun w11 h11=>?_⟩
 refine(zyz m.q m.d m.h.labels (h8 _ hml) w11 ((hA7 m hm).1.ext h11)).mono fun v w12 ⟨e12,q',d',hv,hl',hn'⟩=>⟨e12,q',_,d',hv,hp',hk0,hlt,fun hq=>hp' (zah.1 hq),?_⟩
 have x12:=h11.trans e12
 have o12:=o7.ext x12
 refine zaS o12 zoF (by rw[zfe zgc];simp;omega) (by simp) (by intro v hv;simp at hv;subst hv;rfl) (by simp) fun w16 o16 g16=>?_
 rw[zlU zgc M k.toNat 1 [.slice q' m.h.labels.length d'] ⟨m.h,q',d'⟩ default (by omega) (by simp) (by rw[hmd];rfl)] at o16
 have hmap:(M.set k.toNat ⟨m.h,q',d'⟩).map (·.h)=L:=by
  rw[List.map_set,hM]
  have hk:k.toNat<L.length:=by omega
  have:L[k.toNat]=m.h:=by
   have h1:(M.map (·.h)).getD k.toNat default=m.h:=by
    rw[<-hmd,List.getD_eq_getElem?_getD,List.getD_eq_getElem?_getD,List.getElem?_map,List.getElem?_eq_getElem (by omega:k.toNat<M.length)];rfl
   rw[hM] at h1
   simpa[List.getD_eq_getElem?_getD,hk] using h1
  rw[<-this,List.set_getElem_self]
 refine⟨i64 (by omega),⟨?_,by omega,by omega,_,hmap,o16,fun m' hm'=>?_,fun j hj m' hm'=>?_⟩,by simp only[];omega⟩
 ·exact g16.ext (x7.trans x12) (o12.weak (by have:=h0.size;omega))
 ·rcases List.mem_or_eq_of_mem_set hm' with hm'|rfl
  ·exact⟨zjG ((hA7 m' hm').1.ext x12) (hA7 m' hm').2 g16,(hA7 m' hm').2⟩
  ·have ha:zbU q' p':=fun a b ha hb=>by
    have:=hn' a ha
    have:=(o7.lt b hb).2
    have:=h11.size
    omega
   exact⟨zjG hl' (.inr ha) g16,.inr ha⟩
 ·by_cases hjk:j=k.toNat
  ·subst hjk
   rw[List.getElem?_set_self (by omega)] at hm'
   obtain rfl:=Option.some.inj hm'
   exact .inr fun a ha=>(by have:=hn' a ha;have:=x7.size;have:=h11.size;omega)
  ·rw[List.getElem?_set_ne (by omega)] at hm'
   exact hN7 j (by omega) m' hm'
theorem zhG:zfW Tryz.prog zAl=some (zkq,16,184,.agg #[.string ⟨#[]⟩,.int .i64 0,.int .i64 0,.int .i64 0,.int .i64 0,.int .i64 0,.string ⟨#[]⟩,.string ⟨#[]⟩,.int .i64 0,.slice none 0 0,.slice none 0 0,.int .i64 0,.int .i64 0,.int .i64 0,.int .i64 0,.int .i64 0]):=by kernel_rfl
structure Pol where
 first:Int
 times:Int
 most:Int
 tries:Int
structure Fm where
 hosts:List Ht
 pol:Pol
 now:Int
 jobs:List St
structure Pl where
 hp:Option Addr
 hc:Nat
 jp:Option Addr
 jc:Nat
 R:List StR
instance:Inhabited St:=⟨⟨zdv,0,0,0,0,0⟩⟩
instance:Inhabited StR:=⟨⟨default,none,0,none,0⟩⟩
def ft(fb:Nat)(jp:Option Addr)(b:Nat):Prop:=b=fb\/∃a,jp=some a/\a.block=b
def ftO(O:Nat->Prop)(fb:Nat)(jp:Option Addr)(b:Nat):Prop:=O b\/ft fb jp b
abbrev fcs(P:Pl)(F:Fm):List Value:=[.slice P.hp F.hosts.length P.hc,.int .i64 F.pol.first,.int .i64 F.pol.times,.int .i64 F.pol.most,.int .i64 F.pol.tries,.int .i64 F.now,.slice P.jp P.R.length P.jc]
structure FXO(O:Nat->Prop)(B:Nat)(w:World)(fb:Nat)(P:Pl)(F:Fm):Prop where
 slot:Own B w zdq 7 (ptr fb) 1 1 (fcs P F)
 arr:Own B w zkq 16 P.jp P.R.length P.jc (P.R.flatMap zun)
 map:P.R.map (·.s)=F.jobs
 hs:∀w'',Fr (ftO O fb P.jp) w w''->ziz w'' P.hp F.hosts
 js:∀r∈P.R,∀w'',Fr (ftO O fb P.jp) w w''->IsJ w'' r.s.job r.pa r.ca r.pf
 ap:∀a,P.jp=some a->a.block≠fb
 hO:F.hosts.length<=30/\∀h∈F.hosts,zry h
 jO:F.jobs.length<=60/\∀s∈F.jobs,okJ s.job/\WfJ s.job
 olt:∀b,O b->b<w.heap.size
 odis:∀b,O b->¬ft fb P.jp b
abbrev FX(B:Nat):=FXO (fun b=>b<B) B
section
variable {O:Nat->Prop} {B fb:Nat} {w:World} {P:Pl} {F:Fm}
theorem FXO.len(x:FXO O B w fb P F):P.R.length=F.jobs.length:=by have:=congrArg List.length x.map;simpa using this
theorem FXO.foot(x:FXO O B w fb P F){b:Nat}(h:ft fb P.jp b):B<=b/\b<w.heap.size:=by
 rcases h with rfl|⟨a,ha,rfl⟩
 ·exact x.slot.lt _ rfl
 ·exact x.arr.lt a ha
theorem FXO.fr{S:Nat->Prop}{w':World}(x:FXO O B w fb P F)(f:Fr S w w')(hS:∀b,S b->O b):FXO O B w' fb P F :=
 ⟨x.slot.fr f fun a ha hs=>x.odis _ (hS _ hs) (.inl (by cases ha;rfl)),x.arr.fr f fun a ha hs=>x.odis _ (hS _ hs) (.inr ⟨a,ha,rfl⟩),x.map,
  fun w'' k=>x.hs w'' ((f.mono fun b hb=>.inl (hS b hb)).tr k),fun r hr w'' k=>x.js r hr w'' ((f.mono fun b hb=>.inl (hS b hb)).tr k),x.ap,x.hO,x.jO,fun b hb=>Nat.lt_of_lt_of_le (x.olt b hb) f.size,x.odis⟩
theorem FXO.ext{w':World}(x:FXO O B w fb P F)(e:Ext w w'):FXO O B w' fb P F:=x.fr (zac (S:=fun _=>False) e) fun _ h=>h.elim
theorem FXO.recs(x:FXO O B w fb P F):zfQ 16 zun w P.jp P.R:=x.arr.recs fun _ _=>rfl
theorem FXO.cell(x:FXO O B w fb P F){i:Nat}{v:Value}(h:(fcs P F)[i]?=some v):Go.Sx.cell w (pAdd (ptr fb) i) 0=some v:=by rw[zak];exact x.slot.cells i v h
theorem FXO.st(x:FXO O B w fb P F){k:Int}(h0:0<=k)(h1:k<F.jobs.length):∃r,P.R[k.toNat]?=some r/\F.jobs[k.toNat]?=some r.s/\P.jp≠none/\pIdx P.jp k 16≠none/\(∀(m:Nat) u,(zun r)[m]?=some u->Go.Sx.cell w (pIdx P.jp k 16) m=some u)/\(∀(m:Nat) u,(zun r)[m]?=some u->Go.Sx.cell w (pAdd (pIdx P.jp k 16) m) 0=some u)/\IsJ w r.s.job r.pa r.ca r.pf/\okJ r.s.job/\WfJ r.s.job:=by
 have hl:=x.len
 obtain⟨r,hr⟩:∃r,P.R[k.toNat]?=some r:=⟨_,List.getElem?_eq_getElem (by omega)⟩
 have hm:=List.mem_of_getElem? hr
 have g:∀(m:Nat) u,(zun r)[m]?=some u->Go.Sx.cell w (pIdx P.jp k 16) m=some u:=fun m u hu=>x.recs.at h0 hr hu
 have g0:=g 0 _ rfl
 have hF:F.jobs[k.toNat]?=some r.s:=by rw[<-x.map,List.getElem?_map,hr];rfl
 have hj:=x.jO.2 r.s (List.mem_of_getElem? hF)
 exact⟨r,hr,hF,fun h=>zaj g0 (zah.2 h),zaj g0,g,fun m u hu=>by rw[zak];exact g m u hu,x.js r hm w (Fr.refl _ w),hj.1,hj.2⟩
theorem FXO.slot_to{w':World}{F':Fm}{P':Pl}(x:FXO O B w fb P F)(o:Own B w' zdq 7 (ptr fb) 1 1 (fcs P' F'))(g:zco w w' (ptr fb) (ptr fb))(hj:F'.jobs=F.jobs)(hR:P'.R=P.R)(hjp:P'.jp=P.jp)(hjc:P'.jc=P.jc)
  (hs:∀w'',Fr (ftO O fb P.jp) w' w''->ziz w'' P'.hp F'.hosts) (hO:F'.hosts.length<=30/\∀h∈F'.hosts,zry h):FXO O B w' fb P' F'/\Fr (ft fb P.jp) w w':=by
 have f:Fr (ft fb P.jp) w w':=zaP g fun a ha=>by cases ha;exact .inl rfl
 refine⟨⟨o,?_,by rw[hR,hj];exact x.map,by rw[hjp];exact hs,fun r hr w'' k=>?_,by rw[hjp];exact x.ap,hO,by rw[hj];exact x.jO,fun b hb=>Nat.lt_of_lt_of_le (x.olt b hb) f.size,by rw[hjp];exact x.odis⟩,f⟩
 ·rw[hjp,hR,hjc]
  exact x.arr.st (fun u v hu hv=>by cases hv;exact x.ap u hu) g
 ·rw[hR] at hr
  rw[hjp] at k
  exact x.js r hr w'' ((f.mono fun b hb=>.inr hb).tr k)
def zjj(m:Nat)(v:Int)(s:St):St:=match m with
 |11 => { s with what:=v }
 |12 => { s with host:=v }
 |13 => { s with since:=v }
 |14 => { s with again:=v }
 |_ => { s with tries:=v }
def setF(F:Fm)(k:Nat)(s:St):Fm:={ F with jobs:=F.jobs.set k s }
def setP(P:Pl)(k:Nat)(s:St):Pl:={ P with R:=P.R.set k { P.R.getD k default with s:=s } }
theorem zlZ(m:Nat)(v:Int)(s:St):(zjj m v s).job=s.job:=by unfold zjj;split<;>rfl
theorem FXO.set(x:FXO O B w fb P F){k:Int}(h0:0<=k)(h1:k<F.jobs.length){m:Nat}(hm:11<=m/\m<=15)(v:Int){ns:List Nat}(hns:∀b∈ns,¬ft fb P.jp b){K:World->Prop}
  (hk:∀w',FXO O B w' fb (setP P k.toNat (zjj m v (F.jobs.getD k.toNat default))) (setF F k.toNat (zjj m v (F.jobs.getD k.toNat default)))->Fr (ft fb P.jp) w w'->K w'):zan w (pAdd (pIdx P.jp k 16) m) [.int .i64 v] ns K:=by
 have hl:=x.len
 have hg:(P.R.getD k.toNat default).s=F.jobs.getD k.toNat default:=by
  rw[<-x.map,List.getD_eq_getElem?_getD,List.getD_eq_getElem?_getD,List.getElem?_map,List.getElem?_eq_getElem (by omega:k.toNat<P.R.length)];rfl
 refine zaS x.arr zoF (by rw[zfe zy8];simp;omega) (by simp) (by intro u hu;simp at hu;subst hu;rfl) (fun b hb y hy he=>hns b hb (.inr ⟨y,hy,he⟩)) fun w' o g=>?_
 have f:Fr (ft fb P.jp) w w':=zaP g fun a ha=>.inr ⟨a,ha,rfl⟩
 refine hk w' ⟨?_,?_,?_,fun w'' kf=>?_,fun r hr w'' kf=>?_,x.ap,x.hO,?_,fun b hb=>Nat.lt_of_lt_of_le (x.olt b hb) f.size,x.odis⟩ f
 ·have:=x.slot.st (fun u y hu hy=>by cases hu;exact fun h=>x.ap y hy h.symm) g
  show Own B w' zdq 7 (ptr fb) 1 1 [_,_,_,_,_,_,.slice P.jp (P.R.set _ _).length P.jc]
  rw[List.length_set]
  exact this
 ·rw[zlU zy8 P.R k.toNat m [.int .i64 v] { P.R.getD k.toNat default with s:=zjj m v (F.jobs.getD k.toNat default) } default (by omega) (by simp;omega) (by
   rw[<-hg]
   have:m=11\/m=12\/m=13\/m=14\/m=15:=by omega
   rcases this with rfl|rfl|rfl|rfl|rfl<;>rfl)] at o
  show Own B w' zkq 16 P.jp (P.R.set _ _).length P.jc _
  rw[List.length_set]
  exact o
 ·show(P.R.set _ _).map (·.s)=F.jobs.set _ _
  rw[List.map_set,x.map]
 ·exact x.hs w'' ((f.mono fun b hb=>.inr hb).tr kf)
 ·have hr:r∈P.R.set k.toNat { P.R.getD k.toNat default with s:=zjj m v (F.jobs.getD k.toNat default) }:=hr
  rcases List.mem_or_eq_of_mem_set hr with hr|rfl
  ·exact x.js r hr w'' ((f.mono fun b hb=>.inr hb).tr kf)
  ·have:=x.js _ (zaq P.R default (i:=k.toNat) (by omega)) w'' ((f.mono fun b hb=>.inr hb).tr kf)
   rw[hg] at this
   show IsJ w'' (zjj m v (F.jobs.getD k.toNat default)).job _ _ _
   rw[zlZ]
   exact this
 ·refine⟨by show(F.jobs.set _ _).length<=60;rw[List.length_set];exact x.jO.1,fun s hs=>?_⟩
  have hs:s∈F.jobs.set k.toNat (zjj m v (F.jobs.getD k.toNat default)):=hs
  rcases List.mem_or_eq_of_mem_set hs with hs|rfl
  ·exact x.jO.2 s hs
  ·rw[zlZ]
   exact x.jO.2 _ (zaq F.jobs default (i:=k.toNat) (by omega))
theorem zFs(x:FXO O B w fb P F)(id:Int)(hid:InR .i64 id):FnP Tryz.prog zbc #[.pointer (ptr fb),.int .i64 id] w fun v w'=>Ext w w'/\((¬(1<=id/\id<=F.jobs.length)/\v=.pointer none)\/(1<=id/\id<=F.jobs.length/\v=.pointer (pIdx P.jp (id-1) 16))):=by
 have hl:=x.len
 have hj:=x.jO.1
 have ne:=zaB fb
 refine zpR (ptr fb) id w _ ⟨fun _=>ne,fun _=>ne,fun h w0 h0=>⟨h0,.inl ⟨by omega,rfl⟩⟩,fun h=>⟨_,_,_,x.cell (i:=6) rfl,fun h2 w3 h3=>⟨h3,.inl ⟨by omega,rfl⟩⟩,fun h2=>⟨ne,ne,_,_,_,x.cell (i:=6) rfl,i64 (by omega),?_,by omega,by omega,fun w6 h6=>⟨h6,.inr ⟨h,by omega,rfl⟩⟩⟩⟩⟩
 obtain⟨r,_,_,hp,_⟩:=x.st (k:=id-1) (by omega) (by omega)
 exact hp
theorem now_k(x:FXO O B w fb P F):FnP Tryz.prog zby #[.pointer (ptr fb)] w fun v w'=>Ext w w'/\v=.int .i64 F.now :=
 zn8 (ptr fb) w _ ⟨zaB fb,zaB fb,_,x.cell (i:=5) rfl,fun w1 h1=>⟨h1,rfl⟩⟩
def zlc(F:Fm):Prop:=∀(i:Nat) s,F.jobs[i]?=some s->∀y∈s.job.aft,1<=y/\y<=i
def za0(F:Fm)(id:Int):Int:=(F.jobs.getD (id-1).toNat default).what
theorem zmv(x:FXO O B w fb P F){id:Int}(h:1<=id/\id<=F.jobs.length){w':World}(e:Ext w w'):∃q,pIdx P.jp (id-1) 16=q/\q≠none/\Go.Sx.cell w' (pAdd q 11) 0=some (.int .i64 (za0 F id)):=by
 obtain⟨r,hr,hF,_,hne,_,g,_⟩:=(x.ext e).st (k:=id-1) (by omega) (by omega)
 refine⟨_,rfl,hne,?_⟩
 have:=g 11 _ rfl
 unfold za0
 rw[List.getD_eq_getElem?_getD,hF]
 exact this
theorem zGX(x:FXO O B w fb P F){p1:Option Addr}(hc:Go.Sx.cell w p1 0=some (.pointer (ptr fb))){id:Int}(h:1<=id/\id<=F.jobs.length):FnP Tryz.prog zdn #[.int .i64 id,.pointer p1] w fun v w'=>Ext w w'/\v=.bool (decide (za0 F id≠3)):=by
 have hj:=x.jO.1
 refine zjV id p1 w _ ⟨_,hc,fun w1 h1=>(zFs (x.ext h1) id (i64 (by omega))).mono fun v w2 ⟨e2,hv⟩=>?_⟩
 rcases hv with⟨hno,_⟩|⟨_,_,rfl⟩
 ·exact absurd h hno
 ·obtain⟨q,hq,hne,hg⟩:=zmv x h (h1.trans e2)
  exact⟨e2,_,rfl,by rw[hq];exact hne,by rw[hq];exact hne,_,by rw[hq];exact hg,fun w5 h5=>⟨(h1.trans e2).trans h5,rfl⟩⟩
theorem zKf(x:FXO O B w fb P F){p1:Option Addr}(hc:Go.Sx.cell w p1 0=some (.pointer (ptr fb))){id:Int}(h:1<=id/\id<=F.jobs.length):FnP Tryz.prog zdH #[.int .i64 id,.pointer p1] w fun v w'=>Ext w w'/\v=.bool (decide (za0 F id=4)||decide (za0 F id=5)):=by
 have hj:=x.jO.1
 refine zkL id p1 w _ ⟨_,hc,fun w1 h1=>(zFs (x.ext h1) id (i64 (by omega))).mono fun v w2 ⟨e2,hv⟩=>?_⟩
 rcases hv with⟨hno,_⟩|⟨_,_,rfl⟩
 ·exact absurd h hno
 ·obtain⟨q,hq,hne,hg⟩:=zmv x h (h1.trans e2)
  exact⟨e2,_,rfl,by rw[hq];exact hne,by rw[hq];exact hne,_,by rw[hq];exact hg,fun w5 h5=>⟨(h1.trans e2).trans h5,rfl⟩⟩
def zdC(F:Fm)(s:St):Bool:=decide (s.what=1)&&decide (s.again<=F.now)&&s.job.aft.all fun y=>decide (za0 F y=3)
theorem zKw(x:FXO O B w fb P F)(ha:zlc F){k:Int}(h0:0<=k)(h1:k<F.jobs.length):FnP Tryz.prog zed #[.pointer (ptr fb),.pointer (pIdx P.jp k 16)] w fun v w'=>Ext w w'/\v=.bool (zdC F (F.jobs.getD k.toNat default)):=by
 refine zlN (ptr fb) (pIdx P.jp k 16) w _ fun w0 e0=>zbp (by simp[Value.oneCell']) fun w1 o1 e1=>?_
 have e01:=e0.trans e1
 have x1:=x.ext e01
 obtain⟨r,hr,hF,_,hne,_,g,hJ,hok,hwf⟩:=x1.st h0 h1
 have hg:F.jobs.getD k.toNat default=r.s:=by rw[List.getD_eq_getElem?_getD,hF];rfl
 rw[hg]
 have c1:Go.Sx.cell w1 (some ⟨w0.heap.size,0,none⟩) 0=some (.pointer (ptr fb)):=(o1 0 (Nat.zero_le _)).cells 0 _ rfl
 have ne:=zaB fb
 refine⟨hne,hne,_,g 11 _ rfl,fun _=>hne,fun _=>hne,fun hw=>⟨_,g 14 _ rfl,_,c1,ne,ne,_,x1.cell (i:=5) rfl,fun _=>hne,fun _=>hne,fun _=>by rw[zaR];exact hne,fun hn=>⟨_,_,_,by rw[zaR];exact g 10 _ rfl,fun w9 h9=>?_⟩,fun hn w6 h6=>⟨e01.trans h6,?_⟩⟩,fun hw w3 h3=>⟨e01.trans h3,?_⟩⟩
 ·have hin:∀y∈r.s.job.aft,1<=y/\y<=F.jobs.length:=fun y hy=>by have:=ha _ _ hF y hy;omega
  have hlen:=hok.len
  refine(zoT r.pf r.cf r.s.job.aft (by omega) _ (fun y=>decide (za0 F y≠3)) w9 (hJ.2.ext h9) fun y hy w' hw'=>⟨zdn,#[.pointer (some ⟨w0.heap.size,0,none⟩)],rfl,zGX (x1.ext (h9.trans hw')) (zaz (h9.trans hw') c1) (hin y hy)⟩).mono fun v w10 ⟨e10,b,hv,hb⟩=>⟨e10,b,hv,fun w12 h12=>⟨e01.trans h12,?_⟩⟩
  unfold zdC
  have h1:decide (r.s.what=1)=true:=decide_eq_true hw
  have h2:decide (r.s.again<=F.now)=true:=decide_eq_true hn
  rw[h1,h2]
  simp only[Bool.true_and]
  congr 1
  cases b with
  |true =>
   obtain⟨y,hy,h3⟩:=hb.1 rfl
   have:(r.s.job.aft.all fun y=>decide (za0 F y=3))=false:=by
    rw[List.all_eq_false]
    exact⟨y,hy,by simpa using h3⟩
   rw[this];rfl
  |false =>
   have:(r.s.job.aft.all fun y=>decide (za0 F y=3))=true:=by
    rw[List.all_eq_true]
    intro y hy
    by_cases h:za0 F y=3
    ·simp[h]
    ·exact absurd (hb.2 ⟨y,hy,by simpa using h⟩) (by simp)
   rw[this];rfl
 ·unfold zdC
  have:decide (r.s.again<=F.now)=false:=decide_eq_false (by omega)
  rw[this];simp
 ·unfold zdC
  have:decide (r.s.what=1)=false:=decide_eq_false hw
  rw[this];simp
end
def okP(p0 p1 p2 p3:Int):Prop:=1<=p0/\p0<=1000000000/\1<=p1/\p1<=10/\p0<=p2/\p2<=1000000000/\0<=p3/\p3<=50
def dl(p0 p1 p2:Int):Nat->Int
 |0 => p0
 |k+1 => min (dl p0 p1 p2 k*p1) p2
theorem zIc{a b:Int}(ha:0<=a)(hb:1<=b):a<=a*b:=by
 have:=Int.mul_le_mul_of_nonneg_left hb ha
 omega
theorem zGC{a b:Int}(ha:0<=a)(hb:b<=10):a*b<=a*10:=Int.mul_le_mul_of_nonneg_left hb ha
theorem zli{p0 p1 p2 p3:Int}(h:okP p0 p1 p2 p3):∀k,p0<=dl p0 p1 p2 k/\dl p0 p1 p2 k<=p2
 |0 => by unfold okP at h;simp only[dl];omega
 |k+1 => by
  have ih:=zli h k
  unfold okP at h
  have:=zIc (a:=dl p0 p1 p2 k) (b:=p1) (by omega) (by omega)
  simp only[dl]
  omega
theorem zxk{x:Int}(h:-9223372036854775808<=x/\x<=9223372036854775807):InR .i64 x:=h
theorem zhK{x:Int}(h:InR .i64 x):-9223372036854775808<=x/\x<=9223372036854775807:=h
theorem zzI(p0 p1 p2 p3:Int)(w:World):FnP Tryz.prog zdJ #[.agg #[.int .i64 p0,.int .i64 p1,.int .i64 p2,.int .i64 p3]] w fun v w'=>Ext w w'/\∃e,v=.int .i64 e/\(okP p0 p1 p2 p3->e=0)/\(¬okP p0 p1 p2 p3->e=4):=by
 refine zq4 _ _ _ _ w _ ?_
 intro b0 hb
 refine⟨fun h w1 he=>⟨he,4,rfl,fun hk=>?_,fun _=>rfl⟩,fun h w1 he=>⟨he,0,rfl,fun _=>rfl,fun hn=>?_⟩⟩<;>unfold okP at *<;>omega
def errD(p0 p1 p2 p3 n e:Int):Prop:=(¬okP p0 p1 p2 p3->e=4)/\(okP p0 p1 p2 p3->(n<1\/p3<n)->e=5)/\(okP p0 p1 p2 p3->(1<=n/\n<=p3)->e=0)
theorem zJm(p0 p1 p2 p3 n:Int)(hn:InR .i64 n)(w:World):FnP Tryz.prog zdK #[.agg #[.int .i64 p0,.int .i64 p1,.int .i64 p2,.int .i64 p3],.int .i64 n] w fun v w' =>
  Ext w w'/\∃a e,v=.tuple #[.int .i64 a,.int .i64 e]/\errD p0 p1 p2 p3 n e/\(e≠0->a=0)/\(e=0->a=dl p0 p1 p2 (n-1).toNat):=by
 refine zq5 _ _ _ _ _ w _ ?_
 have hn:=zhK hn
 intro b0 hb w1 h1
 refine(zzI _ _ _ _ w1).mono fun v w2 ⟨h2,e,he,ho,hno⟩=>⟨h2,e,he,fun hne w4 h4=>⟨h4,0,e,rfl,?_,fun _=>rfl,fun h0=>absurd h0 hne⟩,fun he0=>?_⟩
 ·have:¬okP p0 p1 p2 p3:=fun h=>hne (ho h)
  exact⟨hno,fun h=>absurd h this,fun h=>absurd h this⟩
 ·have hok:okP p0 p1 p2 p3:=by
   by_cases h:okP p0 p1 p2 p3
   ·exact h
   ·have:=hno h;omega
  refine⟨fun hr w4 h4=>⟨h4,0,5,rfl,⟨fun h=>absurd hok h,fun _ _=>rfl,fun _ h=>by omega⟩,fun _=>rfl,fun h=>by omega⟩,fun hr=>⟨zxk (by omega),?_⟩⟩
  refine⟨fun d k w'=>Ext w w'/\0<=k/\k<=n-1/\d=dl p0 p1 p2 k.toNat,fun d k _=>(n-1-k).toNat,⟨Ext.refl w,by omega,by omega,rfl⟩,?_⟩
  rintro d k w7 ⟨hw,hk0,hk1,rfl⟩
  have hd:=zli hok k.toNat
  have hm1:=zGC (a:=dl p0 p1 p2 k.toNat) (b:=p1) (by unfold okP at hok;omega) (by unfold okP at hok;omega)
  have hm2:=zIc (a:=dl p0 p1 p2 k.toNat) (b:=p1) (by unfold okP at hok;omega) (by unfold okP at hok;omega)
  unfold okP at hok
  refine⟨fun hlt=>⟨zxk (by omega),zxk (by omega),⟨hw,by omega,by omega,?_⟩,by simp only[];omega⟩,fun hge w8 h8=>⟨hw.trans h8,_,0,rfl,⟨fun h=>absurd hok h,fun _ h=>by omega,fun _ _=>rfl⟩,fun h=>absurd rfl h,fun _=>?_⟩⟩
  ·rw[show(k+1).toNat=k.toNat+1 by omega];rfl
  ·rw[show k=n-1 by omega]
abbrev zmT(p:Pol):Prop:=okP p.first p.times p.most p.tries
def zlh(p:Pol)(n:Int):Int:=dl p.first p.times p.most (n-1).toNat
def stF(F:Fm)(k m:Nat)(v:Int):Fm:=setF F k (zjj m v (F.jobs.getD k default))
def zad(F:Fm)(k:Nat):St:=F.jobs.getD k default
theorem zbI(F:Fm)(k m:Nat)(v:Int):(stF F k m v).jobs.length=F.jobs.length:=by simp[stF,setF]
theorem zjN(F:Fm)(k m:Nat)(v:Int):(stF F k m v).hosts=F.hosts:=rfl
theorem zjY(F:Fm){k m:Nat}(v:Int)(hk:k<F.jobs.length)(i:Nat):zad (stF F k m v) i=if i=k then zjj m v (zad F k) else zad F i:=by
 unfold zad stF setF
 simp only[List.getD_eq_getElem?_getD,List.getElem?_set]
 by_cases h:k=i
 ·subst h;simp[hk]
 ·have h':¬i=k:=fun h2=>h h2.symm
  simp[h,h']
theorem zty(F:Fm){k m:Nat}(v:Int)(hk:k<F.jobs.length):(stF F k m v).jobs.map (·.job)=F.jobs.map (·.job):=by
 unfold stF setF
 rw[List.map_set,zlZ]
 refine List.ext_getElem? fun i=>?_
 rw[List.getElem?_set]
 by_cases h:k=i
 ·subst h
  simp[List.getD_eq_getElem?_getD,hk]
 ·simp[h]
theorem zFo{F G:Fm}(h:G.jobs.map (·.job)=F.jobs.map (·.job))(ha:zlc F):zlc G:=by
 intro i s hs y hy
 have h1:(G.jobs.map (·.job))[i]?=some s.job:=by rw[List.getElem?_map,hs];rfl
 rw[h,List.getElem?_map] at h1
 obtain⟨s',hs',e⟩:=Option.map_eq_some_iff.1 h1
 exact ha i s' hs' y (by rw[e];exact hy)
theorem zrC{F:Fm}{k m:Nat}{v:Int}(hk:k<F.jobs.length)(ha:zlc F):zlc (stF F k m v):=zFo (zty F v hk) ha
theorem zAO{F:Fm}{k:Nat}(h:k<F.jobs.length):F.jobs[k]?=some (zad F k):=by simp[zad,List.getD_eq_getElem?_getD,h]
theorem zhL{F:Fm}{k:Nat}{s:St}(h:F.jobs[k]?=some s):zad F k=s:=by simp[zad,List.getD_eq_getElem?_getD,h]
section
variable {O:Nat->Prop} {B fb:Nat} {w:World} {P:Pl} {F:Fm}
theorem zIv(x:FXO O B w fb P F)(hn0:0<=F.now/\F.now<=1099511627776)(n:Int):FnP Tryz.prog zcp #[.pointer (ptr fb),.int .i64 n] w fun v w'=>∃e:Int,v=.int .i64 e /\
  ((e≠0/\e=4/\Ext w w')\/(e=0/\(0<=n/\n<=1000000000/\F.now+n<=1099511627776)/\FXO O B w' fb P { F with now:=F.now+n }/\Fr (ft fb P.jp) w w'))/\(e=0↔(0<=n/\n<=1000000000/\F.now+n<=1099511627776)):=by
 have ne:=zaB fb
 refine zm4 (ptr fb) n w _ ⟨fun _=>ne,fun _=>ne,fun h w0 h0=>⟨4,rfl,.inl ⟨by decide,rfl,h0⟩,by omega⟩,fun h=>⟨_,x.cell (i:=5) rfl,i64 (by omega),fun h2 w1 h1=>⟨4,rfl,.inl ⟨by decide,rfl,h1⟩,by omega⟩,fun h2=>⟨ne,ne,_,x.cell (i:=5) rfl,i64 (by omega),ne,ne,?_⟩⟩⟩
 refine zaS (off:=5) x.slot rfl (by simp) (by simp) (by intro u hu;simp at hu;subst hu;rfl) (by simp) fun w2 o2 g2 w3 h3=>?_
 obtain⟨y,f⟩:=x.slot_to (F':={ F with now:=F.now+n }) (P':=P) o2 g2 rfl rfl rfl rfl (fun w'' k=>x.hs w'' (((zaP g2 fun a ha=>by cases ha;exact .inr (.inl rfl))).tr k)) x.hO
 exact⟨0,rfl,.inr ⟨rfl,⟨h.1,h.2,h2⟩,y.ext h3,f.tr (zac h3)⟩,by omega⟩
def zK7(F:Fm)(s:St):Bool:=s.job.aft.any fun y=>decide (za0 F y=4)||decide (za0 F y=5)
def zbS(F:Fm)(k:Nat):Fm:=if (zad F k).what=1/\zK7 F (zad F k)=true then stF F k 11 5 else F
def lostTo(F:Fm):Nat->Fm
 |0 => F
 |n+1 => zbS (lostTo F n) n
def zmM(F:Fm):Fm:=lostTo F F.jobs.length
theorem zu0(F:Fm)(k:Nat):(zbS F k).jobs.length=F.jobs.length:=by unfold zbS;split<;>simp[zbI]
theorem zg2(F:Fm):∀n,(lostTo F n).jobs.length=F.jobs.length
 |0 => rfl
 |n+1 => by rw[lostTo,zu0,zg2 F n]
theorem zrT{F:Fm}(ha:zlc F):∀n,n<=F.jobs.length->zlc (lostTo F n)
 |0,_ => ha
 |n+1,h => by
  have ih:=zrT ha n (by omega)
  rw[lostTo,zbS]
  split
  ·exact zrC (by rw[zg2];omega) ih
  ·exact ih
theorem FXO.put(x:FXO O B w fb P F){k:Int}(h0:0<=k)(h1:k<F.jobs.length){m:Nat}(hm:11<=m/\m<=15)(v:Int){ns:List Nat}(hns:∀b∈ns,¬ft fb P.jp b){K:World->Prop}
 (hk:∀w' P',P'.jp=P.jp->FXO O B w' fb P' (stF F k.toNat m v)->Fr (ft fb P.jp) w w'->K w'):zan w (pAdd (pIdx P.jp k 16) m) [.int .i64 v] ns K:=x.set h0 h1 hm v hns fun w' y f=>hk w' (setP P k.toNat (zjj m v (F.jobs.getD k.toNat default))) rfl y f
theorem zH9(x:FXO O B w fb P F)(ha:zlc F):FnP Tryz.prog zaG #[.pointer (ptr fb)] w fun v w'=>v=.tuple #[]/\∃P',P'.jp=P.jp/\FXO O B w' fb P' (zmM F)/\Fr (ft fb P.jp) w w':=by
 have ne:=zaB fb
 refine zm5 (ptr fb) w _ fun w0 e0=>zbp (by simp[Value.oneCell']) fun w1 o1 e1=>?_
 have e01:=e0.trans e1
 have x1:=x.ext e01
 generalize hp1:(some ⟨w0.heap.size,0,none⟩:Option Addr)=p1
 rw[hp1] at o1
 have o1':=o1 w0.heap.size (Nat.le_refl _)
 have c1:Go.Sx.cell w1 p1 0=some (.pointer (ptr fb)):=o1'.cells 0 _ rfl
 have np:∀a,p1=some a->¬ft fb P.jp a.block:=fun a ha hf=>by
  have:=(x.foot hf).2
  have:=(o1'.lt a ha).1
  have:=e0.size
  omega
 have hl0:=x.jO.1
 refine⟨_,c1,ne,ne,_,_,_,x1.cell (i:=6) rfl,?_⟩
 rw[x1.len]
 refine⟨fun k w'=>0<=k/\k<=F.jobs.length/\Fr (ft fb P.jp) w1 w'/\∃P',P'.jp=P.jp/\FXO O B w' fb P' (lostTo F k.toNat),fun k _=>(F.jobs.length-k).toNat,⟨by omega,by omega,Fr.refl _ _,P,rfl,x1⟩,?_⟩
 rintro k w8 ⟨hk0,hk1,f8,P',hP,x8⟩
 have ll:=zg2 F k.toNat
 refine⟨fun hlt=>?_,fun hge w9 h9=>⟨rfl,P',hP,?_,((zac e01).tr f8).tr (zac h9)⟩⟩
 ·have c8:Go.Sx.cell w8 p1 0=some (.pointer (ptr fb)):=zdP c1 f8 np
  obtain⟨r,hr,hF,hjp,hne,_,g,hJ,hok,hwf⟩:=x8.st hk0 (by omega)
  have hja:zad (lostTo F k.toNat) k.toNat=r.s:=zhL hF
  have nxt:∀{w},FXO O B w fb P' (zbS (lostTo F k.toNat) k.toNat)->FXO O B w fb P' (lostTo F (k+1).toNat):=fun h=>by rw[show(k+1).toNat=k.toNat+1 by omega];exact h
  have same:¬(r.s.what=1/\zK7 (lostTo F k.toNat) r.s=true)->lostTo F (k+1).toNat=lostTo F k.toNat:=fun h=>by
   rw[show(k+1).toNat=k.toNat+1 by omega,lostTo,zbS,hja,if_neg h]
  refine⟨_,c8,ne,ne,_,_,_,x8.cell (i:=6) rfl,hjp,hk0,by rw[x8.len];omega,hne,hne,_,g 11 _ rfl,fun _=>hne,fun _=>hne,fun _=>by rw[zaR];exact hne,fun hw=>?_,fun hw=>⟨i64 (by omega),⟨by omega,by omega,f8,P',hP,by rw[same fun h=>hw h.1];exact x8⟩,by simp only[];omega⟩⟩
  refine⟨_,_,_,by rw[zaR];exact g 10 _ rfl,fun w17 h17=>?_⟩
  have hin:∀y∈r.s.job.aft,1<=y/\y<=(lostTo F k.toNat).jobs.length:=fun y hy=>by have:=zrT ha k.toNat (by omega) _ _ hF y hy;omega
  have hlen:=hok.len
  refine(zoT r.pf r.cf r.s.job.aft (by omega) _ (fun y=>decide (za0 (lostTo F k.toNat) y=4)||decide (za0 (lostTo F k.toNat) y=5)) w17 (hJ.2.ext h17) fun y hy w' hw'=>⟨zdH,#[.pointer p1],rfl,zKf (x8.ext (h17.trans hw')) (zaz (h17.trans hw') c8) (hin y hy)⟩).mono fun v w18 ⟨e18,b,hv,hb⟩=>⟨e18,b,hv,fun hbt=>⟨hne,hne,?_⟩,fun hbf=>⟨i64 (by omega),⟨by omega,by omega,f8,P',hP,?_⟩,by simp only[];omega⟩⟩
  ·have hbad:zK7 (lostTo F k.toNat) r.s=true:=by
    obtain⟨y,hy,h3⟩:=hb.1 hbt
    exact List.any_eq_true.2 ⟨y,hy,h3⟩
   refine x8.put hk0 (by omega) (by omega) 5 (by simp) fun w20 P'' hP'' x20 f20=>⟨i64 (by omega),⟨by omega,by omega,f8.tr (by rw[hP] at f20;exact f20),P'',hP''.trans hP,?_⟩,by simp only[];omega⟩
   rw[show(k+1).toNat=k.toNat+1 by omega,lostTo,zbS,hja,if_pos ⟨hw,hbad⟩]
   exact x20
  ·rw[same fun h=>?_]
   ·exact x8
   ·obtain⟨y,hy,h3⟩:=List.any_eq_true.1 h.2
    have:=hb.2 ⟨y,hy,h3⟩
    rw[hbf] at this;cases this
 ·have:k.toNat=F.jobs.length:=by omega
  rw[this] at x8
  exact x8.ext h9
def LvOk(F:Fm)(k:Nat):Prop:=zj9 F.hosts/\0<=(zad F k).host/\(zad F k).host<F.hosts.length/\zj4 (zad F k).job.nd (F.hosts.getD (zad F k).host.toNat default).used
def zkA(F:Fm)(k:Nat):Fm:={ F with hosts:=F.hosts.set (zad F k).host.toNat (zfX (F.hosts.getD (zad F k).host.toNat default) (zit (F.hosts.getD (zad F k).host.toNat default).used (zad F k).job.nd)) }
def zdA(F:Fm)(k:Nat):Fm:=stF (stF (zkA F k) k 12 0) k 13 0
theorem zDe(x:FXO O B w fb P F){k:Int}(h0:0<=k)(h1:k<F.jobs.length)(hv:LvOk F k.toNat):FnP Tryz.prog zb3 #[.pointer (ptr fb),.pointer (pIdx P.jp k 16)] w fun v w'=>v=.tuple #[]/\∃P',P'.jp=P.jp/\FXO O B w' fb P' (zdA F k.toNat)/\Fr (ft fb P.jp) w w':=by
 have ne:=zaB fb
 obtain⟨r,hr,hF,hjp,hne,_,g,hJ,hok,hwf⟩:=x.st h0 h1
 have hja:zad F k.toNat=r.s:=zhL hF
 unfold LvOk at hv
 rw[hja] at hv
 refine zlM (ptr fb) (pIdx P.jp k 16) w _ ⟨ne,ne,_,_,_,x.cell (i:=0) rfl,hne,hne,_,g 12 _ rfl,hne,hne,by rw[zaR];exact hne,by rw[zaR];exact fun h=>hne (zdk.1 h),_,by rw[zaR];exact g 2 _ rfl,_,by rw[zaR,zak];have:=g 3 _ rfl;rw[zak] at this;exact this,_,by rw[zaR,zak];have:=g 4 _ rfl;rw[zak] at this;exact this,fun w7 h7=>?_⟩
 have x7:=x.ext h7
 have hO:=x.hO
 refine(Give_k P.hp P.hc F.hosts (by omega) hO.2 r.s.host r.s.job.nd w7 (x7.hs w7 (Fr.refl _ _))).mono fun v w8 ⟨e8,p',n',c',e,hv',hcase⟩=>⟨e8,p',n',c',e,hv',ne,ne,?_⟩
 rcases hcase with⟨_,_,hno⟩|⟨_,_,_,_,rfl,_,hS⟩
 ·exact absurd ⟨hok.nd,hv.2.2.2⟩ (hno hv.1 hv.2.1 hv.2.2.1)
 have x8:=x7.ext e8
 refine zaS (off:=0) x8.slot rfl (by simp) (by simp) (by intro u hu;simp at hu;subst hu;rfl) (by simp) fun w13 o13 g13=>⟨hne,hne,?_⟩
 have hG:zkA F k.toNat={ F with hosts:=F.hosts.set r.s.host.toNat (zfX (F.hosts.getD r.s.host.toNat default) (zit (F.hosts.getD r.s.host.toNat default).used r.s.job.nd)) }:=by unfold zkA;rw[hja]
 have fg:Fr (ft fb P.jp) w8 w13:=zaP g13 fun a ha=>by cases ha;exact .inl rfl
 obtain⟨y,f13⟩:=x8.slot_to (F':=zkA F k.toNat) (P':={ P with hp:=p',hc:=c' }) (by
  rw[hG]
  show Own B w13 zdq 7 (ptr fb) 1 1 [.slice p' (F.hosts.set _ _).length c',_,_,_,_,_,_]
  rw[List.length_set];exact o13) g13 rfl rfl rfl rfl (fun w'' kf=>by
   rw[hG]
   exact hS (ftO O fb P.jp) (fun b hb=>by
    rcases hb with hb|hb
    ·exact x7.olt b hb
    ·exact(x7.foot hb).2) w'' ((fg.mono fun b hb=>.inr hb).tr kf)) (by
  rw[hG]
  refine⟨by show(F.hosts.set _ _).length<=30;rw[List.length_set];exact hO.1,fun h hh=>?_⟩
  have hh:h∈F.hosts.set r.s.host.toNat (zfX (F.hosts.getD r.s.host.toNat default) (zit (F.hosts.getD r.s.host.toNat default).used r.s.job.nd)):=hh
  rcases List.mem_or_eq_of_mem_set hh with hh|rfl
  ·exact hO.2 h hh
  ·have:=hO.2 _ (zaq F.hosts default (i:=r.s.host.toNat) (by omega))
   exact⟨this.1,this.2.1,this.2.2⟩)
 refine y.put (k:=k) h0 h1 (by omega) 0 (by simp) fun w14 P1 hP1 y14 f14=>⟨hne,hne,?_⟩
 have hP1:P1.jp=P.jp:=hP1
 have:=y14.put (k:=k) (m:=13) h0 (by rw[zbI];exact h1) (by omega) 0 (ns:=[]) (by simp) (K:=fun w15=>∀w16,Ext w15 w16->Value.tuple #[]=.tuple #[]/\∃P',P'.jp=P.jp/\FXO O B w16 fb P' (zdA F k.toNat)/\Fr (ft fb P.jp) w w16) fun w15 P2 hP2 y15 f15 w16 h16=>⟨rfl,P2,hP2.trans hP1,y15.ext h16,?_⟩
 ·rw[hP1] at this;exact this
 ·rw[hP1] at f15
  exact(((((zac h7).tr (zac e8)).tr f13).tr f14).tr f15).tr (zac h16)
end
def zsZ(j:Jb):St:=⟨j,1,0,0,0,0⟩
def zqc(F:Fm)(j:Jb):Fm:={ F with jobs:=F.jobs++[zsZ j] }
def zvc(F:Fm)(j:Jb):Prop:=okJ j/\F.jobs.length≠60/\∀y∈j.aft,y<=F.jobs.length/\za0 F y≠4/\za0 F y≠5
structure Pre(F:Fm):Prop where
 aft:zlc F
 pol:zmT F.pol
 now:0<=F.now/\F.now<=1099511627776
 run:∀k,k<F.jobs.length->(zad F k).what=2->LvOk F k
 tries:∀k,k<F.jobs.length->0<=(zad F k).tries/\(zad F k).tries<=100
def zGj(w:World)(fb:Nat)(jp jp':Option Addr):Prop:=∀b,ft fb jp' b->ft fb jp b\/w.heap.size<=b
def inJ(F:Fm)(id:Int):Prop:=1<=id/\id<=F.jobs.length
def zIK(F:Fm)(j:Jb)(e:Int):Prop:=(ztZ j≠0/\e=ztZ j)\/(ztZ j=0/\((F.jobs.length=60/\e=7)\/(F.jobs.length≠60/\(((∃y∈j.aft,¬(1<=y/\y<=F.jobs.length))/\e=5)\/((∀y∈j.aft,1<=y/\y<=F.jobs.length) /\
 (((∃y∈j.aft,za0 F y=4\/za0 F y=5)/\e=9)\/((∀y∈j.aft,za0 F y≠4/\za0 F y≠5)/\e=0)))))))
def ztW(F:Fm)(id e:Int):Prop:=(¬inJ F id/\e=5)\/(inJ F id/\e=9)
section
variable {O:Nat->Prop} {B fb:Nat} {w:World} {P:Pl} {F:Fm}
theorem zz0(x:FXO O B w fb P F)(j:Jb)(pa:Option Addr)(ca:Nat)(pf:Option Addr)(cf:Nat)(hJ:IsJ w j pa ca pf)(hW:WfJ j)(hB:B<=w.heap.size) :
  FnP Tryz.prog za2 #[.pointer (ptr fb),jv j pa ca pf cf] w fun v w'=>∃id e:Int,v=.tuple #[.int .i64 id,.int .i64 e]/\((e=0↔zvc F j)/\zIK F j e)/\((e≠0/\Ext w w')\/(e=0/\id=F.jobs.length+1/\∃P',FXO O B w' fb P' (zqc F j)/\Fr (ft fb P.jp) w w'/\zGj w fb P.jp P'.jp)):=by
 have ne:=zaB fb
 have hl0:=x.jO.1
 refine zfD (ptr fb) j.user j.prio j.nd.c j.nd.m j.nd.g j.ask.k j.ask.key j.ask.val j.ask.n pa j.ask.xs.length ca pf j.aft.length cf w _ fun b0 hb0 w1 h1=>?_
 refine(zC5 j pa ca pf cf w1 (hJ.ext h1) hW).mono fun v w2 ⟨e2,hv⟩=>⟨e2,ztZ j,hv,fun hne w4 h4=>⟨0,ztZ j,rfl,⟨⟨fun h=>absurd h hne,fun h=>absurd (zi0.2 h.1) hne⟩,.inl ⟨hne,rfl⟩⟩,.inl ⟨hne,h4⟩⟩,fun hz=>?_⟩
 have hok:=zi0.1 hz
 have hlen:=hok.len
 have hup:=zgH hok.up
 refine⟨ne,ne,_,_,_,x.cell (i:=6) rfl,fun h60 w7 h7=>⟨0,7,rfl,⟨⟨fun h=>(by cases h),fun h=>absurd (by have:=x.len;omega) h.2.1⟩,.inr ⟨hz,.inl ⟨by have:=x.len;omega,rfl⟩⟩⟩,.inl ⟨by decide,h7⟩⟩,fun h60=>?_⟩
 refine⟨fun k w'=>Ext w w'/\0<=k/\k<=j.aft.length/\∀i:Nat,(i:Int)<k->j.aft.getD i 0<=F.jobs.length,fun k _=>(j.aft.length-k).toNat,⟨Ext.refl _,by omega,by omega,fun i hi=>by omega⟩,?_⟩
 rintro k w9 ⟨x9,hk0,hk1,hrng⟩
 have gmem:∀{k:Int},0<=k->k<j.aft.length->j.aft.getD k.toNat 0∈j.aft:=fun h0 h1=>zaq j.aft 0 (by omega)
 refine⟨fun hlt=>?_,fun hge=>?_⟩
 ·have g:=zeh.idx (hJ.2.ext x9) hk0 hlt
  have hy:=hup _ (gmem hk0 hlt)
  refine⟨fun h=>zaj g (zah.2 h),hk0,hlt,_,g,fun w11 x11=>?_⟩
  have h11:=x9.trans (zaa x11)
  refine(zFs (x.ext h11) _ (i64 (by omega))).mono fun v w12 ⟨e12,hv⟩=>⟨e12,?_⟩
  rcases hv with⟨hno,rfl⟩|⟨_,hin,rfl⟩
  ·exact⟨_,rfl,fun _ w14 h14=>⟨0,5,rfl,⟨⟨fun h=>(by cases h),fun h=>absurd ⟨hy.1,(h.2.2 _ (gmem hk0 hlt)).1⟩ hno⟩,.inr ⟨hz,.inr ⟨by have:=x.len;omega,.inl ⟨⟨_,gmem hk0 hlt,hno⟩,rfl⟩⟩⟩⟩,.inl ⟨by decide,(h11.trans e12).trans h14⟩⟩,fun h=>absurd rfl h⟩
  ·obtain⟨q,hq,hne,_⟩:=zmv x ⟨hy.1,hin⟩ (h11.trans e12)
   refine⟨_,rfl,fun h=>absurd (hq.symm.trans h) hne,fun _=>⟨i64 (by omega),⟨h11.trans e12,by omega,by omega,fun i hi=>?_⟩,by simp only[];omega⟩⟩
   by_cases hik:(i:Int)<k
   ·exact hrng i hik
   ·obtain rfl:i=k.toNat:=by omega
    exact hin
 have hall:∀y∈j.aft,y<=F.jobs.length:=fun y hy=>by
  obtain⟨i,hi,rfl⟩:=List.mem_iff_getElem.1 hy
  have:=hrng i (by omega)
  simpa[List.getD_eq_getElem?_getD,hi] using this
 refine⟨fun k w'=>Ext w w'/\0<=k/\k<=j.aft.length/\∀i:Nat,(i:Int)<k->za0 F (j.aft.getD i 0)≠4/\za0 F (j.aft.getD i 0)≠5,fun k _=>(j.aft.length-k).toNat,⟨x9,by omega,by omega,fun i hi=>by omega⟩,?_⟩
 clear hrng hge hk0 hk1
 rintro k w12 ⟨x12,hk0,hk1,hrng⟩
 refine⟨fun hlt=>?_,fun hge=>?_⟩
 ·have g:=zeh.idx (hJ.2.ext x12) hk0 hlt
  have hy:=hup _ (gmem hk0 hlt)
  have hy2:=hall _ (gmem hk0 hlt)
  refine⟨fun h=>zaj g (zah.2 h),hk0,hlt,_,g,fun w14 x14=>?_⟩
  have h14:=x12.trans (zaa x14)
  refine(zFs (x.ext h14) _ (i64 (by omega))).mono fun v w15 ⟨e15,hv⟩=>⟨e15,?_⟩
  rcases hv with⟨hno,_⟩|⟨_,hin,rfl⟩
  ·exact absurd ⟨hy.1,hy2⟩ hno
  ·obtain⟨q,hq,hne,hg⟩:=zmv x ⟨hy.1,hin⟩ (h14.trans e15)
   refine⟨_,rfl,by rw[hq];exact hne,by rw[hq];exact hne,_,by rw[hq];exact hg,fun hbad w18 h18=>⟨0,9,rfl,⟨⟨fun h=>(by cases h),fun h=>?_⟩,.inr ⟨hz,.inr ⟨by have:=x.len;omega,.inr ⟨fun y hy=>⟨(hup y hy).1,hall y hy⟩,.inl ⟨⟨_,gmem hk0 hlt,hbad⟩,rfl⟩⟩⟩⟩⟩,.inl ⟨by decide,(h14.trans e15).trans h18⟩⟩,fun hgd=>⟨i64 (by omega),⟨h14.trans e15,by omega,by omega,fun i hi=>?_⟩,by simp only[];omega⟩⟩
   ·have:=(h.2.2 _ (gmem hk0 hlt)).2
    rcases hbad with h|h
    ·exact absurd h this.1
    ·exact absurd h this.2
   ·by_cases hik:(i:Int)<k
    ·exact hrng i hik
    ·obtain rfl:i=k.toNat:=by omega
     exact hgd
 have hall2:∀y∈j.aft,za0 F y≠4/\za0 F y≠5:=fun y hy=>by
  obtain⟨i,hi,rfl⟩:=List.mem_iff_getElem.1 hy
  have:=hrng i (by omega)
  simpa[List.getD_eq_getElem?_getD,hi] using this
 have hoks:zvc F j:=⟨hok,by have:=x.len;omega,fun y hy=>⟨hall y hy,hall2 y hy⟩⟩
 have x12':=x.ext x12
 refine⟨ne,ne,_,_,_,x12'.cell (i:=6) rfl,fun w16 x16=>?_⟩
 have h16:=x12.trans (zaa x16)
 have hE:zeO j.ask=0:=by
  have:=hok.ask
  unfold zmi at this
  split at this
  ·cases this
  ·exact this
 refine(zDG ⟨zsZ j,pa,ca,pf,cf⟩ w16 (hJ.ext h16) hE hok.len).mono fun v w17 ⟨e17,r,hv,hrs,hF⟩=>⟨e17,r.s.job.user,r.s.job.prio,r.s.job.nd.c,r.s.job.nd.m,r.s.job.nd.g,r.s.job.ask.k,r.s.job.ask.key,r.s.job.ask.val,r.s.job.ask.n,r.pa,r.s.job.ask.xs.length,r.ca,r.pf,r.s.job.aft.length,r.cf,r.s.what,r.s.host,r.s.since,r.s.again,r.s.tries,hv,?_⟩
 have h17:=h16.trans e17
 have x17:=x.ext h17
 have hlR:=x.len
 have hn60:F.jobs.length≠60:=hoks.2.1
 have hbj:∀b∈[b0],∀y,P.jp=some y->y.block≠b:=fun b hb y hy=>by simp at hb;subst hb;have:=(x.arr.lt y hy).2;omega
 refine zp0 (v:=sv r) zhG (by omega) x17.arr (Nat.le_trans hB h17.size) hbj rfl (zy9 r) (by omega) (by omega) (by omega) fun p' c' w44 o44 g44 hp' hb44=>⟨ne,ne,?_⟩
 have apF:zbU (ptr fb) P.jp:=fun u y hu hy=>by cases hu;exact fun h=>x.ap y hy h.symm
 have s44:=x17.slot.st apF g44
 have hfb:=(x.slot.lt _ rfl).2
 have apP:∀a,p'=some a->a.block≠fb:=fun a ha he=>by
  rcases g44.new with hn|hn
  ·rw[ha] at hn
   cases hj:P.jp with
   |none => rw[hj] at hn;simp[blk] at hn
   |some y => rw[hj] at hn;simp[blk] at hn;exact x.ap y hj (hn▸he)
  ·have h1:=hn a ha
   have h2:=h17.size
   have h3:fb<w.heap.size:=hfb
   omega
 refine zaS (off:=6) s44 rfl (by simp) (by simp) (by intro u hu;simp at hu;subst hu;rfl) (fun b hb y hy he=>by cases hy;simp at hb;subst hb;have h3:fb<w.heap.size:=hfb;have he:fb=b:=he;omega) fun w48 o48 g48=>?_
 have f48:Fr (ft fb P.jp) w17 w48:=(zaP g44 fun a ha=>.inr ⟨a,ha,rfl⟩).tr (zaP g48 fun a ha=>by cases ha;exact .inl rfl)
 have hft:∀b,ft fb p' b->ft fb P.jp b\/w17.heap.size<=b:=fun b hb=>by
  rcases hb with h|⟨a,ha,rfl⟩
  ·exact .inl (.inl h)
  ·rcases g44.new with hn|hn
   ·left
    rw[ha] at hn
    cases hj:P.jp with
    |none => rw[hj] at hn;simp[blk] at hn
    |some y => rw[hj] at hn;simp[blk] at hn;exact .inr ⟨y,rfl,hn.symm⟩
   ·exact .inr (hn a ha)
 have step:∀{w'' w0:World},Ext w0 w17->Fr (ftO O fb p') w48 w''->Fr (ftO O fb P.jp) w0 w'':=fun h0 kf=>((zac h0).tr (f48.mono fun b hb=>.inr hb)).trans kf fun b hb=>by
  rcases hb with hb|hb
  ·exact .inl (.inl hb)
  ·rcases hft b hb with h|h
   ·exact .inl (.inr h)
   ·exact .inr (Nat.le_trans h0.size h)
 have y48:FXO O B w48 fb ⟨P.hp,P.hc,p',c',P.R++[r]⟩ (zqc F j):=by
  refine⟨?_,?_,?_,fun w'' kf=>x.hs w'' (step h17 kf),fun r' hr' w'' kf=>?_,apP,x.hO,?_,fun b hb=>by have:=x.olt b hb;have:=h17.size;have:=f48.size;omega,fun b hb hf=>(hft b hf).elim (x.odis b hb) fun h=>by have:=x.olt b hb;have:=h17.size;omega⟩
  ·show Own B w48 zdq 7 (ptr fb) 1 1 [_,_,_,_,_,_,.slice p' (P.R++[r]).length c']
   rw[List.length_append]
   exact o48
  ·show Own B w48 zkq 16 p' (P.R++[r]).length c' ((P.R++[r]).flatMap zun)
   rw[List.length_append,List.flatMap_append]
   have:=o44.st (fun u v hu hv=>by cases hv;exact apP u hu) g48
   simpa[Value.cells] using this
  ·show(P.R++[r]).map (·.s)=F.jobs++[zsZ j]
   rw[List.map_append,x.map];simp[hrs]
  ·have hr':r'∈P.R++[r]:=hr'
   rcases List.mem_append.1 hr' with hr'|hr'
   ·exact x.js r' hr' w'' (step h17 kf)
   ·simp at hr';subst hr'
    have:=hF (ftO O fb P.jp) (fun b hb=>by
     rcases hb with hb|hb
     ·have:=x.olt b hb;have:=h16.size;omega
     ·have:=(x.foot hb).2;have:=h16.size;omega) w'' (step (Ext.refl _) kf)
    rw[hrs]
    exact this
  ·refine⟨by show(F.jobs++[zsZ j]).length<=60;rw[List.length_append];simp;omega,fun s hs=>?_⟩
   have hs:s∈F.jobs++[zsZ j]:=hs
   rcases List.mem_append.1 hs with hs|hs
   ·exact x.jO.2 s hs
   ·simp at hs;subst hs;exact⟨hok,hW⟩
 refine⟨ne,ne,_,_,_,y48.cell (i:=6) rfl,fun w52 h52=>⟨_,0,rfl,⟨⟨fun _=>hoks,fun _=>rfl⟩,.inr ⟨hz,.inr ⟨hn60,.inr ⟨fun y hy=>⟨(hup y hy).1,hall y hy⟩,.inr ⟨hall2,rfl⟩⟩⟩⟩⟩,.inr ⟨rfl,?_,_,y48.ext h52,((zac h17).tr f48).tr (zac h52),fun b hb=>?_⟩⟩⟩
 ·simp;omega
 ·rcases hft b hb with h|h
  ·exact .inl h
  ·exact .inr (Nat.le_trans h17.size h)
theorem zca(F:Fm)(k:Nat):(zdA F k).jobs.length=F.jobs.length:=by unfold zdA;rw[zbI,zbI];rfl
theorem zjH{F:Fm}{k:Nat}(hk:k<F.jobs.length)(i:Nat):zad (zdA F k) i=if i=k then { zad F k with host:=0,since:=0 } else zad F i:=by
 unfold zdA
 have hk':k<(zkA F k).jobs.length:=hk
 rw[zjY _ _ (by rw[zbI];exact hk'),zjY _ _ hk',if_pos rfl]
 split
 ·rfl
 ·rename_i h
  rw[zjY _ _ hk',if_neg h];rfl
theorem zt9{F:Fm}{k:Nat}(hk:k<F.jobs.length)(ha:zlc F):zlc (zdA F k):=by
 unfold zdA
 have hk':k<(zkA F k).jobs.length:=hk
 exact zrC (by rw[zbI];exact hk') (zrC hk' ha)
def zcS(F:Fm)(k:Nat):Fm:=stF (zdA F k) k 15 ((zad F k).tries+1)
def zg9(F:Fm)(k:Nat)(ok:Bool):Fm :=
 if ok=true then stF (zdA F k) k 11 3
 else if (zad F k).tries+1<=F.pol.tries then stF (stF (zcS F k) k 11 1) k 14 (F.now+zlh F.pol ((zad F k).tries+1))
 else zmM (stF (zcS F k) k 11 4)
def zAt(F:Fm)(k:Nat):Fm:=zmM (stF (if (zad F k).what=2 then zdA F k else F) k 11 5)
theorem FXO.at_(x:FXO O B w fb P F){id:Int}(h:inJ F id):pIdx P.jp (id-1) 16≠none/\(∀(m:Nat) u,(zun ⟨zad F (id-1).toNat,none,0,none,0⟩)[m]?=some u->11<=m->Go.Sx.cell w (pAdd (pIdx P.jp (id-1) 16) m) 0=some u):=by
 obtain⟨r,hr,hF,_,hne,_,g,_⟩:=x.st (k:=id-1) (by have:=h.1;omega) (by have:=h.2;omega)
 refine⟨hne,fun m u hu hm=>g m u ?_⟩
 rw[zhL hF] at hu
 match m,hm with
 |m+11,_ =>
  rw[<-hu]
  rfl
theorem zts(x:FXO O B w fb P F)(hp:Pre F)(id:Int)(hid:InR .i64 id)(ok:Bool) :
  FnP Tryz.prog zaT #[.pointer (ptr fb),.int .i64 id,.bool ok] w fun v w'=>∃e:Int,v=.int .i64 e/\(e=0↔inJ F id/\(zad F (id-1).toNat).what=2)/\((e≠0/\ztW F id e/\Ext w w')\/(e=0/\∃P',P'.jp=P.jp/\FXO O B w' fb P' (zg9 F (id-1).toNat ok)/\Fr (ft fb P.jp) w w')):=by
 have ne:=zaB fb
 refine zkK (ptr fb) id ok w _ fun w0 h0=>(zFs (x.ext h0) id hid).mono fun v w1 ⟨e1,hv⟩=>⟨e1,?_⟩
 have h1:=h0.trans e1
 rcases hv with⟨hno,rfl⟩|⟨hi0,hi1,rfl⟩
 ·exact⟨_,rfl,fun _ w3 h3=>⟨5,rfl,⟨fun h=>(by cases h),fun h=>absurd h.1 hno⟩,.inl ⟨by decide,.inl ⟨hno,rfl⟩,h1.trans h3⟩⟩,fun h=>absurd rfl h⟩
 have hin:inJ F id:=⟨hi0,hi1⟩
 have x1:=x.ext h1
 obtain⟨hne,g⟩:=x1.at_ hin
 have hk:(id-1).toNat<F.jobs.length:=by omega
 refine⟨_,rfl,fun h=>absurd h hne,fun _=>⟨hne,hne,_,g 11 _ rfl (by omega),fun hw w4 h4=>⟨9,rfl,⟨fun h=>(by cases h),fun h=>absurd h.2 hw⟩,.inl ⟨by decide,.inr ⟨hin,rfl⟩,h1.trans h4⟩⟩,fun hw w4 h4=>?_⟩⟩
 have hiff:(0:Int)=0↔inJ F id/\(zad F (id-1).toNat).what=2:=⟨fun _=>⟨hin,hw⟩,fun _=>rfl⟩
 refine(zDe (x1.ext h4) (k:=id-1) (by omega) (by omega) (hp.run _ hk hw)).mono fun v w5 ⟨hv,P1,hP1,y5,f5⟩=>⟨hv,fun hok=>⟨hne,hne,?_⟩,fun hok=>?_⟩
 ·have hin5:inJ (zdA F (id-1).toNat) id:=⟨hi0,by rw[zca];exact hi1⟩
  have:=y5.put (k:=id-1) (m:=11) (by omega) (by rw[zca];omega) (by omega) 3 (ns:=[]) (by simp) (K:=fun w6=>∀w7,Ext w6 w7->∃e:Int,Value.int .i64 0=.int .i64 e/\(e=0↔inJ F id/\(zad F (id-1).toNat).what=2)/\((e≠0/\ztW F id e/\Ext w w7)\/(e=0/\∃P',P'.jp=P.jp/\FXO O B w7 fb P' (zg9 F (id-1).toNat ok)/\Fr (ft fb P.jp) w w7))) fun w6 P2 hP2 y6 f6 w7 h7=>⟨0,rfl,hiff,.inr ⟨rfl,P2,hP2.trans hP1,?_,?_⟩⟩
  ·rw[hP1] at this;exact this
  ·unfold zg9;rw[if_pos hok];exact y6.ext h7
  ·rw[hP1] at f6
   exact((((zac h1).tr (zac h4)).tr f5).tr f6).tr (zac h7)
 have hkl:(id-1).toNat<(zdA F (id-1).toNat).jobs.length:=by rw[zca];exact hk
 have hin5:inJ (zdA F (id-1).toNat) id:=⟨hi0,by rw[zca];exact hi1⟩
 obtain⟨_,g5⟩:=y5.at_ hin5
 rw[hP1,zjH hk,if_pos rfl] at g5
 have htr:=hp.tries _ hk
 refine⟨hne,hne,_,g5 15 _ rfl (by omega),i64 (by simp only[];omega),hne,hne,?_⟩
 have goal:∀{w7:World}{P2:Pl},P2.jp=P.jp->FXO O B w7 fb P2 (zcS F (id-1).toNat)->Fr (ft fb P.jp) w w7->(ptr fb≠none/\ptr fb≠none/\(pAdd (ptr fb) 1)≠none /\
   ∃t8:Int,Go.Sx.cell w7 (pAdd (ptr fb) 1) 0=some (.int .i64 t8)/\∃t9:Int,Go.Sx.cell w7 (pAdd (ptr fb) 1) 1=some (.int .i64 t9)/\∃t10:Int,Go.Sx.cell w7 (pAdd (ptr fb) 1) 2=some (.int .i64 t10)/\∃t11:Int,Go.Sx.cell w7 (pAdd (ptr fb) 1) 3=some (.int .i64 t11) /\
   (pIdx P.jp (id-1) 16)≠none/\(pIdx P.jp (id-1) 16)≠none/\∃t12:Int,Go.Sx.cell w7 (pAdd (pIdx P.jp (id-1) 16) 15) 0=some (.int .i64 t12) /\
   ∀w13,Ext w7 w13->FnP Tryz.prog zdK #[(.agg #[(.int .i64 t8),(.int .i64 t9),(.int .i64 t10),(.int .i64 t11)]),(.int .i64 t12)] w13 fun v14 w14=>Ext w13 w14/\∃t15:Int,∃t16:Int,v14=(.tuple #[(.int .i64 t15),(.int .i64 t16)]) /\
    (((
      t16≠0)->(pIdx P.jp (id-1) 16)≠none/\(pIdx P.jp (id-1) 16)≠none/\zan w7 (pAdd (pIdx P.jp (id-1) 16) 11) [(.int .i64 4)] [] fun w17=>∀w18,Ext w17 w18 ->
      FnP Tryz.prog zaG #[(.pointer (ptr fb))] w18 fun v19 w19=>v19=(.tuple #[])/\∀w20,Ext w19 w20->∃e:Int,Value.int .i64 0=.int .i64 e/\(e=0↔inJ F id/\(zad F (id-1).toNat).what=2)/\((e≠0/\ztW F id e/\Ext w w20)\/(e=0/\∃P',P'.jp=P.jp/\FXO O B w20 fb P' (zg9 F (id-1).toNat ok)/\Fr (ft fb P.jp) w w20)))) /\
    ((
     t16=0)->ptr fb≠none/\ptr fb≠none/\∃t17:Int,Go.Sx.cell w7 (pAdd (ptr fb) 5) 0=some (.int .i64 t17)/\InR .i64 (t17+t15)/\(pIdx P.jp (id-1) 16)≠none/\(pIdx P.jp (id-1) 16)≠none /\
     zan w7 (pAdd (pIdx P.jp (id-1) 16) 11) [(.int .i64 1)] [] fun w18=>(pIdx P.jp (id-1) 16)≠none/\(pIdx P.jp (id-1) 16)≠none/\zan w18 (pAdd (pIdx P.jp (id-1) 16) 14) [(.int .i64 (t17+t15))] [] fun w19=>∀w20,Ext w19 w20 ->
       ∃e:Int,Value.int .i64 0=.int .i64 e/\(e=0↔inJ F id/\(zad F (id-1).toNat).what=2)/\((e≠0/\ztW F id e/\Ext w w20)\/(e=0/\∃P',P'.jp=P.jp/\FXO O B w20 fb P' (zg9 F (id-1).toNat ok)/\Fr (ft fb P.jp) w w20)))):=by
  intro w7 P2 hP2 y7 f7
  have hin7:inJ (zcS F (id-1).toNat) id:=⟨hi0,by unfold zcS;rw[zbI,zca];exact hi1⟩
  obtain⟨_,g7⟩:=y7.at_ hin7
  have hat7:zad (zcS F (id-1).toNat) (id-1).toNat={ zad F (id-1).toNat with host:=0,since:=0,tries:=(zad F (id-1).toNat).tries+1 }:=by
   unfold zcS
   rw[zjY _ _ hkl,if_pos rfl,zjH hk,if_pos rfl];rfl
  rw[hP2,hat7] at g7
  have hlt:(zcS F (id-1).toNat).jobs.length=F.jobs.length:=by unfold zcS;rw[zbI,zca]
  have hpl:(zcS F (id-1).toNat).pol=F.pol:=rfl
  have hnw:(zcS F (id-1).toNat).now=F.now:=rfl
  have pc:∀(i:Nat)(v:Value),(fcs P2 (zcS F (id-1).toNat))[1+i]?=some v->Go.Sx.cell w7 (pAdd (ptr fb) 1) i=some v:=fun i v hv=>by
   have:=y7.cell hv
   rw[zak] at this ⊢
   exact this
  have hdly:1<=(zad F (id-1).toNat).tries+1:=by omega
  refine⟨ne,ne,(fun h=>ne (zdk.1 h)),_,pc 0 _ rfl,_,pc 1 _ rfl,_,pc 2 _ rfl,_,pc 3 _ rfl,hne,hne,_,g7 15 _ rfl (by omega),fun w13 h13=>?_⟩
  refine(zJm F.pol.first F.pol.times F.pol.most F.pol.tries _ (i64 (by simp only[];omega)) w13).mono fun v w14 ⟨e14,d,e,hv,herr,_,hd⟩=>⟨e14,d,e,hv,fun hne'=>⟨hne,hne,?_⟩,fun hz=>⟨ne,ne,_,y7.cell (i:=5) rfl,?_,hne,hne,?_⟩⟩
  ·have hgt:¬(zad F (id-1).toNat).tries+1<=F.pol.tries:=fun h=>hne' (herr.2.2 hp.pol ⟨hdly,h⟩)
   have:=y7.put (k:=id-1) (m:=11) (by omega) (by rw[hlt];omega) (by omega) 4 (ns:=[]) (by simp) (K:=fun w17=>∀w18,Ext w17 w18 ->
      FnP Tryz.prog zaG #[(.pointer (ptr fb))] w18 fun v19 w19=>v19=(.tuple #[])/\∀w20,Ext w19 w20->∃e:Int,Value.int .i64 0=.int .i64 e/\(e=0↔inJ F id/\(zad F (id-1).toNat).what=2)/\((e≠0/\ztW F id e/\Ext w w20)\/(e=0/\∃P',P'.jp=P.jp/\FXO O B w20 fb P' (zg9 F (id-1).toNat ok)/\Fr (ft fb P.jp) w w20))) fun w17 P3 hP3 y17 f17 w18 h18=>(zH9 (y17.ext h18) (zrC (by rw[hlt];exact hk) (zrC hkl (zt9 hk hp.aft)))).mono fun v w19 ⟨hv,P4,hP4,y19,f19⟩=>⟨hv,fun w20 h20=>⟨0,rfl,hiff,.inr ⟨rfl,P4,hP4.trans (hP3.trans hP2),?_,?_⟩⟩⟩
   ·rw[hP2] at this;exact this
   ·unfold zg9;rw[if_neg (by rw[hok];simp),if_neg hgt];exact y19.ext h20
   ·rw[hP3,hP2] at f19
    rw[hP2] at f17
    exact(((f7.tr f17).tr (zac h18)).tr f19).tr (zac h20)
  ·have hle:(zad F (id-1).toNat).tries+1<=F.pol.tries:=by
    by_cases h:(zad F (id-1).toNat).tries+1<=F.pol.tries
    ·exact h
    ·have:=herr.2.1 hp.pol (.inr (by simp only[];omega));omega
   have hdb:=zli hp.pol ((zad F (id-1).toNat).tries+1-1).toNat
   have hd':d=dl F.pol.first F.pol.times F.pol.most ((zad F (id-1).toNat).tries+1-1).toNat:=hd hz
   have hpp:=hp.pol
   have hnn:=hp.now
   unfold zmT okP at hpp
   rw[hnw]
   exact i64 (by omega)
  ·have hle:(zad F (id-1).toNat).tries+1<=F.pol.tries:=by
    by_cases h:(zad F (id-1).toNat).tries+1<=F.pol.tries
    ·exact h
    ·have:=herr.2.1 hp.pol (.inr (by simp only[];omega));omega
   have hd':d=zlh F.pol ((zad F (id-1).toNat).tries+1):=hd hz
   have:=y7.put (k:=id-1) (m:=11) (by omega) (by rw[hlt];omega) (by omega) 1 (ns:=[]) (by simp) (K:=fun w18=>(pIdx P.jp (id-1) 16)≠none/\(pIdx P.jp (id-1) 16)≠none/\zan w18 (pAdd (pIdx P.jp (id-1) 16) 14) [(.int .i64 (F.now+d))] [] fun w19=>∀w20,Ext w19 w20 ->
       ∃e:Int,Value.int .i64 0=.int .i64 e/\(e=0↔inJ F id/\(zad F (id-1).toNat).what=2)/\((e≠0/\ztW F id e/\Ext w w20)\/(e=0/\∃P',P'.jp=P.jp/\FXO O B w20 fb P' (zg9 F (id-1).toNat ok)/\Fr (ft fb P.jp) w w20))) fun w18 P3 hP3 y18 f18=>⟨hne,hne,?_⟩
   ·rw[hP2] at this;exact this
   have hP3:=hP3.trans hP2
   have:=y18.put (k:=id-1) (m:=14) (by omega) (by rw[zbI,hlt];omega) (by omega) (F.now+d) (ns:=[]) (by simp) (K:=fun w19=>∀w20,Ext w19 w20 ->
       ∃e:Int,Value.int .i64 0=.int .i64 e/\(e=0↔inJ F id/\(zad F (id-1).toNat).what=2)/\((e≠0/\ztW F id e/\Ext w w20)\/(e=0/\∃P',P'.jp=P.jp/\FXO O B w20 fb P' (zg9 F (id-1).toNat ok)/\Fr (ft fb P.jp) w w20))) fun w19 P4 hP4 y19 f19 w20 h20=>⟨0,rfl,hiff,.inr ⟨rfl,P4,hP4.trans hP3,?_,?_⟩⟩
   ·rw[hP3] at this;exact this
   ·unfold zg9;rw[if_neg (by rw[hok];simp),if_pos hle,<-hd'];exact y19.ext h20
   ·rw[hP3] at f19
    rw[hP2] at f18
    exact((f7.tr f18).tr f19).tr (zac h20)
 have:=y5.put (k:=id-1) (m:=15) (by omega) (by rw[zca];omega) (by omega) ((zad F (id-1).toNat).tries+1) (ns:=[]) (by simp) fun w7 P2 hP2 y7 f7=>goal (hP2.trans hP1) y7 (by
  rw[hP1] at f7
  exact(((zac h1).tr (zac h4)).tr f5).tr f7)
 rw[hP1] at this
 exact this
theorem zyV(x:FXO O B w fb P F)(hp:Pre F)(id:Int)(hid:InR .i64 id) :
  FnP Tryz.prog zcH #[.pointer (ptr fb),.int .i64 id] w fun v w'=>∃e:Int,v=.int .i64 e/\(e=0↔inJ F id/\((zad F (id-1).toNat).what=1\/(zad F (id-1).toNat).what=2))/\((e≠0/\ztW F id e/\Ext w w')\/(e=0/\∃P',P'.jp=P.jp/\FXO O B w' fb P' (zAt F (id-1).toNat)/\Fr (ft fb P.jp) w w')):=by
 have ne:=zaB fb
 refine zkJ (ptr fb) id w _ fun w0 h0=>(zFs (x.ext h0) id hid).mono fun v w1 ⟨e1,hv⟩=>⟨e1,?_⟩
 have h1:=h0.trans e1
 rcases hv with⟨hno,rfl⟩|⟨hi0,hi1,rfl⟩
 ·exact⟨_,rfl,fun _ w3 h3=>⟨5,rfl,⟨fun h=>(by cases h),fun h=>absurd h.1 hno⟩,.inl ⟨by decide,.inl ⟨hno,rfl⟩,h1.trans h3⟩⟩,fun h=>absurd rfl h⟩
 have hin:inJ F id:=⟨hi0,hi1⟩
 have x1:=x.ext h1
 obtain⟨hne,g⟩:=x1.at_ hin
 have hk:(id-1).toNat<F.jobs.length:=by omega
 have g11:=g 11 _ rfl (by omega)
 have fin:∀{w6:World}{P1:Pl}{G:Fm},P1.jp=P.jp->FXO O B w6 fb P1 G->G.jobs.length=F.jobs.length->zlc G->Fr (ft fb P.jp) w w6->zAt F (id-1).toNat=zmM (stF G (id-1).toNat 11 5)->((zad F (id-1).toNat).what=1\/(zad F (id-1).toNat).what=2) ->
   zan w6 (pAdd (pIdx P.jp (id-1) 16) 11) [(.int .i64 5)] [] fun w7=>∀w8,Ext w7 w8->FnP Tryz.prog zaG #[(.pointer (ptr fb))] w8 fun v9 w9=>v9=(.tuple #[])/\∀w10,Ext w9 w10 ->
    ∃e:Int,Value.int .i64 0=.int .i64 e/\(e=0↔inJ F id/\((zad F (id-1).toNat).what=1\/(zad F (id-1).toNat).what=2))/\((e≠0/\ztW F id e/\Ext w w10)\/(e=0/\∃P',P'.jp=P.jp/\FXO O B w10 fb P' (zAt F (id-1).toNat)/\Fr (ft fb P.jp) w w10)):=by
  intro w6 P1 G hP1 y6 hGl hGa f6 hc hw
  have:=y6.put (k:=id-1) (m:=11) (by omega) (by omega) (by omega) 5 (ns:=[]) (by simp) (K:=fun w7=>∀w8,Ext w7 w8->FnP Tryz.prog zaG #[(.pointer (ptr fb))] w8 fun v9 w9=>v9=(.tuple #[])/\∀w10,Ext w9 w10 ->
    ∃e:Int,Value.int .i64 0=.int .i64 e/\(e=0↔inJ F id/\((zad F (id-1).toNat).what=1\/(zad F (id-1).toNat).what=2))/\((e≠0/\ztW F id e/\Ext w w10)\/(e=0/\∃P',P'.jp=P.jp/\FXO O B w10 fb P' (zAt F (id-1).toNat)/\Fr (ft fb P.jp) w w10))) fun w7 P2 hP2 y7 f7 w8 h8=>(zH9 (y7.ext h8) (zrC (by omega) hGa)).mono fun v w9 ⟨hv,P3,hP3,y9,f9⟩=>⟨hv,fun w10 h10=>⟨0,rfl,⟨fun _=>⟨hin,hw⟩,fun _=>rfl⟩,.inr ⟨rfl,P3,hP3.trans (hP2.trans hP1),?_,?_⟩⟩⟩
  ·rw[hP1] at this;exact this
  ·rw[hc];exact y9.ext h10
  ·rw[hP2,hP1] at f9
   rw[hP1] at f7
   exact(((f6.tr f7).tr (zac h8)).tr f9).tr (zac h10)
 refine⟨_,rfl,fun h=>absurd h hne,fun _=>⟨hne,hne,_,g11,fun _=>hne,fun _=>hne,fun hw1=>⟨_,g11,fun hw2 w5 h5=>⟨9,rfl,⟨fun h=>(by cases h),fun h=>(h.2.elim (fun h=>hw1 h) (fun h=>hw2 h)).elim⟩,.inl ⟨by decide,.inr ⟨hin,rfl⟩,h1.trans h5⟩⟩,fun hw2=>⟨hne,hne,_,g11,fun _ w6 h6=>?_,fun h=>absurd hw2 h⟩⟩,fun hw1=>⟨hne,hne,_,g11,fun h=>by omega,fun hw2=>⟨hne,hne,?_⟩⟩⟩⟩
 ·refine(zDe (x1.ext h6) (k:=id-1) (by omega) (by omega) (hp.run _ hk hw2)).mono fun v w7 ⟨hv,P1,hP1,y7,f7⟩=>⟨hv,hne,hne,?_⟩
  exact fin hP1 y7 (zca _ _) (zt9 hk hp.aft) (((zac h1).tr (zac h6)).tr f7) (by unfold zAt;rw[if_pos hw2]) (.inr hw2)
 ·exact fin rfl x1 rfl hp.aft (zac h1) (by unfold zAt;rw[if_neg hw2]) (.inl hw1)
end
def zpZ(F:Fm)(id:Int):Int:=(zad F (id-1).toNat).job.prio
def zcN(F:Fm)(a b:Int):Prop:=zpZ F b<zpZ F a\/zpZ F a=zpZ F b/\a<b
def zg8(F:Fm):Nat->List Int
 |0 => []
 |k+1 => if zdC F (zad F k)=true then zg8 F k++[(k:Int)+1] else zg8 F k
abbrev rdy(F:Fm):List Int:=zg8 F F.jobs.length
theorem zfC{F:Fm}{x:Int}:∀{k:Nat},x∈zg8 F k↔1<=x/\x<=k/\zdC F (zad F (x-1).toNat)=true
 |0 => by simp[zg8];omega
 |k+1 => by
  have ih:=zfC (F:=F) (x:=x) (k:=k)
  unfold zg8
  split
  ·rename_i h
   rw[List.mem_append,ih]
   constructor
   ·rintro (⟨h1,h2,h3⟩|h1)
    ·exact⟨h1,by omega,h3⟩
    ·simp at h1;subst h1
     exact⟨by omega,by omega,by rw[show((k:Int)+1-1).toNat=k by omega];exact h⟩
   ·rintro⟨h1,h2,h3⟩
    by_cases h4:x<=k
    ·exact .inl ⟨h1,h4,h3⟩
    ·exact .inr (by simp;omega)
  ·rename_i h
   rw[ih]
   constructor
   ·rintro⟨h1,h2,h3⟩;exact⟨h1,by omega,h3⟩
   ·rintro⟨h1,h2,h3⟩
    refine⟨h1,?_,h3⟩
    by_cases h4:x<=k
    ·exact h4
    ·have:(x-1).toNat=k:=by omega
     rw[this] at h3
     exact absurd h3 h
theorem zhY(F:Fm):∀k,(zg8 F k).Nodup
 |0 => by simp[zg8]
 |k+1 => by
  unfold zg8
  split
  ·refine List.nodup_append.2 ⟨zhY F k,by simp,fun a ha b hb=>?_⟩
   simp at hb;subst hb
   have:=(zfC.1 ha).2.1
   omega
  ·exact zhY F k
theorem zp1(F:Fm):∀k,(zg8 F k).length<=k
 |0 => by simp[zg8]
 |k+1 => by
  have:=zp1 F k
  unfold zg8
  split
  ·rw[List.length_append];simp;omega
  ·omega
def zpq(F:Fm)(k:Int):Ht:=F.hosts.getD k.toNat default
def zkU(G:Fm)(k0:Nat)(k:Int):Fm:={ G with hosts:=G.hosts.set k.toNat (zfX (zpq G k) (zwu (zpq G k).used (zad G k0).job.nd)) }
def zfP(G:Fm)(k0:Nat)(k:Int):Fm:=stF (stF (stF (zkU G k0 k) k0 11 2) k0 12 k) k0 13 G.now
theorem zji(G:Fm)(k0:Nat)(k:Int):(zfP G k0 k).jobs.length=G.jobs.length:=by unfold zfP;rw[zbI,zbI,zbI];rfl
theorem zvO{G:Fm}{k0:Nat}(hk:k0<G.jobs.length)(k:Int)(i:Nat):zad (zfP G k0 k) i=if i=k0 then { zad G k0 with what:=2,host:=k,since:=G.now } else zad G i:=by
 unfold zfP
 have hk':k0<(zkU G k0 k).jobs.length:=hk
 rw[zjY _ _ (by rw[zbI,zbI];exact hk'),zjY _ _ (by rw[zbI];exact hk'),zjY _ _ hk',if_pos rfl,if_pos rfl]
 split
 ·rfl
 ·rename_i h
  rw[zjY _ _ (by rw[zbI];exact hk'),if_neg h,zjY _ _ hk',if_neg h];rfl
theorem zG8{G:Fm}{k0:Nat}(hk:k0<G.jobs.length)(k:Int):(zfP G k0 k).jobs.map (·.job)=G.jobs.map (·.job):=by
 unfold zfP
 have hk':k0<(zkU G k0 k).jobs.length:=hk
 rw[zty _ _ (by rw[zbI,zbI];exact hk'),zty _ _ (by rw[zbI];exact hk'),zty _ _ hk'];rfl
theorem zKo{a b c:Nd}(ha:okN a)(hb:okN b)(hc:okN c)(h:zj4 a (zit c b)):okN (zwu b a)/\zj4 (zwu b a) c:=by
 unfold okN zj4 zit zwu at *
 simp only at *
 omega
theorem zvb{L:List Ht}{i:Nat}(h:zj9 L)(hi:i<L.length){s:Nd}(h1:okN s)(h2:zj4 s (L.getD i default).has):zj9 (L.set i (zfX (L.getD i default) s)):=by
 have hm:=zaq L default (i:=i) hi
 refine⟨by rw[List.length_set];exact h.1,fun x hx=>?_,?_⟩
 ·rcases List.mem_or_eq_of_mem_set hx with hx|rfl
  ·exact h.2.1 x hx
  ·obtain⟨a,b,c,d,_,_⟩:=h.2.1 _ hm
   exact⟨a,b,c,d,h1,h2⟩
 ·have:(L.set i (zfX (L.getD i default) s)).map (·.name)=L.map (·.name):=by
   rw[List.map_set]
   refine List.ext_getElem? fun j=>?_
   rw[List.getElem?_set]
   by_cases hj:i=j
   ·subst hj
    simp[List.getD_eq_getElem?_getD,hi,zfX]
   ·simp[hj]
  rw[this]
  exact h.2.2
theorem zva{G:Fm}{k0:Nat}{k:Int}(h:zj9 G.hosts)(h0:0<=k)(h1:k<G.hosts.length)(ha:okN (zad G k0).job.nd)(hf:zj4 (zad G k0).job.nd (zit (zpq G k).has (zpq G k).used)):zj9 (zkU G k0 k).hosts:=by
 have hm:=zaq G.hosts default (i:=k.toNat) (by omega)
 obtain⟨_,_,_,c,d,_⟩:=h.2.1 _ hm
 obtain⟨a1,a2⟩:=zKo ha d c hf
 exact zvb h (by omega) a1 a2
abbrev zuv(G:Fm)(id:Int):List Int:=zb0 G.hosts (zad G (id-1).toNat).job.ask (zad G (id-1).toNat).job.nd G.hosts.length
inductive zqw:Fm->List Int->Fm->List (Int×Int)->Prop
 |nil (F:Fm):zqw F [] F []
 |skip {F F':Fm} {id:Int} {ids:List Int} {out:List (Int×Int)}:zuv F id=[]->zqw F ids F' out->zqw F (id::ids) F' out
 |run {F F':Fm} {id k:Int} {ids:List Int} {out:List (Int×Int)}:zf1 F.hosts (zad F (id-1).toNat).job.ask (zad F (id-1).toNat).job.nd k->zqw (zfP F (id-1).toNat k) ids F' out->zqw F (id::ids) F' ((id,k)::out)
theorem zqw.snoc_skip{F F':Fm}{id:Int}{ids:List Int}{out:List (Int×Int)}(h:zqw F ids F' out)(hs:zuv F' id=[]):zqw F (ids++[id]) F' out:=by
 induction h with
 |nil F => exact .skip hs (.nil F)
 |skip h1 _ ih => exact .skip h1 (ih hs)
 |run h1 _ ih => exact .run h1 (ih hs)
theorem zqw.snoc_run{F F':Fm}{id k:Int}{ids:List Int}{out:List (Int×Int)}(h:zqw F ids F' out)(hs:zf1 F'.hosts (zad F' (id-1).toNat).job.ask (zad F' (id-1).toNat).job.nd k):zqw F (ids++[id]) (zfP F' (id-1).toNat k) (out++[(id,k)]):=by
 induction h with
 |nil F => exact .run hs (.nil _)
 |skip h1 _ ih => exact .skip h1 (ih hs)
 |run h1 _ ih => exact .run h1 (ih hs)
theorem zqw.one{F F1:Fm}{ids:List Int}{o1:List (Int×Int)}(h:zqw F ids F1 o1):∀{F2:Fm} {o2:List (Int×Int)},zqw F ids F2 o2->F1=F2/\o1=o2:=by
 induction h with
 |nil F => intro F2 o2 g;cases g;exact⟨rfl,rfl⟩
 |skip h1 _ ih =>
  intro F2 o2 g
  cases g with
  |skip _ g2 => exact ih g2
  |run g1 _ => have:=g1.1;unfold zuv at h1;rw[h1] at this;cases this
 |run h1 _ ih =>
  intro F2 o2 g
  cases g with
  |skip g1 _ => have:=h1.1;unfold zuv at g1;rw[g1] at this;cases this
  |run g1 g2 =>
   obtain rfl:=zFv h1 g1
   obtain⟨rfl,rfl⟩:=ih g2
   exact⟨rfl,rfl⟩
def zIG(F:Fm)(T:List Int):Prop:=T.Perm (rdy F)/\T.Pairwise (zcN F)
theorem zub{F:Fm}{a b:Int}(h:zcN F a b):¬zcN F b a:=by unfold zcN at *;omega
theorem zDF{F:Fm}:∀{T U:List Int},T.Perm U->T.Pairwise (zcN F)->U.Pairwise (zcN F)->T=U
 |[],U,hp,_,_ => by have:=hp.length_eq;simp at this;exact(List.eq_nil_of_length_eq_zero this.symm).symm
 |t::T,[],hp,_,_ => by have:=hp.length_eq;simp at this
 |t::T,u::U,hp,h1,h2 => by
  rw[List.pairwise_cons] at h1 h2
  have htu:t=u:=by
   rcases List.mem_cons.1 (hp.mem_iff.1 (List.mem_cons_self ..)) with h|h
   ·exact h
   rcases List.mem_cons.1 (hp.mem_iff.2 (List.mem_cons_self ..)) with g|g
   ·exact g.symm
   exact absurd (h1.1 u g) (zub (h2.1 t h))
  subst htu
  rw[zDF (List.Perm.cons_inv hp) h1.2 h2.2]
def zdd(F G:Fm)(out:List (Int×Int)):Prop:=∃T,zIG F T/\zqw F T G out
theorem zkO{F G1 G2:Fm}{o1 o2:List (Int×Int)}(h:zdd F G1 o1)(g:zdd F G2 o2):G1=G2/\o1=o2:=by
 obtain⟨T,⟨a1,a2⟩,a3⟩:=h
 obtain⟨U,⟨b1,b2⟩,b3⟩:=g
 obtain rfl:=zDF (a1.trans b1.symm) a2 b2
 exact a3.one b3
def encO(x:Int×Int):List Value:=[.int .i64 x.1,.int .i64 x.2]
structure QS(n:Nat)(Sq:Nat->Prop)(F:Fm)(qb:Nat)(w':World)(H:List Th):Prop where
 ex:∃mb born p c m,QQ n w' qb mb born p c H m/\Rel H m/\∀b,ziy mb qb p H b->Sq b
 ids:Ids H
 pr:∀t∈H,t.prio=zpZ F t.id
 bo:∀t∈H,∀u∈H,t.id<u.id->t.born<u.born
theorem QS.ext{n:Nat}{Sq:Nat->Prop}{F:Fm}{qb:Nat}{w w':World}{H:List Th}(q:QS n Sq F qb w H)(e:Ext w w'):QS n Sq F qb w' H:=by
 obtain⟨mb,born,p,c,m,h1,h2,h3⟩:=q.ex
 exact⟨⟨mb,born,p,c,m,h1.ext e,h2,h3⟩,q.ids,q.pr,q.bo⟩
theorem QS.fr{n:Nat}{Sq S:Nat->Prop}{F:Fm}{qb:Nat}{w w':World}{H:List Th}(q:QS n Sq F qb w H)(f:Fr S w w')(hS:∀b,Sq b->¬S b):QS n Sq F qb w' H:=by
 obtain⟨mb,born,p,c,m,h1,h2,h3⟩:=q.ex
 exact⟨⟨mb,born,p,c,m,h1.fr f fun b hb=>hS b (h3 b hb),h2,h3⟩,q.ids,q.pr,q.bo⟩
def zGU(qb:Nat)(w:World):Nat:=match Go.Sx.cell w (ptr qb) 0 with|some (.slice _ n _)=>n|_=>0
theorem QS.len{n:Nat}{Sq:Nat->Prop}{F:Fm}{qb:Nat}{w:World}{H:List Th}(q:QS n Sq F qb w H):zGU qb w=H.length:=by
 obtain⟨mb,born,p,c,m,h1,_⟩:=q.ex
 have:Go.Sx.cell w (ptr qb) 0=some (.slice p H.length c):=h1.qi.slot.cells 0 _ rfl
 unfold zGU;rw[this]
def OQ(O Sq:Nat->Prop)(out:Option Addr)(b:Nat):Prop:=O b\/Sq b\/∃a,out=some a/\a.block=b
structure PS(O:Nat->Prop)(B fb:Nat)(w:World)(P:Pl)(F:Fm)(Sq:Nat->Prop)(w':World)(G:Fm)(outs:List (Int×Int))(T Rm:List Int)(out:Option Addr)(outc:Nat):Prop where
 fx:∃PP,PP.jp=P.jp/\FXO (OQ O Sq out) B w' fb PP G
 fr:Fr (ft fb P.jp) w w'
 run:zqw F T G outs
 hs:zj9 G.hosts
 job:G.jobs.map (·.job)=F.jobs.map (·.job)
 own:Own w.heap.size w' zBH 2 out outs.length outc (outs.flatMap encO)
 ap:∀a,out=some a->¬Sq a.block
 perm:(T++Rm).Perm (rdy F)
 pw:T.Pairwise (zcN F)
 lt:∀a∈T,∀b∈Rm,zcN F a b
 len:outs.length<=T.length
section
variable {O Sq:Nat->Prop} {B fb qb:Nat} {w:World} {P:Pl} {F G:Fm} {outs:List (Int×Int)} {T Rm:List Int} {out:Option Addr} {outc:Nat}
theorem PS.fr'{w1 w2:World}(s:PS O B fb w P F Sq w1 G outs T Rm out outc)(f:Fr Sq w1 w2)(hq:∀b,Sq b->w.heap.size<=b):PS O B fb w P F Sq w2 G outs T Rm out outc:=by
 obtain⟨PP,h1,h2⟩:=s.fx
 exact⟨⟨PP,h1,h2.fr f fun b hb=>.inr (.inl hb)⟩,s.fr.trans f fun b hb=>.inr (hq b hb),s.run,s.hs,s.job,s.own.fr f s.ap,s.ap,s.perm,s.pw,s.lt,s.len⟩
theorem PS.ext{w1 w2:World}(s:PS O B fb w P F Sq w1 G outs T Rm out outc)(e:Ext w1 w2):PS O B fb w P F Sq w2 G outs T Rm out outc:=by
 obtain⟨PP,h1,h2⟩:=s.fx
 exact⟨⟨PP,h1,h2.ext e⟩,s.fr.tr (zac e),s.run,s.hs,s.job,s.own.ext e,s.ap,s.perm,s.pw,s.lt,s.len⟩
theorem PS.shift{w1:World}{Rm':List Int}(s:PS O B fb w P F Sq w1 G outs T Rm out outc)(h:Rm'.Perm Rm):PS O B fb w P F Sq w1 G outs T Rm' out outc :=
 ⟨s.fx,s.fr,s.run,s.hs,s.job,s.own,s.ap,(List.Perm.append_left T h).trans s.perm,s.pw,fun a ha b hb=>s.lt a ha b (h.mem_iff.1 hb),s.len⟩
theorem zIt{n:Nat}{w1:World}{H:List Th}(q:QS n Sq F qb w1 H)(hn:H.length<=60) :
  FnP Tryz.prog za3 #[.pointer (ptr qb)] w1 fun v w2=>∃(a b:Int) (is:Bool) (Y:List Th),v=.tuple #[.agg #[.int .i64 a,.int .i64 b],.bool is]/\QS n Sq F qb w2 Y/\Fr Sq w1 w2 /\
   ((is=false/\H=[]/\Y=[])\/(is=true/\Y.length<H.length/\(∀u∈Y,zcN F b u.id)/\(b::Y.map (·.id)).Perm (H.map (·.id)))):=by
 obtain⟨mb,born,p,c,m,h1,h2,h3⟩:=q.ex
 refine(zKv h1 (by omega)).mono fun v w2 hr=>?_
 rcases hr with⟨rfl,hv,e⟩|⟨t,Y,hv,q2,hp,hmin,f⟩
 ·exact⟨0,0,false,[],hv,q.ext e,zac e,.inl ⟨rfl,rfl,rfl⟩⟩
 ·have f':Fr Sq w1 w2:=f.mono h3
  obtain⟨hrel,hids⟩:=zKx h2 h1.mp.nodup q.ids hp
  have hY:∀u∈Y,u∈H:=fun u hu=>hp.mem_iff.1 (List.mem_cons_of_mem _ hu)
  have ht:t∈H:=hp.mem_iff.1 (List.mem_cons_self ..)
  have hnd:t.id∉Y.map (·.id):=by
   have:((t::Y).map (·.id)).Nodup:=((hp.map _).nodup_iff).2 q.ids
   simp only[List.map_cons,List.nodup_cons] at this
   exact this.1
  have hb:∀u∈Y,zcN F t.id u.id:=fun u hu=>by
   have h4:=hmin u (hY u hu)
   have h5:=q.pr t ht
   have h6:=q.pr u (hY u hu)
   have h7:t.id≠u.id:=fun h=>hnd (by rw[h];exact List.mem_map_of_mem hu)
   unfold ahead at h4
   unfold zcN
   rw[<-h5,<-h6]
   by_cases h8:u.id<t.id
   ·have:=q.bo u (hY u hu) t ht h8;omega
   ·omega
  have hperm:(t.id::Y.map (·.id)).Perm (H.map (·.id)):=by
   have:=hp.map (·.id)
   simpa using this
  refine⟨t.prio,t.id,true,Y,hv,⟨⟨mb,born,p,c,_,q2,hrel,fun b hb=>h3 b ?_⟩,hids,fun u hu=>q.pr u (hY u hu),fun u hu v hv=>q.bo u (hY u hu) v (hY v hv)⟩,f',.inr ⟨rfl,by have:=hp.length_eq;simp at this;omega,hb,hperm⟩⟩
  rcases hb with rfl|rfl|⟨a,ha,rfl⟩|⟨u,hu,rfl⟩
  ·exact .inl rfl
  ·exact .inr (.inl rfl)
  ·exact .inr (.inr (.inl ⟨a,ha,rfl⟩))
  ·exact .inr (.inr (.inr ⟨u,hY u hu,rfl⟩))
theorem FXO.go{O' S:Nat->Prop}{w9:World}(x:FXO O B w fb P F)(f:Fr S w w9)(hS:∀b,S b->O b)(h:∀b,O' b->O b\/(w.heap.size<=b/\b<w9.heap.size)):FXO O' B w9 fb P F:=by
 have f':=f.mono hS
 have up:∀{w''},Fr (ftO O' fb P.jp) w9 w''->Fr (ftO O fb P.jp) w w'':=fun k=>(f'.mono fun b hb=>.inl hb).trans k fun b hb=>by
  rcases hb with hb|hb
  ·rcases h b hb with h|h
   ·exact .inl (.inl h)
   ·exact .inr h.1
  ·exact .inl (.inr hb)
 have x9:=x.fr f hS
 exact⟨x9.slot,x9.arr,x.map,fun w'' k=>x.hs w'' (up k),fun r hr w'' k=>x.js r hr w'' (up k),x.ap,x.hO,x.jO,fun b hb=>by
  rcases h b hb with h|h
  ·have:=x.olt b h;have:=f.size;omega
  ·exact h.2,fun b hb hf=>by
  rcases h b hb with h|h
  ·exact x.odis b h hf
  ·have:=(x.foot hf).2;omega⟩
theorem FXO.more{O':Nat->Prop}{w9:World}(x:FXO O B w fb P F)(e:Ext w w9)(h:∀b,O' b->O b\/(w.heap.size<=b/\b<w9.heap.size)):FXO O' B w9 fb P F :=
 x.go (zac (S:=fun _=>False) e) (fun _ h=>h.elim) h
theorem FXO.less{O':Nat->Prop}(x:FXO O' B w fb P F)(h:∀b,O b->O' b):FXO O B w fb P F:=by
 have up:∀{w''},Fr (ftO O fb P.jp) w w''->Fr (ftO O' fb P.jp) w w'':=fun k=>k.mono fun b hb=>hb.elim (fun g=>.inl (h b g)) .inr
 exact⟨x.slot,x.arr,x.map,fun w'' k=>x.hs w'' (up k),fun r hr w'' k=>x.js r hr w'' (up k),x.ap,x.hO,x.jO,fun b hb=>x.olt b (h b hb),fun b hb=>x.odis b (h b hb)⟩
def HQ(F:Fm)(k:Nat)(born:Int)(H:List Th):Prop:=(H.map (·.id)).Perm (zg8 F k)/\(∀t∈H,t.prio=zpZ F t.id/\t.born<=born)/\(∀t∈H,∀u∈H,t.id<u.id->t.born<u.born)/\0<=born/\born<=k
theorem hq_put{k:Nat}{born:Int}{H Y:List Th}{b:Nat}(h:HQ F k born H)(hr:zdC F (zad F k)=true)(hp:Y.Perm (⟨b,(zad F k).job.prio,(k:Int)+1,born+1⟩::H)):HQ F (k+1) (born+1) Y:=by
 obtain⟨h1,h2,h3,h4,h5⟩:=h
 have idk:∀t∈H,t.id<=k:=fun t ht=>(zfC.1 (h1.mem_iff.1 (List.mem_map_of_mem ht))).2.1
 have mem:∀t∈Y,t=⟨b,(zad F k).job.prio,(k:Int)+1,born+1⟩\/t∈H:=fun t ht=>List.mem_cons.1 (hp.mem_iff.1 ht)
 refine⟨?_,fun t ht=>?_,fun t ht u hu hlt=>?_,by omega,by omega⟩
 ·unfold zg8
  rw[if_pos hr]
  have:=hp.map (·.id)
  refine this.trans ?_
  rw[List.map_cons]
  exact((h1.cons _).trans (List.perm_append_singleton _ _).symm)
 ·rcases mem t ht with rfl|ht
  ·refine⟨?_,Int.le_refl _⟩
   unfold zpZ
   rw[show((k:Int)+1-1).toNat=k by omega]
  ·have:=h2 t ht
   exact⟨this.1,by omega⟩
 ·rcases mem t ht with rfl|ht<;>rcases mem u hu with rfl|hu
  ·exact absurd hlt (by simp)
  ·have:=idk u hu;simp only at hlt;omega
  ·have:=(h2 t ht).2;simp only;omega
  ·exact h3 t ht u hu hlt
end
def zIH(O:Nat->Prop)(B fb:Nat)(w:World)(P:Pl)(F:Fm)(v:Value)(w':World):Prop:=∃(G:Fm) (outs:List (Int×Int)) (out:Option Addr) (outc:Nat) (P':Pl),
 v=.tuple #[.slice out outs.length outc,.int .i64 0]/\zdd F G outs/\zj9 G.hosts/\G.jobs.map (·.job)=F.jobs.map (·.job)/\P'.jp=P.jp/\FXO O B w' fb P' G/\Fr (ft fb P.jp) w w'/\Own w.heap.size w' zBH 2 out outs.length outc (outs.flatMap encO)/\outs.length<=60
structure XC(fb:Nat)(jp:Option Addr)(Sq:Nat->Prop)(out x:Option Addr)(w:World)(a b:Int):Prop where
 own:Own 0 w zHF 2 x 1 1 [.int .i64 a,.int .i64 b]
 ap:∀c,x=some c->¬ft fb jp c.block/\¬Sq c.block/\∀o,out=some o->o.block≠c.block
theorem XC.ext{fb:Nat}{jp:Option Addr}{Sq:Nat->Prop}{out x:Option Addr}{w w':World}{a b:Int}(h:XC fb jp Sq out x w a b)(e:Ext w w'):XC fb jp Sq out x w' a b:=⟨h.own.ext e,h.ap⟩
theorem XC.c0{fb:Nat}{jp:Option Addr}{Sq:Nat->Prop}{out x:Option Addr}{w:World}{a b:Int}(h:XC fb jp Sq out x w a b):x≠none/\Go.Sx.cell w x 0=some (.int .i64 a)/\Go.Sx.cell w x 1=some (.int .i64 b)/\Go.Sx.cell w (pAdd x 1) 0=some (.int .i64 b) :=
 ⟨h.own.ne1 (by omega) (by omega),h.own.cells 0 _ rfl,h.own.cells 1 _ rfl,by rw[zak];exact h.own.cells 1 _ rfl⟩
def PI(O:Nat->Prop)(B fb qb:Nat)(w:World)(P:Pl)(F:Fm)(Sq:Nat->Prop)(out:Option Addr)(outl outc:Nat)(x:Option Addr)(is:Bool)(w':World):Prop:=∃(G:Fm) (outs:List (Int×Int)) (T:List Int) (H:List Th),outl=outs.length/\QS w.heap.size Sq F qb w' H/\H.length<=60 /\
 ((is=false/\PS O B fb w P F Sq w' G outs T [] out outc)\/(is=true/\∃a b,XC fb P.jp Sq out x w' a b/\(∀u∈H,zcN F b u.id)/\PS O B fb w P F Sq w' G outs T (b::H.map (·.id)) out outc))
def PM(qb:Nat)(is:Bool)(w':World):Nat:=if is=true then zGU qb w'+1 else 0
section
variable {O Sq:Nat->Prop} {B fb qb:Nat} {w:World} {P:Pl} {F G:Fm} {outs:List (Int×Int)} {T:List Int} {out:Option Addr} {outc:Nat}
theorem zIl{w':World}{Rm:List Int}(s:PS O B fb w P F Sq w' G outs T Rm out outc)(hF:F.jobs.length<=60):outs.length<=60/\T.length+Rm.length<=60:=by
 have h1:=s.perm.length_eq
 rw[List.length_append] at h1
 have h2:=zp1 F F.jobs.length
 have h3:=s.len
 unfold rdy at h1
 omega
theorem zvG{w24:World}{H:List Th}{m0 n9:Nat}(h9:n9<=w24.heap.size)(q:QS w.heap.size Sq F qb w24 H)(hn:H.length<=60)(s:PS O B fb w P F Sq w24 G outs T (H.map (·.id)) out outc)(hq:∀b,Sq b->w.heap.size<=b/\b<w24.heap.size)(hm:m0=H.length+1)(c1 c2:Int) :
  ∀w45,Ext w24 w45->New w45 zHF [.int .i64 0,.int .i64 0] fun p46 w46=>zan w46 p46 [.int .i64 c1,.int .i64 c2] [] fun w47=>∀w48,Ext w47 w48 ->
   FnP Tryz.prog za3 #[.pointer (ptr qb)] w48 fun v49 w49=>∃a b:Int,∃is:Bool,v49=.tuple #[.agg #[.int .i64 a,.int .i64 b],.bool is]/\zan w49 p46 [.int .i64 a,.int .i64 b] [] fun w53 =>
    (n9<=w53.heap.size/\PI O B fb qb w P F Sq out outs.length outc p46 is w53)/\PM qb is w53<m0:=by
 intro w45 e45
 refine zbp (by intro v hv;simp at hv;subst hv;rfl) fun w46 o46 e46=>?_
 refine zaS (off:=0) (o46 w45.heap.size (Nat.le_refl _)) (zfc _) (by simp) (by simp) (by intro v hv;simp at hv;rcases hv with rfl|rfl<;>rfl) (by simp) fun w47 o47 g47 w48 e48=>?_
 have h4548:Ext w45 w48:=(g47.ext e46 (o46 w45.heap.size (Nat.le_refl _))).trans e48
 have h2448:=e45.trans h4548
 refine(zIt (q.ext h2448) hn).mono fun v w49 ⟨a,b,is,Y,hv,q49,f49,hcase⟩=>⟨a,b,is,hv,?_⟩
 have hsz:=e45.size
 have hps:∀c,(some ⟨w45.heap.size,0,none⟩:Option Addr)=some c->¬Sq c.block:=fun c hc hs=>by cases hc;have:=(hq _ hs).2;simp only at this;omega
 have o49:=(o47.ext e48).fr f49 hps
 refine zaS (off:=0) o49 (zfc _) (by simp[zdt]) (by simp) (by intro v hv;simp at hv;rcases hv with rfl|rfl<;>rfl) (by simp) fun w53 o53 g53=>?_
 have f53:Fr (fun c=>c=w45.heap.size) w49 w53:=zaP g53 fun c hc=>by cases hc;rfl
 have fall:Fr Sq w24 w53:=((zac h2448).tr f49).trans f53 fun c hc=>.inr (by subst hc;exact hsz)
 have q53:QS w.heap.size Sq F qb w53 Y:=q49.fr f53 fun c hc h=>by have:=(hq _ hc).2;omega
 have s53:=s.fr' fall fun c hc=>(hq c hc).1
 have hxap:∀c,(some ⟨w45.heap.size,0,none⟩:Option Addr)=some c->¬ft fb P.jp c.block/\¬Sq c.block/\∀o,out=some o->o.block≠c.block:=fun c hc=>by
  refine⟨fun hf=>?_,hps c hc,fun o ho h=>?_⟩
  ·obtain⟨PP,h1,x⟩:=s.fx
   rw[<-h1] at hf
   have:=(x.foot hf).2
   cases hc
   simp only at this;omega
  ·have:=(s.own.lt o ho).2
   cases hc
   simp only at h;omega
 have h953:n9<=w53.heap.size:=by have:=fall.size;omega
 rcases hcase with⟨rfl,rfl,rfl⟩|⟨rfl,hlt,hbef,hperm⟩
 ·exact⟨⟨h953,G,outs,T,[],rfl,q53,by simp,.inl ⟨rfl,s53⟩⟩,by unfold PM;simp;omega⟩
 ·refine⟨⟨h953,G,outs,T,Y,rfl,q53,by omega,.inr ⟨rfl,a,b,⟨o53.weak (Nat.zero_le _),hxap⟩,hbef,s53.shift hperm⟩⟩,?_⟩
  unfold PM
  rw[q53.len]
  simp;omega
theorem FXO.put2(x:FXO O B w fb P F){jp:Option Addr}(hj:P.jp=jp){k:Int}(h0:0<=k)(h1:k<F.jobs.length){m:Nat}(hm:11<=m/\m<=15)(v:Int){ns:List Nat}(hns:∀b∈ns,¬ft fb jp b){K:World->Prop}
  (hk:∀w' P',P'.jp=jp->FXO O B w' fb P' (stF F k.toNat m v)->Fr (ft fb jp) w w'->K w'):zan w (pAdd (pIdx jp k 16) m) [.int .i64 v] ns K:=by
 subst hj
 exact x.put h0 h1 hm v hns hk
theorem zKu{A B C:List Int}{x:Int}(h:(A++(x::B)).Perm C):x∈C:=h.mem_iff.1 (by simp)
theorem zrR{F G:Fm}(h:G.jobs.map (·.job)=F.jobs.map (·.job)):G.jobs.length=F.jobs.length:=by have:=congrArg List.length h;simpa using this
theorem zDR(x:FXO O B w fb P F)(ha:zlc F)(hh:zj9 F.hosts):FnP Tryz.prog zbo #[.pointer (ptr fb)] w (zIH O B fb w P F):=by
 have ne:=zaB fb
 have hl0:=x.jO.1
 refine zm3 (ptr fb) w _ fun w0 h0=>qnew_k.mono fun v w1 ⟨e1,qb,mb,hv,hqb,hQ⟩=>⟨e1,_,hv,ne,ne,?_⟩
 have e01:=h0.trans e1
 have x1:=x.ext e01
 refine⟨_,_,_,x1.cell (i:=6) rfl,?_⟩
 rw[x1.len]
 refine⟨fun k w'=>0<=k/\k<=F.jobs.length/\Fr (ft fb P.jp) w w'/\∃(born:Int) (p:Option Addr) (c:Nat) (m:List (Int×Value)) (H:List Th) (P':Pl),P'.jp=P.jp/\QQ w.heap.size w' qb mb born p c H m/\Rel H m/\HQ F k.toNat born H/\FXO (fun b=>O b\/ziy mb qb p H b) B w' fb P' F,fun k _=>(F.jobs.length-k).toNat,⟨by omega,by omega,zac e01,0,none,0,[],[],P,rfl,hQ _ h0.size,⟨by simp,fun id v h=>by simp[ziC] at h⟩,⟨by simp[zg8],by simp,by simp,by omega,by omega⟩,?_⟩,?_⟩
 ·exact x.more e01 fun b hb=>hb.imp id fun h=>(hQ _ h0.size).foot h
 rintro k w8 ⟨hk0,hk1,f8,born,p,c,m,H,P8,hP8,q8,r8,hq8,x8⟩
 have hkn:((k.toNat:Nat):Int)=k:=by omega
 have hk1n:(k+1).toNat=k.toNat+1:=by omega
 have hHl:H.length<=60:=by
  have:=hq8.1.length_eq
  have:=zp1 F k.toNat
  simp at *;omega
 refine⟨fun hlt=>⟨ne,ne,_,_,_,x8.cell (i:=6) rfl,?_⟩,fun hge w9 h9=>?_⟩
 ·obtain⟨r,hr,hF,hjp,hne,_,g,hJ,hok,hwf⟩:=x8.st hk0 (by omega)
  have hja:zad F k.toNat=r.s:=zhL hF
  refine⟨hjp,hk0,by rw[x8.len];omega,fun w12 h12=>(zKw (x8.ext h12) ha hk0 (by omega)).mono fun v w13 ⟨e13,hv⟩=>⟨e13,_,hv,fun hb=>⟨hne,hne,by rw[zaR];exact hne,_,by rw[zaR];exact g 1 _ rfl,i64 (by omega),fun w16 h16=>?_⟩,fun hb=>⟨i64 (by omega),⟨by omega,by omega,f8,born,p,c,m,H,P8,hP8,q8,r8,?_,x8⟩,by simp only[];omega⟩⟩⟩
  ·obtain⟨hq1,hq2,hq3,hq4,hq5⟩:=hq8
   have hidk:∀t∈H,t.id≠k+1:=fun t ht h=>by
    have:=(zfC.1 (hq1.mem_iff.1 (List.mem_map_of_mem ht))).2.1
    omega
   refine(qput_k (q8.ext h16) r8 (by omega) (by omega) (Nat.le_trans f8.size h16.size) r.s.job.prio (k+1)).mono fun v w17 ⟨e,hv,hbad,hgood⟩=>⟨e,hv,i64 (by omega),?_⟩
   have he:e=0:=by
    by_cases h:e=0
    ·exact h
    ·rcases (hbad h).2 with⟨⟨t,ht,hid⟩,_⟩|⟨h200,_⟩
     ·exact absurd hid (hidk t ht)
     ·omega
   obtain⟨_,_,b,p',c',Y,qY,hp,f17,hgrow⟩:=hgood he
   have r17:=zKy r8 (t:=⟨b,r.s.job.prio,k+1,born+1⟩) hidk hp
   have hq17:=hq_put (k:=k.toNat) (b:=b) ⟨hq1,hq2,hq3,hq4,hq5⟩ (by rw[hja];unfold zad at hja;rw[hja] at hb;exact hb) (Y:=Y) (by
    rw[hja,hkn];exact hp)
   have fall:Fr (ziy mb qb p H) w8 w17:=(zac h16).tr f17
   refine⟨⟨by omega,by omega,f8.trans fall fun b hb=>.inr ((q8.foot hb).1),born+1,p',c',_,Y,P8,hP8,qY,r17,?_,?_⟩,by simp only[];omega⟩
   ·rw[hk1n];exact hq17
   ·refine x8.go fall (fun b hb=>.inr hb) fun b hb=>?_
    rcases hb with hb|hb
    ·exact .inl (.inl hb)
    ·rcases hgrow b hb with h|h
     ·exact .inl (.inr h)
     ·exact .inr ⟨Nat.le_trans h16.size h,(qY.foot hb).2⟩
  ·rw[hk1n]
   obtain⟨hq1,hq2,hq3,hq4,hq5⟩:=hq8
   refine⟨?_,hq2,hq3,hq4,by omega⟩
   unfold zg8
   rw[if_neg (by rw[hja];unfold zad at hja;rw[hja] at hb;rw[hb];simp)]
   exact hq1
 have hkl:k.toNat=F.jobs.length:=by omega
 rw[hkl] at hq8
 obtain⟨hq1,hq2,hq3,hq4,hq5⟩:=hq8
 let Sq:Nat->Prop:=ziy mb qb p H
 have hSq:∀b,Sq b->w.heap.size<=b/\b<w8.heap.size:=fun b hb=>q8.foot hb
 have Q8:QS w.heap.size Sq F qb w8 H:=⟨⟨mb,born,p,c,m,q8,r8,fun b hb=>hb⟩,by
  have:(H.map (·.id)).Nodup:=(hq1.nodup_iff).2 (zhY F _)
  exact this,fun t ht=>(hq2 t ht).1,hq3⟩
 have S8:PS O B fb w P F Sq w8 F [] [] (H.map (·.id)) none 0:=⟨⟨P8,hP8,x8.less fun b hb=>by
  rcases hb with hb|hb|⟨a,ha,_⟩
  ·exact .inl hb
  ·exact .inr hb
  ·cases ha⟩,f8,.nil F,hh,rfl,Own.nil,fun a ha=>(by cases ha),hq1,List.Pairwise.nil,by simp,by simp⟩
 refine(zIt (Q8.ext h9) hHl).mono fun v w10 ⟨a,b,is,Y,hv,Q10,f10,hcase⟩=>⟨a,b,is,hv,fun w14 h14=>?_⟩
 have s10:=(S8.ext h9).fr' f10 fun c hc=>(hSq c hc).1
 have s14:=s10.ext h14
 have Q14:=Q10.ext h14
 refine zbp (by intro v hv;simp at hv;subst hv;rfl) fun w15 o15 e15=>?_
 refine zaS (off:=0) (o15 w14.heap.size (Nat.le_refl _)) (zfc _) (by simp) (by simp) (by intro v hv;simp at hv;rcases hv with rfl|rfl<;>rfl) (by simp) fun w16 o16 g16=>?_
 have e16:Ext w14 w16:=g16.ext e15 (o15 w14.heap.size (Nat.le_refl _))
 have s16:=s14.ext e16
 have Q16:=Q14.ext e16
 have hsz14:w8.heap.size<=w14.heap.size:=Nat.le_trans (Nat.le_trans h9.size f10.size) h14.size
 refine⟨fun out outl outc x is w'=>w14.heap.size<=w'.heap.size/\PI O B fb qb w P F Sq out outl outc x is w',fun out outl outc x is w'=>PM qb is w',⟨e16.size,?_⟩,?_⟩
 ·rcases hcase with⟨rfl,rfl,rfl⟩|⟨rfl,hlt,hbef,hperm⟩
  ·exact⟨F,[],[],[],rfl,Q16,by simp,.inl ⟨rfl,s16⟩⟩
  ·refine⟨F,[],[],Y,rfl,Q16,by omega,.inr ⟨rfl,a,b,⟨o16.weak (Nat.zero_le _),fun c hc=>⟨fun hf=>?_,fun hs=>?_,fun o ho=>by cases ho⟩⟩,hbef,s16.shift hperm⟩⟩
   ·obtain⟨PP,h1,x14⟩:=s14.fx
    rw[<-h1] at hf
    have:=(x14.foot hf).2
    cases hc
    simp only at this;omega
   ·have:=(hSq _ hs).2
    cases hc
    simp only at this;omega
 rintro out outl outc xp is w21 ⟨hsz21,G,outs,T,H,rfl,Q21,hH,hc⟩
 refine⟨fun his=>?_,fun his w22 h22=>?_⟩
 ·rcases hc with⟨h,_⟩|⟨_,a,b,xc,hbef,s21⟩
  ·rw[his] at h;cases h
  have hsq21:∀b,Sq b->w.heap.size<=b/\b<w21.heap.size:=fun b hb=>by have:=hSq b hb;omega
  obtain⟨xn,_,_,xb⟩:=xc.c0
  obtain⟨PP,hPP,x21⟩:=s21.fx
  have hbin:=zfC.1 (zKu s21.perm)
  have hGl:=zrR s21.job
  have hin:inJ G b:=⟨hbin.1,by rw[hGl];exact hbin.2.1⟩
  have hk:(b-1).toNat<G.jobs.length:=by have:=hin.1;have:=hin.2;omega
  have hls:=zIl s21 hl0
  refine⟨xn,b,xb,fun w23 h23=>(zFs (x21.ext h23) b (i64 (by have:=hin.1;have:=hin.2;omega))).mono fun v w24 ⟨e24,hv⟩=>⟨e24,?_⟩⟩
  rcases hv with⟨hno,_⟩|⟨_,_,rfl⟩
  ·exact absurd hin hno
  have e2124:=h23.trans e24
  have x24:=x21.ext e2124
  have s24:=s21.ext e2124
  have Q24:=Q21.ext e2124
  have xc24:=xc.ext e2124
  have hsq24:∀b,Sq b->w.heap.size<=b/\b<w24.heap.size:=fun b hb=>by have:=hsq21 b hb;have:=e2124.size;omega
  obtain⟨r,hr,hF,hjp,hne,g',g,hJ,hok,hwf⟩:=x24.st (k:=b-1) (by have:=hin.1;omega) (by have:=hin.2;omega)
  have hja:zad G (b-1).toNat=r.s:=zhL hF
  have c5:∀(j:Nat)(v:Value),(zun r)[5+j]?=some v->Go.Sx.cell w24 (pAdd (pAdd (pIdx PP.jp (b-1) 16) 0) 5) j=some v:=fun j v hv=>by
   rw[zaR,zak];exact g' _ _ hv
  have c2:∀(j:Nat)(v:Value),(zun r)[2+j]?=some v->Go.Sx.cell w24 (pAdd (pAdd (pIdx PP.jp (b-1) 16) 0) 2) j=some v:=fun j v hv=>by
   rw[zaR,zak];exact g' _ _ hv
  have n0:pAdd (pIdx PP.jp (b-1) 16) 0≠none:=by rw[zaR];exact hne
  have n5:pAdd (pAdd (pIdx PP.jp (b-1) 16) 0) 5≠none:=fun h=>n0 (zdk.1 h)
  have n2:pAdd (pAdd (pIdx PP.jp (b-1) 16) 0) 2≠none:=fun h=>n0 (zdk.1 h)
  have hO:=x24.hO
  refine⟨_,rfl,ne,ne,_,_,_,x24.cell (i:=0) rfl,hne,hne,n0,n5,_,c5 0 _ rfl,_,c5 1 _ rfl,_,c5 2 _ rfl,_,c5 3 _ rfl,_,_,_,c5 4 _ rfl,hne,hne,n0,n2,_,c2 0 _ rfl,_,c2 1 _ rfl,_,c2 2 _ rfl,fun w39 h39=>?_⟩
  refine(zHA PP.hp PP.hc G.hosts (by omega) hO.2 r.s.job.ask r.pa r.ca hwf.ask r.s.job.nd w39 ((x24.ext h39).hs w39 (Fr.refl _ _)) (hJ.1.ext h39)).mono fun v w40 ⟨e40,k,e,hv,hres⟩=>⟨e40,k,e,hv,?_⟩
  have hall:zxx G.hosts r.s.job.ask r.s.job.nd:=⟨s24.hs,hok.ask,hok.nd⟩
  have hm:PM qb is w21=H.length+1:=by unfold PM;rw[his,if_pos rfl,Q21.len]
  refine⟨fun he=>?_,fun he=>?_⟩
  ·have hsk:zuv G b=[]:=by
    rcases hres with⟨_,_,_,h⟩|⟨h,_⟩
    ·have:=h hall
     unfold zuv
     rw[hja]
     exact this
    ·exact absurd h he
   obtain⟨_,x0,x1,_⟩:=xc24.c0
   have s':PS O B fb w P F Sq w24 G outs (T++[b]) (H.map (·.id)) out outc:=⟨s24.fx,s24.fr,s24.run.snoc_skip hsk,s24.hs,s24.job,s24.own,s24.ap,by simpa using s24.perm,List.pairwise_append.2 ⟨s24.pw,by simp,fun y hy z hz=>by simp at hz;subst hz;exact s24.lt y hy _ (by simp)⟩,fun y hy z hz=>by
    rcases List.mem_append.1 hy with hy|hy
    ·exact s24.lt y hy z (List.mem_cons_of_mem _ hz)
    ·simp at hy;subst hy
     obtain⟨u,hu,rfl⟩:=List.mem_map.1 hz
     exact hbef u hu,by rw[List.length_append];have:=s24.len;simp;omega⟩
   exact⟨xn,_,x0,_,x1,zvG (by have:=e2124.size;omega) Q24 hH s' hsq24 hm a b⟩
  ·obtain⟨_,_,hbest⟩:e=0/\zxx G.hosts r.s.job.ask r.s.job.nd/\zf1 G.hosts r.s.job.ask r.s.job.nd k:=by
    rcases hres with⟨h,_⟩|h
    ·exact absurd he h
    ·exact h
   obtain⟨hk0,hk1,hfit⟩:=zoy.1 hbest.1
   have hkI:InR .i64 k:=i64 (by omega)
   refine⟨ne,ne,_,_,_,x24.cell (i:=0) rfl,hne,hne,n0,n2,_,c2 0 _ rfl,_,c2 1 _ rfl,_,c2 2 _ rfl,fun w49 h49=>?_⟩
   have x49:=x24.ext h49
   refine(Take_k PP.hp PP.hc G.hosts (by omega) hO.2 k r.s.job.nd w49 (x49.hs w49 (Fr.refl _ _))).mono fun v w50 ⟨e50,p',n',c',e',hv,htk⟩=>⟨e50,p',n',c',e',hv,ne,ne,?_⟩
   have hfN:zj4 r.s.job.nd (zit (G.hosts.getD k.toNat default).has (G.hosts.getD k.toNat default).used):=by
    unfold zGb at hfit
    rw[Bool.and_eq_true,decide_eq_true_iff] at hfit
    exact hfit.2
   rcases htk with⟨_,_,hno⟩|⟨_,_,_,_,rfl,_,_,_,hS⟩
   ·exact absurd ⟨hok.nd,hfN⟩ (hno s24.hs hk0 hk1)
   have x50:=x49.ext e50
   refine zaS (off:=0) x50.slot rfl (by simp) (by simp) (by intro u hu;simp at hu;subst hu;rfl) (by simp) fun w55 o55 g55=>⟨ne,ne,?_⟩
   have hG:zkU G (b-1).toNat k={ G with hosts:=G.hosts.set k.toNat (zfX (G.hosts.getD k.toNat default) (zwu (G.hosts.getD k.toNat default).used r.s.job.nd)) }:=by unfold zkU zpq;rw[hja]
   have fg:Fr (ft fb PP.jp) w50 w55:=zaP g55 fun a ha=>by cases ha;exact .inl rfl
   obtain⟨y55,f55⟩:=x50.slot_to (F':=zkU G (b-1).toNat k) (P':={ PP with hp:=p',hc:=c' }) (by
    rw[hG]
    show Own B w55 zdq 7 (ptr fb) 1 1 [.slice p' (G.hosts.set _ _).length c',_,_,_,_,_,_]
    rw[List.length_set];exact o55) g55 rfl rfl rfl rfl (fun w'' kf=>by
     rw[hG]
     exact hS (ftO (OQ O Sq out) fb PP.jp) (fun b hb=>by
      rcases hb with hb|hb
      ·exact x49.olt b hb
      ·exact(x49.foot hb).2) w'' ((fg.mono fun b hb=>.inr hb).tr kf)) (by
    rw[hG]
    refine⟨by show(G.hosts.set _ _).length<=30;rw[List.length_set];exact hO.1,fun h hh=>?_⟩
    have hh:h∈G.hosts.set k.toNat (zfX (G.hosts.getD k.toNat default) (zwu (G.hosts.getD k.toNat default).used r.s.job.nd)):=hh
    rcases List.mem_or_eq_of_mem_set hh with hh|rfl
    ·exact hO.2 h hh
    ·have:=hO.2 _ (zaq G.hosts default (i:=k.toNat) (by omega))
     exact this)
   refine⟨G.now,y55.cell (i:=5) rfl,hne,hne,?_⟩
   refine y55.put2 (jp:=PP.jp) rfl (k:=b-1) (by have:=hin.1;omega) (by have:=hin.2;exact(by omega:b-1<(G.jobs.length:Int))) (by omega) 2 (by simp) fun w57 P1 hP1 y57 f57=>⟨hne,hne,?_⟩
   refine y57.put2 hP1 (k:=b-1) (by have:=hin.1;omega) (by rw[zbI];have:=hin.2;exact(by omega:b-1<(G.jobs.length:Int))) (by omega) k (by simp) fun w58 P2 hP2 y58 f58=>⟨hne,hne,?_⟩
   refine y58.put2 hP2 (k:=b-1) (by have:=hin.1;omega) (by rw[zbI,zbI];have:=hin.2;exact(by omega:b-1<(G.jobs.length:Int))) (by omega) G.now (by simp) fun w59 P3 hP3 y59 f59=>⟨xn,?_⟩
   have y59:FXO (OQ O Sq out) B w59 fb P3 (zfP G (b-1).toNat k):=y59
   have f2459:Fr (ft fb PP.jp) w24 w59:=((((zac (h49.trans e50)).tr f55).tr f57).tr f58).tr f59
   have hdis:∀c,OQ O Sq out c->¬ft fb PP.jp c:=x24.odis
   have hxd:∀c,xp=some c->¬ft fb PP.jp c.block:=fun c hc=>by rw[hPP];exact(xc24.ap c hc).1
   obtain⟨_,x0,x1,_⟩:=xc24.c0
   have x1':=zdP x1 f2459 hxd
   refine⟨b,by rw[zak];exact x1',?_⟩
   have o59:=s24.own.fr f2459 fun c hc=>hdis _ (.inr (.inr ⟨c,hc,rfl⟩))
   have hsz24:w.heap.size<=w24.heap.size:=s24.fr.size
   have hsz59:w.heap.size<=w59.heap.size:=Nat.le_trans hsz24 f2459.size
   refine push (v:=.agg #[.int .i64 b,.int .i64 k]) zsx (by omega) o59 hsz59 rfl (by intro u hu;simp[Value.cells] at hu;rcases hu with rfl|rfl<;>rfl) (by omega) (by omega) (by omega) fun out' outc' w67 o67 g67 hne67=>⟨xn,?_⟩
   have f67:Fr (fun c=>∃o,out=some o/\o.block=c) w59 w67:=zaP g67 fun a ha=>⟨a,ha,rfl⟩
   have hout':∀a,out'=some a->(∃o,out=some o/\o.block=a.block)\/(w59.heap.size<=a.block/\a.block<w67.heap.size):=fun a ha=>by
    rcases g67.new with hn|hn
    ·left
     rw[ha] at hn
     cases ho:out with
     |none => rw[ho] at hn;simp[blk] at hn
     |some y => rw[ho] at hn;simp[blk] at hn;exact⟨y,rfl,by omega⟩
    ·exact .inr ⟨hn a ha,(o67.lt a ha).2⟩
   have hxo:∀c,xp=some c->¬ ∃o,out=some o/\o.block=c.block:=fun c hc ⟨o,ho,hk⟩=>(xc24.ap c hc).2.2 o ho hk
   refine⟨a,zdP (zdP x0 f2459 hxd) f67 hxo,b,zdP x1' f67 hxo,?_⟩
   have f2467:Fr (fun c=>ft fb P.jp c\/∃o,out=some o/\o.block=c) w24 w67:=by
    rw[hPP] at f2459
    exact(f2459.mono fun c hc=>.inl hc).tr (f67.mono fun c hc=>.inr hc)
   have Q67:QS w.heap.size Sq F qb w67 H:=Q24.fr f2467 fun c hc h=>by
    rcases h with h|⟨o,ho,rfl⟩
    ·rw[<-hPP] at h;exact hdis c (.inr (.inl hc)) h
    ·exact s24.ap o ho hc
   have hsz67:=f2467.size
   have s67:PS O B fb w P F Sq w67 (zfP G (b-1).toNat k) (outs++[(b,k)]) (T++[b]) (H.map (·.id)) out' outc':=by
    refine⟨⟨P3,hP3.trans hPP,y59.go f67 (fun c hc=>.inr (.inr hc)) fun c hc=>?_⟩,s24.fr.trans f2467 fun c hc=>?_,s24.run.snoc_run (by rw[hja];exact hbest),?_,(zG8 hk k).trans s24.job,?_,fun c hc hs=>?_,by simpa using s24.perm,List.pairwise_append.2 ⟨s24.pw,by simp,fun y hy z hz=>by simp at hz;subst hz;exact s24.lt y hy _ (by simp)⟩,fun y hy z hz=>?_,by rw[List.length_append,List.length_append];have:=s24.len;simp;omega⟩
    ·rcases hc with hc|hc|⟨c,hc,rfl⟩
     ·exact .inl (.inl hc)
     ·exact .inl (.inr (.inl hc))
     ·rcases hout' c hc with h|h
      ·exact .inl (.inr (.inr h))
      ·exact .inr h
    ·rcases hc with hc|⟨o,ho,rfl⟩
     ·exact .inl hc
     ·exact .inr (s24.own.lt o ho).1
    ·exact zva s24.hs hk0 hk1 (by rw[hja];exact hok.nd) (by rw[hja];exact hfN)
    ·rw[List.flatMap_append,List.length_append]
     simpa[Value.cells,encO] using o67
    ·rcases hout' c hc with⟨o,ho,hk⟩|h
     ·rw[<-hk] at hs;exact s24.ap o ho hs
     ·have:=(hsq24 _ hs).2;have:=f2459.size;omega
    ·rcases List.mem_append.1 hy with hy|hy
     ·exact s24.lt y hy z (List.mem_cons_of_mem _ hz)
     ·simp at hy;subst hy
      obtain⟨u,hu,rfl⟩:=List.mem_map.1 hz
      exact hbef u hu
   have:=zvG (n9:=w14.heap.size) (by have:=e2124.size;omega) Q67 hH s67 (fun c hc=>by have:=hsq24 c hc;omega) hm a b
   rw[List.length_append] at this
   exact this
 ·rcases hc with⟨_,s21⟩|⟨h,_⟩
  ·have s22:=s21.ext h22
   obtain⟨PP,h1,x22⟩:=s22.fx
   refine⟨G,outs,out,outc,PP,rfl,⟨T,⟨by simpa using s22.perm,s22.pw⟩,s22.run⟩,s22.hs,s22.job,h1,x22.less fun b hb=>.inl hb,s22.fr,s22.own,(zIl s22 hl0).1⟩
  ·rw[his] at h;cases h
end
theorem neN_k{a b:Nd}{w:World}{K:Value->World->Prop}(hk:K (.bool (!decide (a=b))) w):Run Tryz.prog (.eq .neq zim false false (nv a) (nv b)) w K :=
 zKD (n:=3) (k:=.i64) (by kernel_rfl) (by kernel_rfl) (by kernel_rfl) (by kernel_rfl) [a.c,a.m,a.g] [b.c,b.m,b.g] rfl rfl (by
  have:decide (a=b)=decide ([a.c,a.m,a.g]=[b.c,b.m,b.g]):=decide_eq_decide.2 zKj
  rwa [this] at hk)
theorem New1_k(h:Ht)(q:Option Addr)(d:Nat)(w:World):FnP Tryz.prog zeB #[.agg #[.string h.name,.slice q h.labels.length d,.int .i64 h.has.c,.int .i64 h.has.m,.int .i64 h.has.g,.int .i64 h.used.c,.int .i64 h.used.m,.int .i64 h.used.g]] w fun v w'=>Ext w w'/\v=.bool (!decide (h.used=za6)):=by
 refine ztd h.name q h.labels.length d h.has.c h.has.m h.has.g h.used.c h.used.m h.used.g w _ fun b0 hb0 w1 h1=>?_
 refine neN_k (a:=h.used) (b:=za6) ⟨Ext.refl _,_,rfl,fun w4 h4=>⟨h4,rfl⟩⟩
theorem zFe(p:Option Addr)(c:Nat)(L:List Ht)(h63:(L.length:Int)<=9223372036854775807)(w:World)(hL:ziz w p L) :
  FnP Tryz.prog zao #[.slice p L.length c,.func (.func zeB) #[] #[]] w fun v w'=>Ext w w'/\∃t,v=.int .i64 t/\(0<=t↔∃x∈L,x.used≠za6):=by
 refine zbs p L.length c _ w _ ?_
 refine⟨fun k w'=>w'=w/\0<=k/\k<=L.length/\∀j:Nat,(j:Int)<k->(L.getD j default).used=za6,fun k _=>(L.length-k).toNat,⟨rfl,by omega,by omega,fun j hj=>by omega⟩,?_⟩
 rintro k w ⟨rfl,hk0,hk1,hno⟩
 refine⟨fun hlt=>?_,fun hge w4 h4=>⟨h4,_,rfl,?_⟩⟩
 ·obtain⟨q,d,n1,n2,g,_⟩:=hL.at hk0 hlt
  refine⟨n1,hk0,hlt,n2,_,g 0 _ rfl,_,_,_,g 1 _ rfl,_,g 2 _ rfl,_,g 3 _ rfl,_,g 4 _ rfl,_,g 5 _ rfl,_,g 6 _ rfl,_,g 7 _ rfl,fun w4 h4=>?_⟩
  refine⟨zeB,#[],rfl,(New1_k (L.getD k.toNat default) q d w4).mono fun v w5 ⟨e5,hv⟩=>⟨e5,_,hv,fun hyes w9 h9=>⟨h9,_,rfl,fun _=>⟨_,zaq L default (i:=k.toNat) (by omega),by simpa using hyes⟩,fun _=>hk0⟩,fun hn=>⟨i64 (by omega),⟨rfl,by omega,by omega,fun j hj=>?_⟩,by simp only[];omega⟩⟩⟩
  by_cases hjk:(j:Int)<k
  ·exact hno j hjk
  ·obtain rfl:j=k.toNat:=by omega
   simpa using hn
 ·constructor
  ·intro h;omega
  ·rintro⟨x,hm,hx⟩
   obtain⟨j,hj,rfl⟩:=List.getElem_of_mem hm
   have:=hno j (by omega)
   rw[show L.getD j default=L[j] by simp[List.getD_eq_getElem?_getD,hj]] at this
   exact absurd this hx
theorem zwz(p:Option Addr)(c:Nat)(L:List Ht)(h63:(L.length:Int)<=9223372036854775807)(w:World)(hL:ziz w p L) :
  FnP Tryz.prog zaO #[.slice p L.length c,.func (.func zeB) #[] #[]] w fun v w'=>Ext w w'/\∃b:Bool,v=.bool b/\(b=true↔∃x∈L,x.used≠za6):=by
 refine zcJ p L.length c _ w _ fun w1 h1=>?_
 refine(zFe p c L h63 w1 (hL.ext h1)).mono fun v w2 ⟨e2,t,hv,ht⟩=>⟨e2,t,hv,fun w4 h4=>⟨h4,_,rfl,?_⟩⟩
 rw[decide_eq_true_iff];exact ht
def zmS(L:List Ht)(pol:Pol):Prop:=zj9 L/\(∀x∈L,x.used=za6)/\zmT pol
def zio(L:List Ht)(pol:Pol):Fm:=⟨L,pol,0,[]⟩
theorem zur(p:Option Addr)(c:Nat)(L:List Ht)(h63:(L.length:Int)<=9223372036854775807)(hO:∀h∈L,zry h)(pol:Pol)(w:World)(hL:ziz w p L) :
  FnP Tryz.prog zcZ #[.agg #[.slice p L.length c,.int .i64 pol.first,.int .i64 pol.times,.int .i64 pol.most,.int .i64 pol.tries]] w fun v w'=>Ext w w'/\∃(q:Option Addr) (e:Int),v=.tuple #[.pointer q,.int .i64 e]/\(e=0↔zmS L pol)/\(e≠0->q=none) /\
   (e=0->∃fb P,q=ptr fb/\FX w.heap.size w' fb P (zio L pol)):=by
 refine zxG p L.length c pol.first pol.times pol.most pol.tries w _ fun b0 hb0 w1 h1=>(zsE p c L h63 hO w1 (hL.ext h1)).mono fun v w2 ⟨e2,e,hv,he,_⟩=>⟨e2,e,hv,fun hne w4 h4=>⟨h4,none,e,rfl,⟨fun h=>absurd h hne,fun h=>absurd (he.2 h.1) hne⟩,fun _=>rfl,fun h=>absurd h hne⟩,fun hz w4 h4=>?_⟩
 have hok:=he.1 hz
 refine(zwz p c L h63 w4 (hL.ext h4)).mono fun v w5 ⟨e5,b,hv,hb⟩=>⟨e5,b,hv,fun hbt w7 h7=>⟨h7,none,9,rfl,⟨fun h=>(by cases h),fun h=>?_⟩,fun _=>rfl,fun h=>(by cases h)⟩,fun hbf w7 h7=>?_⟩
 ·obtain⟨x,hx,hu⟩:=hb.1 hbt
  exact absurd (h.2.1 x hx) hu
 have hu:∀x∈L,x.used=za6:=fun x hx=>by
  by_cases h:x.used=za6
  ·exact h
  ·have:=hb.2 ⟨x,hx,h⟩;rw[hbf] at this;cases this
 refine(zzI pol.first pol.times pol.most pol.tries w7).mono fun v w8 ⟨e8,e,hv,hy,hn⟩=>⟨e8,e,hv,fun hne w10 h10=>⟨h10,none,e,rfl,⟨fun h=>absurd h hne,fun h=>absurd (hy h.2.2) hne⟩,fun _=>rfl,fun h=>absurd h hne⟩,fun hz w10 x10=>?_⟩
 have hp:zmT pol:=by
  by_cases h:zmT pol
  ·exact h
  ·have:=hn h;omega
 have h10:=zaa x10
 refine(zIk p c L hok.1 (fun h hh=>(hok.2.1 h hh).2.1) w10 (hL.ext h10)).mono fun v w11 ⟨e11,p',c',M,hv,hM,o11,hA,hN⟩=>⟨e11,p',_,c',hv,fun w15 x15=>?_⟩
 have h15:=zaa x15
 refine zbp (by intro v hv;simp at hv;rcases hv with rfl|rfl|rfl|rfl|rfl|rfl|rfl<;>rfl) fun w16 o16 e16 w17 e17=>?_
 have h1117:=(h15.trans e16).trans e17
 have hall:Ext w w17:=(h10.trans e11).trans h1117
 have hs15:w.heap.size<=w15.heap.size:=Nat.le_trans h10.size (Nat.le_trans e11.size h15.size)
 have hs11:w11.heap.size<=w15.heap.size:=h15.size
 refine⟨hall,_,0,rfl,⟨fun _=>⟨hok,hu,hp⟩,fun _=>rfl⟩,fun h=>absurd rfl h,fun _=>⟨w15.heap.size,⟨p',c',none,0,[]⟩,rfl,?_⟩⟩
 have hS:=(zCV o11 (fun m hm=>(hA m hm).1) hN).weak h10.size
 rw[hM] at hS
 refine⟨((o16 _ hs15).ext e17),Own.nil,rfl,fun w'' k=>?_,fun r hr=>(by cases hr),fun a ha=>(by cases ha),⟨hok.1,hO⟩,⟨by simp[zio],fun s hs=>by simp[zio] at hs⟩,fun b hb=>Nat.lt_of_lt_of_le hb hall.size,fun b hb hf=>?_⟩
 ·refine hS (fun b=>b<w.heap.size) (fun b hb=>hb) w'' ((zac h1117).trans k fun b hb=>?_)
  rcases hb with hb|hb|⟨a,ha,_⟩
  ·exact .inl hb
  ·subst hb;exact .inr hs11
  ·cases ha
 ·rcases hf with hf|⟨a,ha,_⟩
  ·subst hf;have:w15.heap.size<w.heap.size:=hb;omega
  ·cases ha
def can(F:Fm)(x:Ev):Prop:=okE x/\(x.kind=1->zvc F x.job)/\(x.kind=2->0<=x.n/\x.n<=1000000000/\F.now+x.n<=1099511627776)/\(x.kind=4->inJ F x.id/\(zad F (x.id-1).toNat).what=2)/\(x.kind=5->inJ F x.id/\((zad F (x.id-1).toNat).what=1\/(zad F (x.id-1).toNat).what=2))
def Did(F:Fm)(x:Ev)(F':Fm):Prop:=(¬can F x/\F'=F)\/(can F x/\((x.kind=1/\F'=zqc F x.job)\/(x.kind=2/\F'={ F with now:=F.now+x.n })\/(x.kind=3/\∃outs,zdd F F' outs)\/(x.kind=4/\F'=zg9 F (x.id-1).toNat x.ok)\/(x.kind=5/\F'=zAt F (x.id-1).toNat)))
theorem zJp{F F1 F2:Fm}{x:Ev}(h:Did F x F1)(g:Did F x F2):F1=F2:=by
 rcases h with⟨h,rfl⟩|⟨h,h'⟩<;>rcases g with⟨g,rfl⟩|⟨g,g'⟩
 ·rfl
 ·exact absurd g h
 ·exact absurd h g
 ·rcases h' with⟨a,rfl⟩|⟨a,rfl⟩|⟨a,o,h'⟩|⟨a,rfl⟩|⟨a,rfl⟩<;>rcases g' with⟨b,rfl⟩|⟨b,rfl⟩|⟨b,o2,g'⟩|⟨b,rfl⟩|⟨b,rfl⟩<;>first|rfl|omega|exact(zkO h' g').1
def DoE(F:Fm)(x:Ev)(e:Int):Prop:=∃e0,zID x e0/\((e0≠0/\e=e0)\/(e0=0 /\
 ((x.kind=1/\zIK F x.job e)\/(x.kind=2/\((e=0/\(0<=x.n/\x.n<=1000000000/\F.now+x.n<=1099511627776))\/(e=4/\¬(0<=x.n/\x.n<=1000000000/\F.now+x.n<=1099511627776))))\/(x.kind=3/\e=0) \/
  (x.kind=4/\(((inJ F x.id/\(zad F (x.id-1).toNat).what=2)/\e=0)\/(¬(inJ F x.id/\(zad F (x.id-1).toNat).what=2)/\ztW F x.id e))) \/
  (x.kind=5/\(((inJ F x.id/\((zad F (x.id-1).toNat).what=1\/(zad F (x.id-1).toNat).what=2))/\e=0)\/(¬(inJ F x.id/\((zad F (x.id-1).toNat).what=1\/(zad F (x.id-1).toNat).what=2))/\ztW F x.id e))))))
section
variable {O:Nat->Prop} {B fb:Nat} {w:World} {P:Pl} {F:Fm}
theorem Do_k(x:FXO O B w fb P F)(hp:Pre F)(hh:zj9 F.hosts)(y:Ev)(pa:Option Addr)(ca:Nat)(pf:Option Addr)(cf:Nat)(hJ:IsJ w y.job pa ca pf)(hW:WfJ y.job)(hB:B<=w.heap.size) :
  FnP Tryz.prog zcx #[.pointer (ptr fb),evv y pa ca pf cf] w fun v w'=>∃(e:Int) (P':Pl) (F':Fm),v=.int .i64 e/\((e=0↔can F y)/\DoE F y e)/\Did F y F'/\FXO O B w' fb P' F'/\Fr (ft fb P.jp) w w'/\zGj w fb P.jp P'.jp:=by
 have gsame:∀{jp},jp=P.jp->zGj w fb P.jp jp:=fun h=>by subst h;exact fun b hb=>.inl hb
 refine zpQ (ptr fb) y.kind y.job.user y.job.prio y.job.nd.c y.job.nd.m y.job.nd.g y.job.ask.k y.job.ask.key y.job.ask.val y.job.ask.n pa y.job.ask.xs.length ca pf y.job.aft.length cf y.n y.id y.ok w _ fun b0 hb0 w1 h1=>(zHV y pa ca pf cf w1 (hJ.ext h1) hW).mono fun v w2 ⟨e2,e0,hv,he⟩=>⟨e2,e0,hv,fun hne w4 h4=>?_,fun hz=>?_⟩
 ·have hno:¬can F y:=fun h=>hne (he.ok.2 h.1)
  exact⟨e0,P,F,rfl,⟨⟨fun h=>absurd h hne,fun h=>absurd h hno⟩,e0,he,.inl ⟨hne,rfl⟩⟩,.inl ⟨hno,rfl⟩,x.ext h4,zac h4,fun b hb=>.inl hb⟩
 have hE:=he.ok.1 hz
 have kp:∀{w4 w5:World},zag [] [b0] w w4->Fr (ft fb P.jp) w4 w5->zbK [b0] w4 w5:=fun x4 f=>f.kept fun b hb=>by
  simp at hb;subst hb
  refine⟨x4.lt b (by simp),fun hf=>?_⟩
  have:=(x.foot hf).2
  omega
 have kE:∀{w4 w5:World},zag [] [b0] w w4->Ext w4 w5->zbK [b0] w4 w5:=fun x4 f=>kp x4 (zac f)
 have hk:=zlG hE
 refine⟨fun h1 w4 x4=>?_,fun h1=>⟨fun h2 w4 x4=>?_,fun h2=>⟨fun h3 w4 x4=>?_,fun h3=>⟨fun h4 w4 x4=>?_,fun h4 w4 x4=>?_⟩⟩⟩⟩
 ·have h4:=zaa x4
  refine(zz0 (x.ext h4) y.job pa ca pf cf (hJ.ext h4) hW (Nat.le_trans hB h4.size)).mono fun v w5 ⟨id,e,hv,⟨hiff,hS⟩,hc⟩=>?_
  have hcan:e=0↔can F y:=hiff.trans ⟨fun h=>⟨hE,fun _=>h,fun h=>by omega,fun h=>by omega,fun h=>by omega⟩,fun h=>h.2.1 h1⟩
  have hD:DoE F y e:=⟨e0,he,.inr ⟨hz,.inl ⟨h1,hS⟩⟩⟩
  rcases hc with⟨hne,e5⟩|⟨hz,_,P',x5,f5,g5⟩
  ·exact⟨kE x4 e5,id,e,hv,fun w8 h8=>⟨e,P,F,rfl,⟨hcan,hD⟩,.inl ⟨fun h=>hne (hcan.2 h),rfl⟩,x.ext ((h4.trans e5).trans h8),zac ((h4.trans e5).trans h8),fun b hb=>.inl hb⟩⟩
  ·exact⟨kp x4 f5,id,e,hv,fun w8 h8=>⟨e,P',_,rfl,⟨hcan,hD⟩,.inr ⟨hcan.1 hz,.inl ⟨h1,rfl⟩⟩,x5.ext h8,((zac h4).tr f5).tr (zac h8),fun b hb=>(g5 b hb).imp (fun h=>h) fun h=>Nat.le_trans h4.size h⟩⟩
 ·have h4:=zaa x4
  refine(zIv (x.ext h4) hp.now y.n).mono fun v w5 ⟨e,hv,hc,hiff⟩=>?_
  have hcan:e=0↔can F y:=hiff.trans ⟨fun h=>⟨hE,fun h=>by omega,fun _=>h,fun h=>by omega,fun h=>by omega⟩,fun h=>h.2.2.1 h2⟩
  rcases hc with⟨hne,he4,e5⟩|⟨hz0,_,x5,f5⟩
  ·exact⟨kE x4 e5,e,hv,fun w8 h8=>⟨e,P,F,rfl,⟨hcan,e0,he,.inr ⟨hz,.inr (.inl ⟨h2,.inr ⟨he4,fun h=>hne (hiff.2 h)⟩⟩)⟩⟩,.inl ⟨fun h=>hne (hcan.2 h),rfl⟩,x.ext ((h4.trans e5).trans h8),zac ((h4.trans e5).trans h8),fun b hb=>.inl hb⟩⟩
  ·exact⟨kp x4 f5,e,hv,fun w8 h8=>⟨e,P,_,rfl,⟨hcan,e0,he,.inr ⟨hz,.inr (.inl ⟨h2,.inl ⟨hz0,hiff.1 hz0⟩⟩)⟩⟩,.inr ⟨hcan.1 hz0,.inr (.inl ⟨h2,rfl⟩)⟩,x5.ext h8,((zac h4).tr f5).tr (zac h8),fun b hb=>.inl hb⟩⟩
 ·have h4:=zaa x4
  refine(zDR (x.ext h4) hp.aft hh).mono fun v w5 ⟨G,outs,out,outc,P',hv,hpl,_,_,hP,x5,f5,_⟩=>?_
  have hcan:(0:Int)=0↔can F y:=⟨fun _=>⟨hE,fun h=>by omega,fun h=>by omega,fun h=>by omega,fun h=>by omega⟩,fun _=>rfl⟩
  exact⟨kp x4 f5,out,_,outc,0,hv,fun w8 h8=>⟨0,P',G,rfl,⟨hcan,e0,he,.inr ⟨hz,.inr (.inr (.inl ⟨h3,rfl⟩))⟩⟩,.inr ⟨hcan.1 rfl,.inr (.inr (.inl ⟨h3,outs,hpl⟩))⟩,x5.ext h8,((zac h4).tr f5).tr (zac h8),gsame hP⟩⟩
 ·have h4':=zaa x4
  refine(zts (x.ext h4') hp y.id (by unfold okE at hE;exact i64 (by omega)) y.ok).mono fun v w5 ⟨e,hv,hiff,hc⟩=>?_
  have hcan:e=0↔can F y:=hiff.trans ⟨fun h=>⟨hE,fun h=>by omega,fun h=>by omega,fun _=>h,fun h=>by omega⟩,fun h=>h.2.2.2.1 h4⟩
  rcases hc with⟨hne,hR,e5⟩|⟨hz0,P',hP,x5,f5⟩
  ·exact⟨kE x4 e5,e,hv,fun w8 h8=>⟨e,P,F,rfl,⟨hcan,e0,he,.inr ⟨hz,.inr (.inr (.inr (.inl ⟨h4,.inr ⟨fun h=>hne (hiff.2 h),hR⟩⟩)))⟩⟩,.inl ⟨fun h=>hne (hcan.2 h),rfl⟩,x.ext ((h4'.trans e5).trans h8),zac ((h4'.trans e5).trans h8),fun b hb=>.inl hb⟩⟩
  ·exact⟨kp x4 f5,e,hv,fun w8 h8=>⟨e,P',_,rfl,⟨hcan,e0,he,.inr ⟨hz,.inr (.inr (.inr (.inl ⟨h4,.inl ⟨hiff.1 hz0,hz0⟩⟩)))⟩⟩,.inr ⟨hcan.1 hz0,.inr (.inr (.inr (.inl ⟨h4,rfl⟩)))⟩,x5.ext h8,((zac h4').tr f5).tr (zac h8),gsame hP⟩⟩
 ·have h5:y.kind=5:=by omega
  have h4':=zaa x4
  refine(zyV (x.ext h4') hp y.id (by unfold okE at hE;exact i64 (by omega))).mono fun v w5 ⟨e,hv,hiff,hc⟩=>?_
  have hcan:e=0↔can F y:=hiff.trans ⟨fun h=>⟨hE,fun h=>by omega,fun h=>by omega,fun h=>by omega,fun _=>h⟩,fun h=>h.2.2.2.2 h5⟩
  rcases hc with⟨hne,hR,e5⟩|⟨hz0,P',hP,x5,f5⟩
  ·exact⟨kE x4 e5,e,hv,fun w8 h8=>⟨e,P,F,rfl,⟨hcan,e0,he,.inr ⟨hz,.inr (.inr (.inr (.inr ⟨h5,.inr ⟨fun h=>hne (hiff.2 h),hR⟩⟩)))⟩⟩,.inl ⟨fun h=>hne (hcan.2 h),rfl⟩,x.ext ((h4'.trans e5).trans h8),zac ((h4'.trans e5).trans h8),fun b hb=>.inl hb⟩⟩
  ·exact⟨kp x4 f5,e,hv,fun w8 h8=>⟨e,P',_,rfl,⟨hcan,e0,he,.inr ⟨hz,.inr (.inr (.inr (.inr ⟨h5,.inl ⟨hiff.1 hz0,hz0⟩⟩)))⟩⟩,.inr ⟨hcan.1 hz0,.inr (.inr (.inr (.inr ⟨h5,rfl⟩)))⟩,x5.ext h8,((zac h4').tr f5).tr (zac h8),gsame hP⟩⟩
end
theorem zGE(a b:Nd)(p:Nat):zcg (zwu a b) p=zcg a p+zcg b p:=by unfold zcg zwu;split<;>rfl
theorem zGG(a b:Nd)(p:Nat):zcg (zit a b) p=zcg a p-zcg b p:=by unfold zcg zit;split<;>rfl
theorem zJP{a b:Nd}:zj4 a b↔∀p,p<3->zcg a p<=zcg b p:=by
 constructor
 ·rintro⟨h1,h2,h3⟩ i hi
  match i,hi with
  |0,_ => exact h1
  |1,_ => exact h2
  |2,_ => exact h3
 ·intro h
  exact⟨h 0 (by omega),h 1 (by omega),h 2 (by omega)⟩
def zeq(s:St)(i:Int)(p:Nat):Int:=if s.what=2/\s.host=i then zcg s.job.nd p else 0
def use(F:Fm)(i:Int)(p:Nat):Nat->Int
 |0 => 0
 |n+1 => use F i p n+zeq (zad F n) i p
theorem zz1{s:St}(h:okN s.job.nd)(i:Int){p:Nat}(hp:p<3):0<=zeq s i p:=by
 unfold zeq
 split
 ·exact(zpH.1 h p hp).1
 ·omega
theorem zIy{F:Fm}(h:∀k,k<F.jobs.length->okN (zad F k).job.nd)(i:Int){p:Nat}(hp:p<3):∀{n:Nat},n<=F.jobs.length->0<=use F i p n
 |0,_ => by simp[use]
 |n+1,hn => by
  have:=zIy h i hp (n:=n) (by omega)
  have:=zz1 (h n (by omega)) i hp
  unfold use;omega
theorem zIx{F:Fm}(h:∀k,k<F.jobs.length->okN (zad F k).job.nd)(i:Int){p:Nat}(hp:p<3){k:Nat}:∀{n:Nat},n<=F.jobs.length->k<n->zeq (zad F k) i p<=use F i p n
 |0,_,hk => by omega
 |n+1,hn,hk => by
  unfold use
  by_cases hkn:k=n
  ·subst hkn
   have:=zIy h i hp (n:=k) (by omega)
   omega
  ·have:=zIx h i hp (n:=n) (by omega) (by omega:k<n)
   have:=zz1 (h n (by omega)) i hp
   omega
structure zlb(F G:Fm)(k:Nat)(s:St):Prop where
 len:G.jobs.length=F.jobs.length
 pol:G.pol=F.pol
 now:G.now=F.now
 hlen:G.hosts.length=F.hosts.length
 at_:∀i,zad G i=if i=k then s else zad F i
 job:s.job=(zad F k).job
theorem zlb.self{F G:Fm}{k:Nat}{s:St}(t:zlb F G k s):zad G k=s:=by rw[t.at_,if_pos rfl]
theorem zlb.other{F G:Fm}{k:Nat}{s:St}(t:zlb F G k s){i:Nat}(h:i≠k):zad G i=zad F i:=by rw[t.at_,if_neg h]
theorem zlb.jobs{F G:Fm}{k:Nat}{s:St}(t:zlb F G k s)(i:Nat):(zad G i).job=(zad F i).job:=by
 rw[t.at_]
 split
 ·rename_i h;rw[h];exact t.job
 ·rfl
theorem zAd{F G:Fm}{k:Nat}{s:St}(t:zlb F G k s)(i:Int)(p:Nat):∀n,use G i p n=use F i p n+(if k<n then zeq s i p-zeq (zad F k) i p else 0)
 |0 => by simp[use]
 |n+1 => by
  unfold use
  rw[zAd t i p n,t.at_ n]
  by_cases h1:n=k
  ·subst h1
   rw[if_pos rfl,if_neg (by omega),if_pos (by omega)];omega
  ·rw[if_neg h1]
   by_cases h2:k<n
   ·rw[if_pos h2,if_pos (by omega)];omega
   ·rw[if_neg h2,if_neg (by omega)];omega
def zer(p:Pol)(s:St):Prop:=0<=s.tries/\s.tries<=p.tries+1/\(s.what=4->s.tries=p.tries+1)/\(s.what=1\/s.what=2->s.tries<=p.tries)/\(s.what=1->0<s.tries->zlh p s.tries<=s.again)
def aftJ(F:Fm):Prop:=∀k,k<F.jobs.length->∀y∈(zad F k).job.aft,1<=y/\y<=k
theorem zBX{F:Fm}:zlc F↔aftJ F:=by
 constructor
 ·intro h k hk y hy
  exact h k _ (zAO hk) y hy
 ·intro h i s hs y hy
  have hi:i<F.jobs.length:=(List.getElem?_eq_some_iff.1 hs).1
  rw[<-zhL hs] at hy
  exact h i hi y hy
structure zyD(F:Fm):Prop where
 aft:aftJ F
 pol:zmT F.pol
 now:0<=F.now/\F.now<=1099511627776
 hs:zj9 F.hosts
 nd:∀k,k<F.jobs.length->okN (zad F k).job.nd
 hrun:∀k,k<F.jobs.length->(zad F k).what=2->0<=(zad F k).host/\(zad F k).host<F.hosts.length
 use:∀i:Nat,i<F.hosts.length->∀p,p<3->zcg (F.hosts.getD i default).used p=use F i p F.jobs.length
 ahead:∀k,k<F.jobs.length->(zad F k).what=2\/(zad F k).what=3->∀y∈(zad F k).job.aft,za0 F y=3
 tries:∀k,k<F.jobs.length->zer F.pol (zad F k)
def zEH(F:Fm)(n:Nat):Prop:=∀k,k<n->(zad F k).what=1->∀y∈(zad F k).job.aft,za0 F y≠4/\za0 F y≠5
structure Inv(F:Fm):Prop where
 i0:zyD F
 wt:zEH F F.jobs.length
theorem zyD.lv{F:Fm}(I:zyD F){k:Nat}(hk:k<F.jobs.length)(hw:(zad F k).what=2):LvOk F k:=by
 obtain⟨h0,h1⟩:=I.hrun k hk hw
 refine⟨I.hs,h0,h1,zJP.2 fun p hp=>?_⟩
 rw[I.use _ (by omega) p hp]
 have:=zIx I.nd (((zad F k).host.toNat:Nat):Int) hp (k:=k) (n:=F.jobs.length) (Nat.le_refl _) hk
 unfold zeq at this
 rw[if_pos ⟨hw,by omega⟩] at this
 exact this
theorem zyD.pre{F:Fm}(I:zyD F):Pre F:=⟨zBX.2 I.aft,I.pol,I.now,fun k hk hw=>I.lv hk hw,fun k hk=>by
 have h:=I.tries k hk
 have hp:=I.pol
 unfold zer at h
 unfold zmT okP at hp
 omega⟩
theorem zbN(F:Fm)(y:Int):za0 F y=(zad F (y-1).toNat).what:=rfl
theorem zlv{F G:Fm}{k:Nat}{s:St}(I:zyD F)(t:zlb F G k s)(hk:k<F.jobs.length)(hhs:zj9 G.hosts)(hrun:s.what=2->0<=s.host/\s.host<F.hosts.length)
  (huse:∀i:Nat,i<F.hosts.length->∀p,p<3->zcg (G.hosts.getD i default).used p=zcg (F.hosts.getD i default).used p+(zeq s i p-zeq (zad F k) i p))
  (ha:s.what=2\/s.what=3->∀y∈s.job.aft,za0 F y=3) (hb:(zad F k).what=3->s.what=3) (ht:zer F.pol s):zyD G:=by
 have haft:aftJ G:=fun i hi y hy=>by
  rw[t.jobs] at hy
  rw[t.len] at hi
  exact I.aft i hi y hy
 refine⟨haft,by rw[t.pol];exact I.pol,by rw[t.now];exact I.now,hhs,fun i hi=>by rw[t.jobs];exact I.nd i (by rw[t.len] at hi;exact hi),fun i hi hw=>?_,fun i hi p hp=>?_,fun i hi hw y hy=>?_,fun i hi=>?_⟩
 ·rw[t.hlen]
  rw[t.len] at hi
  rw[t.at_] at hw ⊢
  split at hw
  ·rename_i h;rw[if_pos h];exact hrun hw
  ·rename_i h;rw[if_neg h];exact I.hrun i hi hw
 ·rw[t.hlen] at hi
  rw[huse i hi p hp,I.use i hi p hp,t.len,zAd t,if_pos hk]
 ·rw[t.len] at hi
  have hy':=hy
  rw[t.jobs] at hy'
  have hle:=I.aft i hi y hy'
  rw[zbN,t.at_]
  by_cases hik:i=k
  ·subst hik
   rw[if_neg (by omega),<-zbN]
   rw[t.self] at hw hy
   exact ha hw y hy
  ·rw[t.other hik] at hw
   have h3:=I.ahead i hi hw y hy'
   split
   ·rename_i h
    rw[zbN,h] at h3
    exact hb h3
   ·exact h3
 ·rw[t.len] at hi
  rw[t.pol,t.at_]
  split
  ·exact ht
  ·exact I.tries i hi
theorem zlb.st(F:Fm){k m:Nat}(v:Int)(hk:k<F.jobs.length):zlb F (stF F k m v) k (zjj m v (zad F k)):=⟨zbI F k m v,rfl,rfl,rfl,fun i=>zjY F v hk i,zlZ m v _⟩
theorem zFu{F:Fm}{s:St}:zK7 F s=true↔∃y∈s.job.aft,za0 F y=4\/za0 F y=5:=by
 unfold zK7
 rw[List.any_eq_true]
 simp[Bool.or_eq_true]
theorem zDi{F:Fm}(I:zyD F){n:Nat}(hn:n<F.jobs.length)(hw:zEH F n):zyD (zbS F n)/\zEH (zbS F n) (n+1):=by
 unfold zbS
 split
 ·rename_i h
  have t:=zlb.st F (m:=11) 5 hn
  have h5:(zjj 11 5 (zad F n)).what=5:=rfl
  refine⟨zlv I t hn I.hs (fun h2=>by rw[h5] at h2;omega) (fun i hi p hp=>?_) (fun h2=>by rw[h5] at h2;omega) (fun h3=>by rw[h.1] at h3;omega) ?_,fun k hk h1 y hy=>?_⟩
  ·have e1:zeq (zjj 11 5 (zad F n)) i p=0:=by unfold zeq;rw[if_neg (fun h=>by rw[h5] at h;omega)]
   have e2:zeq (zad F n) i p=0:=by unfold zeq;rw[if_neg (fun g=>by rw[h.1] at g;omega)]
   rw[e1,e2,zjN];omega
  ·have:=I.tries n hn
   unfold zer at this ⊢
   simp only[zjj]
   omega
  ·rw[t.at_] at h1
   rw[t.jobs] at hy
   split at h1
   ·rw[h5] at h1;omega
   ·rename_i hkn
    have hle:=I.aft k (by omega) y hy
    have:=hw k (by omega) h1 y hy
    rw[zbN,t.other (by omega),<-zbN]
    exact this
 ·rename_i h
  refine⟨I,fun k hk h1 y hy=>?_⟩
  by_cases hkn:k=n
  ·subst hkn
   have:zK7 F (zad F k)≠true:=fun hb=>h ⟨h1,hb⟩
   rw[Ne,zFu] at this
   exact⟨fun h=>this ⟨y,hy,.inl h⟩,fun h=>this ⟨y,hy,.inr h⟩⟩
  ·exact hw k (by omega) h1 y hy
theorem zzz{F:Fm}(I:zyD F):Inv (zmM F):=by
 have h:∀n,n<=F.jobs.length->zyD (lostTo F n)/\zEH (lostTo F n) n:=by
  intro n
  induction n with
  |zero => intro _;exact⟨I,fun k hk => by omega⟩
  |succ n ih =>
   intro hn
   obtain⟨a,b⟩:=ih (by omega)
   exact zDi a (by rw[zg2];omega) b
 obtain⟨a,b⟩:=h _ (Nat.le_refl _)
 refine⟨a,?_⟩
 unfold zmM
 rw[zg2]
 exact b
theorem zGh{F:Fm}{k:Nat}(i:Nat)(p:Nat)(h0:0<=(zad F k).host)(h1:(zad F k).host<F.hosts.length)(hw:(zad F k).what=2):zcg ((zkA F k).hosts.getD i default).used p=zcg (F.hosts.getD i default).used p-zeq (zad F k) i p:=by
 unfold zkA zeq
 by_cases hi:(zad F k).host.toNat=i
 ·rw[if_pos ⟨hw,by omega⟩]
  subst hi
  simp only[List.getD_eq_getElem?_getD,List.getElem?_set_self (show(zad F k).host.toNat<F.hosts.length by omega)]
  simp only[Option.getD_some,zfX]
  rw[zGG]
 ·rw[if_neg (fun h=>by omega)]
  simp only[List.getD_eq_getElem?_getD,List.getElem?_set_ne hi]
  omega
theorem zJV{F:Fm}(I:zyD F){k:Nat}(hk:k<F.jobs.length)(hw:(zad F k).what=2):zj9 (zkA F k).hosts:=by
 obtain⟨_,h0,h1,hf⟩:=I.lv hk hw
 have hm:=zaq F.hosts default (i:=(zad F k).host.toNat) (by omega)
 obtain⟨_,_,_,c,d,e⟩:=I.hs.2.1 _ hm
 have hn:=I.nd k hk
 refine zvb I.hs (by omega) ?_ ?_
 ·unfold okN zj4 zit at *;simp only;omega
 ·unfold okN zj4 zit at *;simp only;omega
theorem zlu{F G:Fm}{k:Nat}{s:St}(I:zyD F)(hk:k<F.jobs.length)(hw:(zad F k).what=2)(t:zlb F G k s)(hG:G.hosts=(zkA F k).hosts)(hs:s.what≠2)(ht:zer F.pol s):zyD G:=by
 obtain⟨h0,h1⟩:=I.hrun k hk hw
 refine zlv I t hk (by rw[hG];exact zJV I hk hw) (fun h=>absurd h hs) (fun i hi p hp=>?_) (fun h y hy=>?_) (fun h=>by omega) ht
 ·rw[hG,zGh i p h0 h1 hw]
  have:zeq s i p=0:=by unfold zeq;rw[if_neg (fun h=>hs h.1)]
  rw[this];omega
 ·rw[t.job] at hy
  exact I.ahead k hk (.inl hw) y hy
theorem zno{F G:Fm}{k:Nat}{s:St}(I:Inv F)(t:zlb F G k s)(hk:k<F.jobs.length)(hs:s.what≠4/\s.what≠5)(h1:s.what=1->∀y∈s.job.aft,za0 F y≠4/\za0 F y≠5):zEH G G.jobs.length:=fun i hi hw y hy=>by
 rw[t.len] at hi
 have hy':=hy
 rw[t.jobs] at hy'
 have hle:=I.i0.aft i hi y hy'
 rw[zbN,t.at_]
 split
 ·exact hs
 ·rw[<-zbN]
  by_cases hik:i=k
  ·subst hik
   rw[t.self] at hw hy
   exact h1 hw y hy
  ·rw[t.other hik] at hw
   exact I.wt i hi hw y hy'
theorem zlb.left{F:Fm}{k:Nat}(hk:k<F.jobs.length):zlb F (zdA F k) k { zad F k with host:=0,since:=0 }:=⟨zca F k,rfl,rfl,by unfold zdA;rw[zjN,zjN];unfold zkA;simp,fun i=>zjH hk i,rfl⟩
theorem zlb.then_{F G:Fm}{k:Nat}{s:St}(t:zlb F G k s)(hk:k<F.jobs.length)(m:Nat)(v:Int):zlb F (stF G k m v) k (zjj m v s):=by
 have u:=zlb.st G (m:=m) v (by rw[t.len];exact hk)
 refine⟨u.len.trans t.len,u.pol.trans t.pol,u.now.trans t.now,u.hlen.trans t.hlen,fun i=>?_,(zlZ m v s).trans t.job⟩
 rw[u.at_]
 split
 ·rw[t.self]
 ·rename_i h;rw[t.other h]
theorem ztr{F:Fm}(I:Inv F){k:Nat}(hk:k<F.jobs.length)(hw:(zad F k).what=2)(ok:Bool):Inv (zg9 F k ok):=by
 have ht:=I.i0.tries k hk
 have hp:=I.i0.pol
 have tl:=zlb.left hk
 have h3:=I.i0.ahead k hk (.inl hw)
 have hn:=I.i0.now
 unfold zg9
 split
 ·have t:=tl.then_ hk 11 3
  refine⟨zlu I.i0 hk hw t rfl (by simp[zjj]) ?_,zno I t hk (by simp[zjj]) (by simp[zjj])⟩
  unfold zer at ht ⊢
  simp only[zjj]
  omega
 have tt:zlb F (zcS F k) k _:=tl.then_ hk 15 ((zad F k).tries+1)
 split
 ·rename_i hle
  have t:=(tt.then_ hk 11 1).then_ hk 14 (F.now+zlh F.pol ((zad F k).tries+1))
  refine⟨zlu I.i0 hk hw t rfl (by simp[zjj]) ?_,zno I t hk (by simp[zjj]) (fun _ y hy=>?_)⟩
  ·unfold zer at ht ⊢
   simp only[zjj]
   refine⟨by omega,by omega,by omega,by omega,fun _ _=>by omega⟩
  ·have:=h3 y hy
   omega
 ·rename_i hgt
  have t:=tt.then_ hk 11 4
  refine zzz (zlu I.i0 hk hw t rfl (by simp[zjj]) ?_)
  unfold zer at ht ⊢
  simp only[zjj]
  omega
theorem zCg{F:Fm}(I:Inv F){k:Nat}(hk:k<F.jobs.length)(hw:(zad F k).what=1\/(zad F k).what=2):Inv (zAt F k):=by
 have ht:=I.i0.tries k hk
 unfold zAt
 refine zzz ?_
 split
 ·rename_i h2
  have t:=(zlb.left hk).then_ hk 11 5
  refine zlu I.i0 hk h2 t rfl (by simp[zjj]) ?_
  unfold zer at ht ⊢
  simp only[zjj]
  omega
 ·rename_i h2
  have h1:(zad F k).what=1:=by omega
  have t:=zlb.st F (m:=11) 5 hk
  refine zlv I.i0 t hk I.i0.hs (by simp[zjj]) (fun i hi p hp=>?_) (by simp[zjj]) (fun h=>by omega) ?_
  ·have e1:zeq (zjj 11 5 (zad F k)) i p=0:=by unfold zeq;rw[if_neg (by simp[zjj])]
   have e2:zeq (zad F k) i p=0:=by unfold zeq;rw[if_neg (by omega)]
   rw[e1,e2,zjN];omega
  ·unfold zer at ht ⊢
   simp only[zjj]
   omega
theorem zsd{F:Fm}{j:Jb}(i:Nat):zad (zqc F j) i=if i<F.jobs.length then zad F i else if i=F.jobs.length then zsZ j else default:=by
 unfold zad zqc
 simp only[List.getD_eq_getElem?_getD]
 split
 ·rename_i h;rw[List.getElem?_append_left h]
 ·rename_i h
  rw[List.getElem?_append_right (by omega)]
  split
  ·rename_i h2;rw[h2];simp
  ·rename_i h2
   rw[List.getElem?_eq_none (by simp;omega)];rfl
theorem zqd(F:Fm)(j:Jb):(zqc F j).jobs.length=F.jobs.length+1:=by simp[zqc]
theorem zEG{F:Fm}{j:Jb}(i:Int)(p:Nat):∀n,n<=F.jobs.length->use (zqc F j) i p n=use F i p n
 |0,_ => rfl
 |n+1,h => by
  unfold use
  rw[zEG i p n (by omega),zsd,if_pos (by omega)]
theorem upA_ge{l:List Int}(h:upA 0 l):∀x∈l,1<=x:=fun x hx=>(zgH h x hx).1
theorem ztz{F:Fm}{j:Jb}(I:Inv F)(h:zvc F j):Inv (zqc F j):=by
 have hup:∀x∈j.aft,1<=x:=upA_ge h.1.up
 have wh:∀y:Int,1<=y->y<=F.jobs.length->za0 (zqc F j) y=za0 F y:=fun y h1 h2=>by rw[zbN,zsd,if_pos (by omega),<-zbN]
 have cs:∀{k},k<(zqc F j).jobs.length->k<F.jobs.length/\zad (zqc F j) k=zad F k\/k=F.jobs.length/\zad (zqc F j) k=zsZ j:=fun {k} hk=>by
  rw[zqd] at hk
  rw[zsd]
  by_cases h:k<F.jobs.length
  ·exact .inl ⟨h,if_pos h⟩
  ·exact .inr ⟨by omega,by rw[if_neg h,if_pos (by omega)]⟩
 refine⟨⟨fun k hk y hy=>?_,I.i0.pol,I.i0.now,I.i0.hs,fun k hk=>?_,fun k hk hw=>?_,fun i hi p hp=>?_,fun k hk hw y hy=>?_,fun k hk=>?_⟩,fun k hk hw y hy=>?_⟩
 ·rcases cs hk with⟨hk,e⟩|⟨hk,e⟩<;>rw[e] at hy
  ·exact I.i0.aft k hk y hy
  ·have:=(h.2.2 y hy).1
   exact⟨hup y hy,by omega⟩
 ·rcases cs hk with⟨hk,e⟩|⟨hk,e⟩<;>rw[e]
  ·exact I.i0.nd k hk
  ·exact h.1.nd
 ·rcases cs hk with⟨hk,e⟩|⟨hk,e⟩<;>rw[e] at hw ⊢
  ·exact I.i0.hrun k hk hw
  ·simp[zsZ] at hw
 ·rw[zqd]
  unfold use
  rw[zEG _ _ _ (Nat.le_refl _),zsd,if_neg (by omega),if_pos rfl]
  have:zeq (zsZ j) i p=0:=by unfold zeq;rw[if_neg (by simp[zsZ])]
  rw[this]
  have:=I.i0.use i hi p hp
  show zcg (F.hosts.getD i default).used p=_
  omega
 ·rcases cs hk with⟨hk,e⟩|⟨hk,e⟩<;>rw[e] at hw hy
  ·have:=I.i0.aft k hk y hy
   rw[wh y this.1 (by omega)]
   exact I.i0.ahead k hk hw y hy
  ·simp[zsZ] at hw
 ·rcases cs hk with⟨hk,e⟩|⟨hk,e⟩<;>rw[e]
  ·exact I.i0.tries k hk
  ·have hp:=I.i0.pol
   unfold zmT okP at hp
   show zer F.pol (zsZ j)
   unfold zer zsZ
   simp only
   omega
 ·rcases cs hk with⟨hk,e⟩|⟨hk,e⟩<;>rw[e] at hw hy
  ·have:=I.i0.aft k hk y hy
   rw[wh y this.1 (by omega)]
   exact I.wt k hk hw y hy
  ·have h1:=h.2.2 y hy
   rw[wh y (hup y hy) h1.1]
   exact h1.2
theorem zdY{F:Fm}{s:St}:zdC F s=true↔s.what=1/\s.again<=F.now/\∀y∈s.job.aft,za0 F y=3:=by
 unfold zdC
 simp[Bool.and_eq_true,List.all_eq_true,and_assoc]
theorem zlb.run{F:Fm}{k0:Nat}{k:Int}(hk:k0<F.jobs.length):zlb F (zfP F k0 k) k0 { zad F k0 with what:=2,host:=k,since:=F.now }:=⟨zji F k0 k,rfl,rfl,by show(zkU F k0 k).hosts.length=_;unfold zkU;simp,fun i=>zvO hk k i,rfl⟩
theorem zlW(F:Fm)(k0:Nat)(k:Int):(zfP F k0 k).hosts=(zkU F k0 k).hosts:=rfl
theorem zud{L:List Ht}{t:AT}{a:Nd}{k:Int}(h:zf1 L t a k):0<=k/\k<L.length/\zj4 a (zit (L.getD k.toNat default).has (L.getD k.toNat default).used):=by
 obtain⟨h0,h1,h2⟩:=zoy.1 h.1
 unfold zGb at h2
 rw[Bool.and_eq_true,decide_eq_true_iff] at h2
 exact⟨h0,h1,h2.2⟩
theorem zHq{F:Fm}{k0:Nat}{k:Int}(i:Nat)(p:Nat)(h0:0<=k)(h1:k<F.hosts.length):zcg ((zkU F k0 k).hosts.getD i default).used p=zcg (F.hosts.getD i default).used p+(if k=i then zcg (zad F k0).job.nd p else 0):=by
 unfold zkU zpq
 by_cases hi:k.toNat=i
 ·rw[if_pos (by omega)]
  subst hi
  simp only[List.getD_eq_getElem?_getD,List.getElem?_set_self (show k.toNat<F.hosts.length by omega)]
  simp only[Option.getD_some,zfX]
  rw[zGE]
 ·rw[if_neg (fun h=>by omega)]
  simp only[List.getD_eq_getElem?_getD,List.getElem?_set_ne hi]
  omega
theorem zx3{F:Fm}(I:Inv F){k0:Nat}(hk:k0<F.jobs.length)(hr:zdC F (zad F k0)=true){k:Int}(hb:zf1 F.hosts (zad F k0).job.ask (zad F k0).job.nd k):Inv (zfP F k0 k):=by
 obtain⟨h0,h1,hf⟩:=zud hb
 obtain⟨r1,r2,r3⟩:=zdY.1 hr
 have t:=zlb.run (k:=k) hk
 have ht:=I.i0.tries k0 hk
 refine⟨zlv I.i0 t hk (by rw[zlW];exact zva I.i0.hs h0 h1 (I.i0.nd k0 hk) hf) (fun _=>⟨h0,h1⟩) (fun i hi p hp=>?_) (fun _ y hy=>r3 y hy) (fun h=>by omega) ?_,zno I t hk (by simp) (by simp)⟩
 ·rw[zlW,zHq i p h0 h1]
  have e2:zeq (zad F k0) i p=0:=by unfold zeq;rw[if_neg (by omega)]
  rw[e2]
  unfold zeq
  simp only[true_and]
  omega
 ·unfold zer at ht ⊢
  simp only
  omega
theorem zqw.ind{Mot:Fm->Prop}(step:∀F id k,inJ F id->zdC F (zad F (id-1).toNat)=true->zf1 F.hosts (zad F (id-1).toNat).job.ask (zad F (id-1).toNat).job.nd k->Mot F->Mot (zfP F (id-1).toNat k)) :
  ∀{F G:Fm} {ids:List Int} {outs:List (Int×Int)},zqw F ids G outs->ids.Nodup->(∀id∈ids,inJ F id/\zdC F (zad F (id-1).toNat)=true)->Mot F->Mot G:=by
 intro F G ids outs h
 induction h with
 |nil F => intro _ _ m;exact m
 |skip h1 _ ih =>
  intro hn hr m
  exact ih (List.nodup_cons.1 hn).2 (fun id h=>hr id (List.mem_cons_of_mem _ h)) m
 |@run F F' id k ids out h1 _ ih =>
  intro hn hr m
  obtain⟨hin,hrd⟩:=hr id (List.mem_cons_self ..)
  have hk:(id-1).toNat<F.jobs.length:=by have:=hin.1;have:=hin.2;omega
  have t:=zlb.run (k:=k) hk
  refine ih (List.nodup_cons.1 hn).2 (fun id' h=>?_) (step F id k hin hrd h1 m)
  obtain⟨hin',hrd'⟩:=hr id' (List.mem_cons_of_mem _ h)
  have hne:id'≠id:=fun h2=>(List.nodup_cons.1 hn).1 (h2▸h)
  have hk':(id'-1).toNat≠(id-1).toNat:=by have:=hin.1;have:=hin'.1;omega
  refine⟨⟨hin'.1,by rw[t.len];exact hin'.2⟩,?_⟩
  rw[t.other hk']
  rw[zdY] at hrd' hrd ⊢
  refine⟨hrd'.1,by rw[t.now];exact hrd'.2.1,fun y hy=>?_⟩
  have:=hrd'.2.2 y hy
  rw[zbN] at this ⊢
  rw[t.at_]
  split
  ·rename_i h;rw[h] at this;omega
  ·exact this
theorem zvz{F:Fm}{T:List Int}(h:zIG F T):T.Nodup:=(h.1.nodup_iff).2 (zhY F _)
theorem zpX{F:Fm}{T:List Int}(h:zIG F T):∀id∈T,inJ F id/\zdC F (zad F (id-1).toNat)=true:=fun id hi=>by
 obtain⟨a,b,c⟩:=zfC.1 (h.1.mem_iff.1 hi)
 exact⟨⟨a,b⟩,c⟩
theorem zlT{Mot:Fm->Prop}(step:∀F id k,inJ F id->zdC F (zad F (id-1).toNat)=true->zf1 F.hosts (zad F (id-1).toNat).job.ask (zad F (id-1).toNat).job.nd k->Mot F->Mot (zfP F (id-1).toNat k)){F G:Fm}{outs:List (Int×Int)}(h:zdd F G outs)(m:Mot F):Mot G:=by
 obtain⟨T,h1,h2⟩:=h
 exact h2.ind step (zvz h1) (zpX h1) m
theorem zi4{F:Fm}{id:Int}(h:inJ F id):(id-1).toNat<F.jobs.length:=by have:=h.1;have:=h.2;omega
theorem zzG{F G:Fm}{outs:List (Int×Int)}(h:zdd F G outs)(I:Inv F):Inv G :=
 zlT (fun F id k hin hr hb I=>zx3 I (zi4 hin) hr hb) h I
theorem zCu{F G:Fm}{x:Ev}(h:Did F x G)(I:Inv F):Inv G:=by
 rcases h with⟨_,rfl⟩|⟨hc,h⟩
 ·exact I
 obtain⟨hE,c1,c2,c4,c5⟩:=hc
 rcases h with⟨a,rfl⟩|⟨a,rfl⟩|⟨a,o,h⟩|⟨a,rfl⟩|⟨a,rfl⟩
 ·exact ztz I (c1 a)
 ·have h2:=c2 a
  have hn:=I.i0.now
  exact⟨⟨I.i0.aft,I.i0.pol,by show 0<=F.now+x.n/\F.now+x.n<=1099511627776;omega,I.i0.hs,I.i0.nd,I.i0.hrun,by
   intro i hi p hp
   have:=I.i0.use i hi p hp
   have e:∀n,use { F with now:=F.now+x.n } i p n=use F i p n:=fun n=>by
    induction n with
    |zero => rfl
    |succ n ih => unfold use;rw[ih];rfl
   rw[e];exact this,I.i0.ahead,I.i0.tries⟩,I.wt⟩
 ·exact zzG h I
 ·exact ztr I (zi4 (c4 a).1) (c4 a).2 x.ok
 ·exact zCg I (zi4 (c5 a).1) (c5 a).2
theorem zpF{L:List Ht}{pol:Pol}(h:zmS L pol):Inv (zio L pol):=by
 refine⟨⟨fun k hk=>(by simp[zio] at hk),h.2.2,by simp[zio],h.1,fun k hk=>(by simp[zio] at hk),fun k hk=>(by simp[zio] at hk),fun i hi p hp=>?_,fun k hk=>(by simp[zio] at hk),fun k hk=>(by simp[zio] at hk)⟩,fun k hk=>(by simp[zio] at hk)⟩
 have hm:=h.2.1 _ (zaq L default (i:=i) hi)
 show zcg (L.getD i default).used p=0
 rw[hm]
 unfold zcg za6
 split<;>rfl
def zkp(F:Fm):List Ev->Fm->Prop
 |[],G => G=F
 |x::L,G => ∃F1,Did F x F1/\zkp F1 L G
theorem zjL{x:Ev}{H:Fm}:∀{L:List Ev}{F G:Fm},zkp F L G->Did G x H->zkp F (L++[x]) H
 |[],F,G,h,d => by
  have:G=F:=h
  subst this
  exact⟨H,d,rfl⟩
 |y::L,F,G,⟨F1,h1,h2⟩,d => ⟨F1,h1,zjL h2 d⟩
theorem zDS{L:List Ev}:∀{F G1 G2:Fm},zkp F L G1->zkp F L G2->G1=G2:=by
 induction L with
 |nil => intro F G1 G2 h g;exact(show G1=F from h).trans (show G2=F from g).symm
 |cons x L ih =>
  rintro F G1 G2 ⟨F1,h1,h2⟩ ⟨F2,g1,g2⟩
  obtain rfl:=zJp h1 g1
  exact ih h2 g2
theorem zvI{Mot:Fm->Prop}(step:∀F G x,Did F x G->Mot F->Mot G):∀{L:List Ev}{F G:Fm},zkp F L G->Mot F->Mot G
 |[],F,G,h,m => by have:G=F:=h;subst this;exact m
 |x::L,F,G,⟨F1,h1,h2⟩,m => zvI step h2 (step _ _ _ h1 m)
theorem zvJ{L:List Ev}{F G:Fm}(h:zkp F L G)(I:Inv F):Inv G:=zvI (fun _ _ _ d I=>zCu d I) h I
structure zEP(n:Nat)(w:World)(p:Option Addr)(c:Nat)(R:List StR):Prop where
 own:Own n w zkq 16 p R.length c (R.flatMap zun)
 far:∀r∈R,Far n w fun w''=>IsJ w'' r.s.job r.pa r.ca r.pf
theorem zEP.st{n:Nat}{w:World}{p:Option Addr}{c:Nat}{R:List StR}(h:zEP n w p c R){k:Int}(h0:0<=k)(h1:k<R.length):∃r,R[k.toNat]?=some r/\p≠none/\pIdx p k 16≠none/\(∀(m:Nat) u,(zun r)[m]?=some u->Go.Sx.cell w (pIdx p k 16) m=some u)/\IsJ w r.s.job r.pa r.ca r.pf:=by
 obtain⟨r,hr⟩:∃r,R[k.toNat]?=some r:=⟨_,List.getElem?_eq_getElem (by omega)⟩
 have g:∀(m:Nat) u,(zun r)[m]?=some u->Go.Sx.cell w (pIdx p k 16) m=some u:=fun m u hu=>(h.own.recs fun _ _=>rfl).at h0 hr hu
 have g0:=g 0 _ rfl
 exact⟨r,hr,fun h=>zaj g0 (zah.2 h),zaj g0,g,(h.far r (List.mem_of_getElem? hr)).at⟩
theorem zCE{t:AT}(h:zmi t=0):zeO t=0:=by
 unfold zmi at h
 split at h
 ·omega
 ·exact h
section
variable {O:Nat->Prop} {B fb:Nat} {w:World} {P:Pl} {F:Fm}
theorem zt1(x:FXO O B w fb P F):FnP Tryz.prog zaA #[.pointer (ptr fb)] w fun v w'=>Ext w w'/\∃(p:Option Addr) (c:Nat) (R:List StR),v=.slice p R.length c/\R.map (·.s)=F.jobs/\zEP w.heap.size w' p c R:=by
 have ne:=zaB fb
 have hl:=x.len
 have hl0:=x.jO.1
 refine zm2 (ptr fb) w _ ⟨ne,ne,_,_,_,x.cell (i:=6) rfl,?_⟩
 rw[hl]
 refine⟨fun out outl outc k w'=>Ext w w'/\0<=k/\k<=F.jobs.length/\outl=k.toNat/\∃R:List StR,R.map (·.s)=F.jobs.take k.toNat/\Own w.heap.size w' zkq 16 out outl outc (R.flatMap zun) /\
   ∀r∈R,∀w'',Fr (fun b=>b<w.heap.size\/∃a,out=some a/\a.block=b) w' w''->IsJ w'' r.s.job r.pa r.ca r.pf,
  fun _ _ _ k _=>(F.jobs.length-k).toNat,⟨Ext.refl _,by omega,by omega,rfl,[],rfl,Own.nil,fun x hx=>(by cases hx)⟩,?_⟩
 rintro out outl outc k w6 ⟨x6,hk0,hk1,rfl,R,hR,oR,hT⟩
 have hRl:R.length=k.toNat:=by have:=congrArg List.length hR;rw[List.length_map,List.length_take] at this;omega
 refine⟨fun hlt=>?_,fun hge w7 h7=>?_⟩
 ·obtain⟨r,hr,hF,hjp,hne,g,_,hJ,hok,hwf⟩:=(x.ext x6).st hk0 hlt
  refine⟨hjp,hk0,hlt,hne,_,g 0 _ rfl,_,g 1 _ rfl,_,g 2 _ rfl,_,g 3 _ rfl,_,g 4 _ rfl,_,g 5 _ rfl,_,g 6 _ rfl,_,g 7 _ rfl,_,g 8 _ rfl,_,_,_,g 9 _ rfl,_,_,_,g 10 _ rfl,_,g 11 _ rfl,_,g 12 _ rfl,_,g 13 _ rfl,_,g 14 _ rfl,_,g 15 _ rfl,fun b27 hb27 w28 x28=>?_⟩
  have h28:=zaa x28
  refine(zDG r w28 (hJ.ext h28) (zCE hok.ask) hok.len).mono fun v w29 ⟨e29,r',hv,hrs,hF'⟩=>⟨e29,_,_,_,_,_,_,_,_,_,r'.pa,_,r'.ca,r'.pf,_,r'.cf,_,_,_,_,_,hv,?_⟩
  have h629:=h28.trans e29
  have hw29:=x6.trans h629
  have oR29:=oR.ext h629
  have hns:∀b∈[b27],∀y,out=some y->y.block≠b:=fun b hb y hy=>by
   simp at hb;subst hb
   have:=(oR.lt y hy).2;omega
  refine zp0 (v:=sv r') zhG (by omega) oR29 hw29.size hns rfl (by intro u hu;simp[Value.cells] at hu;rcases hu with rfl|rfl|rfl|rfl|rfl|rfl|rfl|rfl|rfl|rfl|rfl|rfl|rfl|rfl|rfl|rfl<;>rfl) (by omega) (by omega) (by omega) fun out' outc' w56 o56 g56 _ hb56=>⟨i64 (by omega),⟨g56.ext hw29 oR29,by omega,by omega,by omega,R++[r'],?_,?_,?_⟩,by simp only[];omega⟩
  ·rw[show(k+1).toNat=k.toNat+1 by omega,List.map_append,hR,List.take_add_one,hF]
   simp[hrs]
  ·rw[List.flatMap_append]
   simpa[Value.cells,zun] using o56
  ·have step:∀(w0 w'':World),Ext w0 w29->w0.heap.size<=w29.heap.size->Fr (fun b=>b<w.heap.size\/∃a,out'=some a/\a.block=b) w56 w''->Fr (fun b=>b<w.heap.size\/∃a,out=some a/\a.block=b) w0 w'':=fun w0 w'' h0 hs fw=>by
    have f1:Fr (fun b=>b<w.heap.size\/∃a,out=some a/\a.block=b) w0 w56:=(zac h0).tr (zaP g56 fun a ha=>.inr ⟨a,ha,rfl⟩)
    refine f1.trans fw fun b hb=>?_
    rcases hb with h|⟨a2,ha2,hk2⟩
    ·exact .inl (.inl h)
    rcases g56.new with hn|hn
    ·left
     rw[ha2] at hn
     cases hout:out with
     |none => rw[hout] at hn;simp[blk] at hn
     |some y => rw[hout] at hn;simp[blk] at hn;exact .inr ⟨y,rfl,by omega⟩
    ·right
     have:=hn a2 ha2
     omega
   intro y hy w'' fw
   rcases List.mem_append.1 hy with hy|hy
   ·exact hT y hy w'' (step w6 w'' h629 h629.size fw)
   ·simp at hy;subst hy
    rw[hrs]
    refine hF' _ (fun b hb=>?_) w'' (step w29 w'' (Ext.refl _) (Nat.le_refl _) fw)
    rcases hb with h|⟨a,ha,rfl⟩
    ·have:=x6.size;have:=h28.size;omega
    ·have:=(oR.lt a ha).2;have:=h28.size;omega
 ·have hkl:k.toNat=F.jobs.length:=by omega
  rw[hkl,List.take_length] at hR
  refine⟨x6.trans h7,out,outc,R,by rw[hRl],hR,⟨by rw[hRl];exact oR.ext h7,fun r hr S hS w'' fw=>hT r hr w'' ((zac h7).tr (fw.mono fun b hb=>.inl (hS b hb)))⟩⟩
theorem zwD(x:FXO O B w fb P F)(hh:zj9 F.hosts):FnP Tryz.prog za8 #[.pointer (ptr fb)] w fun v w'=>Ext w w'/\∃(p:Option Addr) (c:Nat),v=.slice p F.hosts.length c/\F.hosts.length<=c/\HsS w.heap.size w' p F.hosts:=by
 have ne:=zaB fb
 refine zlL (ptr fb) w _ ⟨ne,ne,_,_,_,x.cell (i:=0) rfl,fun w3 h3=>?_⟩
 refine(zIk P.hp P.hc F.hosts hh.1 (fun h hx=>(hh.2.1 h hx).2.1) w3 ((x.ext h3).hs w3 (Fr.refl _ _))).mono fun v w4 ⟨e4,p',c',M,hv,hM,o4,hA,hN⟩=>⟨e4,p',_,c',hv,fun w8 h8=>⟨(h3.trans e4).trans h8,p',c',rfl,o4.le.1,?_⟩⟩
 have hS:=(zCV o4 (fun m hm=>(hA m hm).1) hN).weak h3.size
 rw[hM] at hS
 exact hS.ext h8
end
theorem ztu{R:List StR}{F:Fm}(h:R.map (·.s)=F.jobs):R.length=F.jobs.length:=by have:=congrArg List.length h;simpa using this
theorem zHu:∀t:AT,zeO t=0->(txt t).length<=24*nod t+18:=by
 intro t
 induction t using AT.ind with
 |h k key val n xs ih =>
  intro h
  rcases zld h with⟨rfl,x,rfl,hx⟩|⟨hk,x,y,rfl,hx,hy⟩|⟨hk1,hk4,rfl⟩
  ·have:=ih x (by simp) hx
   rw[txt4]
   simp only[nod,zj6,List.length_cons];omega
  ·have h1:=ih x (by simp) hx
   have h2:=ih y (by simp) hy
   rw[zHt hk]
   simp only[nod,zj6,List.length_cons,List.length_append,List.length_nil];omega
  ·rcases zsm h hk4 with⟨rfl,a,b,c⟩|⟨rfl,a,b,c⟩|⟨rfl,a,b,c,d⟩
   ·have:=zbR a
    rw[txt1];simp only[nod,zj6,List.length_cons,ziV];omega
   ·have h1:=zbR a
    have h2:=zbR b
    rw[txt2];simp only[nod,zj6,List.length_cons,List.length_append,ziV];omega
   ·have h1:=zoM a
    have h2:=Lib.itoa_length_le n (by omega) (by omega)
    rw[txt3];simp only[nod,zj6,List.length_cons,List.length_append,ziV];omega
theorem zDa{j:Jb}(h:okJ j)(hn:nod j.ask<=1048576):(txt j.ask).length<=1458/\(jtx j).length<=3000:=by
 have h1:=zbR h.user
 have h2:=Lib.itoa_length_le j.prio (by have:=h.prio;omega) (by have:=h.prio;omega)
 have h3:=zz2 h.nd.rng
 have h4:=zwN h.len h.rng
 obtain⟨h5,h6⟩:=zmD.1 h.ask
 have h7:=zHu j.ask h6
 rw[zo9 j.ask hn] at h5
 refine⟨by omega,?_⟩
 unfold jtx jps
 rw[Lib.join_cons]
 simp[Lib.joinTail]
 have:=ziV j.user
 simp at this
 omega
theorem zAe{x:Ev}(h:okE x)(hn:nod x.job.ask<=1048576):Whole x:=by
 have hj:x.kind=1->okJ x.job:=fun hk=>by
  rcases h with q|q|q|q|q
  ·exact q.2.1
  all_goals (have:=q.1;omega)
 refine⟨h,hn,fun hk=>by have:=(zDa (hj hk) hn).1;omega,?_⟩
 unfold enc
 rw[List.length_cons]
 split
 ·rename_i hk
  have:=(zDa (hj hk) hn).2
  omega
 ·split
  ·rw[zja];omega
  ·split
   ·rw[List.length_append,zja];simp
   ·split
    ·rw[zja];omega
    ·simp
theorem zGd(L:List Ev)(x:Ev):frs (L++[x])=frs L++fr (enc x):=by rw[zsC];simp[frs]
theorem zEm:zx8 []:=fun _ _ _ h=>by cases h
structure DX(B:Nat)(w:World)(db:Nat)(p:Option Addr)(c:Nat)(bs:Bs)(sf:Int):Prop where
 slot:Own B w zgr 2 (ptr db) 1 1 [.slice p bs.length c,.int .i64 sf]
 buf:Own B w zaF 1 p bs.length c ((bI bs).map (.int .u8))
 ap:∀a,p=some a->a.block≠db
def dft(db:Nat)(p:Option Addr)(b:Nat):Prop:=b=db\/∃a,p=some a/\a.block=b
section
variable {B db:Nat} {w:World} {p:Option Addr} {c:Nat} {bs:Bs} {sf:Int}
theorem DX.fr{S:Nat->Prop}{w':World}(D:DX B w db p c bs sf)(f:Fr S w w')(hS:∀b,dft db p b->¬S b):DX B w' db p c bs sf :=
 ⟨D.slot.fr f fun a ha=>hS _ (.inl (by cases ha;rfl)),D.buf.fr f fun a ha=>hS _ (.inr ⟨a,ha,rfl⟩),D.ap⟩
theorem DX.ext{w':World}(D:DX B w db p c bs sf)(e:Ext w w'):DX B w' db p c bs sf:=⟨D.slot.ext e,D.buf.ext e,D.ap⟩
theorem DX.foot(D:DX B w db p c bs sf){b:Nat}(h:dft db p b):B<=b/\b<w.heap.size:=by
 rcases h with rfl|⟨a,ha,rfl⟩
 ·exact D.slot.lt _ rfl
 ·exact D.buf.lt a ha
theorem DX.c0(D:DX B w db p c bs sf):Go.Sx.cell w (pAdd (ptr db) 0) 0=some (.slice p bs.length c)/\Go.Sx.cell w (pAdd (ptr db) 1) 0=some (.int .i64 sf) :=
 ⟨by rw[zak];exact D.slot.cells 0 _ rfl,by rw[zak];exact D.slot.cells 1 _ rfl⟩
theorem dNew_k(w:World):FnP Tryz.prog ze8 #[] w fun v w'=>Ext w w'/\∃db,v=.pointer (ptr db)/\w.heap.size<=db/\∀B,B<=w.heap.size->DX B w' db none 0 [] 0:=by
 refine zke w _ fun w0 e0=>zbp (by intro v hv;simp at hv;rcases hv with rfl|rfl<;>rfl) fun w1 o1 e1 w2 e2=>⟨(e0.trans e1).trans e2,w0.heap.size,rfl,e0.size,fun B hB=>?_⟩
 exact⟨(o1 B (Nat.le_trans hB e0.size)).ext e2,Own.nil,fun a ha=>by cases ha⟩
theorem zFM(D:DX B w db p c bs sf)(hn:bs.length<=100000)(hB:B<=w.heap.size)(q:Option Addr)(m mc:Nat)(nb:Bs)(hm:nb.length=m)(h63:m<=9223372036854775807)(hq:zeh .u8 w q (bI nb)) :
  FnP Tryz.prog zb2 #[.pointer (ptr db),.slice q m mc] w fun v w'=>(100000<bs.length+m/\v=.int .i64 7/\Ext w w')\/(bs.length+m<=100000/\v=.int .i64 0/\∃p' c',DX B w' db p' c' (bs++nb) sf/\Fr (dft db p) w w'/\∀b,dft db p' b->dft db p b\/w.heap.size<=b):=by
 have ne:=zaB db
 refine zeH (ptr db) q m mc w _ ⟨ne,ne,p,_,c,D.c0.1,i64 (by omega),fun hlt w3 h3=>.inl ⟨by omega,rfl,h3⟩,fun hge=>⟨ne,ne,p,_,c,D.c0.1,fun w6 h6=>?_⟩⟩
 have D6:=D.ext h6
 refine zlV D6.buf (Nat.le_trans hB h6.size) hm (hq.ext h6) (by omega) fun p' c' w7 o7 g7=>⟨p',_,c',rfl,ne,ne,?_⟩
 have f67:Fr (dft db p) w6 w7:=zaP g7 fun a ha=>.inr ⟨a,ha,rfl⟩
 have hp':∀a,p'=some a->(∃o,p=some o/\o.block=a.block)\/w6.heap.size<=a.block:=fun a ha=>by
  rcases g7.new with hn|hn
  ·left
   rw[ha] at hn
   cases ho:p with
   |none => rw[ho] at hn;simp[blk] at hn
   |some y => rw[ho] at hn;simp[blk] at hn;exact⟨y,rfl,by omega⟩
  ·exact .inr (hn a ha)
 have hap:∀a,p'=some a->a.block≠db:=fun a ha=>by
  rcases hp' a ha with⟨o,ho,hk⟩|h
  ·rw[<-hk];exact D.ap o ho
  ·have:=(D6.foot (.inl rfl)).2;omega
 have s7:=D6.slot.st (fun u v hu hv=>by cases hu;exact fun h=>D.ap v hv h.symm) g7
 have hlen:(bs++nb).length=bs.length+m:=by rw[List.length_append,hm]
 refine zaS (off:=0) s7 rfl (by simp) (by simp) (by intro u hu;simp at hu;subst hu;rfl) (by simp) fun w11 o11 g11 w12 h12=>.inr ⟨by omega,rfl,p',c',?_,?_,fun b hb=>?_⟩
 ·refine DX.ext ⟨by rw[hlen];exact o11,?_,hap⟩ h12
  rw[hlen]
  exact o7.st (fun a b ha hb=>by cases hb;exact hap a ha) g11
 ·have f11:Fr (dft db p) w7 w11:=zaP g11 fun a ha=>by cases ha;exact .inl rfl
  exact(((zac h6).tr f67).tr f11).tr (zac h12)
 ·rcases hb with hb|⟨a,ha,rfl⟩
  ·exact .inl (.inl hb)
  ·rcases hp' a ha with⟨o,ho,hk⟩|h
   ·exact .inl (.inr ⟨o,ho,hk⟩)
   ·exact .inr (Nat.le_trans h6.size h)
theorem zFL(D:DX B w db p c bs sf)(hn:bs.length<=100000):FnP Tryz.prog zb1 #[.pointer (ptr db)] w fun v w'=>Ext w w'/\∃q m,v=.slice q bs.length m/\Own w.heap.size w' zaF 1 q bs.length m ((bI bs).map (.int .u8)):=by
 have ne:=zaB db
 refine zeG (ptr db) w _ ⟨ne,ne,p,_,c,D.c0.1,fun w3 h3=>(zyA w3 rfl (by omega) (D.buf.cells.ext h3)).mono fun v w4 ⟨e4,q,m,hv,o4⟩=>⟨e4,q,_,m,hv,fun w8 h8=>⟨(h3.trans e4).trans h8,q,m,rfl,(o4.weak h3.size).ext h8⟩⟩⟩
end
theorem zG2(p:Option Addr)(c:Nat)(L:List Ht)(h63:(L.length:Int)<=9223372036854775807)(hO:∀h∈L,zry h)(pol:Pol)(q:Option Addr)(d:Nat)(E:List EvR)(hE63:(E.length:Int)<=9223372036854775807)(w:World)(hL:ziz w p L)(hE:zfQ 15 zqJ w q E)(hEw:∀r∈E,WfJ r.x.job/\IsJ w r.x.job r.pa r.ca r.pf) :
  FnP Tryz.prog zhu #[.agg #[.slice p L.length c,.int .i64 pol.first,.int .i64 pol.times,.int .i64 pol.most,.int .i64 pol.tries],.slice q E.length d] w fun v w'=>Ext w w'/\∃(f:Option Addr) (e:Int),v=.tuple #[.pointer f,.int .i64 e]/\(e=0↔zmS L pol) /\
   (zmS L pol->∃B fb P F,f=ptr fb/\w.heap.size<=B/\B<=w'.heap.size/\FX B w' fb P F/\zkp (zio L pol) (E.map (·.x)) F):=by
 refine zq6 p L.length c pol.first pol.times pol.most pol.tries q E.length d w _ fun b0 hb0 w1 x1=>?_
 have h1:=zaa x1
 refine(zur p c L h63 hO pol w1 (hL.ext h1)).mono fun v w2 ⟨e2,f,e,hv,hiff,hno,hyes⟩=>⟨e2,f,e,hv,fun hne w5 h5=>⟨(h1.trans e2).trans h5,none,e,rfl,hiff,fun h=>absurd (hiff.2 h) hne⟩,fun hz=>?_⟩
 have hok:=hiff.1 hz
 obtain⟨fb,P0,rfl,x2⟩:=hyes hz
 have lt1:=x1.lt b0 (by simp)
 refine⟨fun k w'=>0<=k/\k<=E.length/\Ext w w'/\w1.heap.size<=w'.heap.size/\∃P F,FX w1.heap.size w' fb P F/\zkp (zio L pol) ((E.map (·.x)).take k.toNat) F,fun k _=>(E.length-k).toNat,⟨by omega,by omega,h1.trans e2,e2.size,P0,_,x2,rfl⟩,?_⟩
 rintro k w7 ⟨hk0,hk1,h7,hs7,P,F,x7,hp⟩
 have I:=zvJ hp (zpF hok)
 refine⟨fun hlt=>?_,fun hge w8 h8=>?_⟩
 ·obtain⟨r,hr⟩:∃r,E[k.toNat]?=some r:=⟨_,List.getElem?_eq_getElem (by omega)⟩
  have g:∀(m:Nat) u,(zqJ r)[m]?=some u->Go.Sx.cell w7 (pIdx q k 15) m=some u:=fun m u hu=>zaz h7 (hE.at hk0 hr hu)
  have g0:=g 0 _ rfl
  obtain⟨hW,hJ⟩:=hEw r (List.mem_of_getElem? hr)
  refine⟨fun h=>zaj g0 (zah.2 h),hk0,hlt,zaj g0,_,g 0 _ rfl,_,g 1 _ rfl,_,g 2 _ rfl,_,g 3 _ rfl,_,g 4 _ rfl,_,g 5 _ rfl,_,g 6 _ rfl,_,g 7 _ rfl,_,g 8 _ rfl,_,g 9 _ rfl,_,_,_,g 10 _ rfl,_,_,_,g 11 _ rfl,_,g 12 _ rfl,_,g 13 _ rfl,_,g 14 _ rfl,fun b27 hb27 w28 x28=>?_⟩
  have h28:=zaa x28
  refine(Do_k (x7.ext h28) I.i0.pre I.i0.hs r.x r.pa r.ca r.pf r.cf (hJ.ext (h7.trans h28)) hW (Nat.le_trans hs7 h28.size)).mono fun v w29 ⟨e,P',F',hv,_,hd,x29,f29,_⟩=>⟨f29.kept fun b hb=>?_,e,hv,i64 (by omega),⟨by omega,by omega,f29.ext (h7.trans h28) (fun b hb=>?_),Nat.le_trans hs7 (Nat.le_trans h28.size f29.size),P',F',x29,?_⟩,by simp only[];omega⟩
  ·refine⟨x28.lt b hb,fun hf=>?_⟩
   have:=x7.foot hf
   simp at hb
   rcases hb with rfl|rfl<;>omega
  ·have:=(x7.foot hb).1
   have:=h1.size
   omega
  ·rw[show(k+1).toNat=k.toNat+1 by omega,List.take_add_one,List.getElem?_map,hr]
   exact zjL hp hd
 ·refine⟨h7.trans h8,ptr fb,0,rfl,⟨fun _=>hok,fun _=>rfl⟩,fun _=>⟨w1.heap.size,fb,P,F,rfl,h1.size,Nat.le_trans hs7 h8.size,x7.ext h8,?_⟩⟩
  rw[show k.toNat=(E.map (·.x)).length by simp;omega,List.take_length] at hp
  exact hp
structure Zt where
 hp:Option Addr
 hc:Nat
 L:List Ht
 pol:Pol
 fb:Nat
 P:Pl
 F:Fm
 db:Nat
 p:Option Addr
 c:Nat
 bs:Bs
 sf:Int
def sft(sb:Nat)(Z:Zt)(b:Nat):Prop:=b=sb\/dft Z.db Z.p b
def SF(sb:Nat)(Z:Zt)(b:Nat):Prop:=sft sb Z b\/ft Z.fb Z.P.jp b
abbrev zcs(Z:Zt):List Value:=[.slice Z.hp Z.L.length Z.hc,.int .i64 Z.pol.first,.int .i64 Z.pol.times,.int .i64 Z.pol.most,.int .i64 Z.pol.tries,.pointer (ptr Z.fb),.pointer (ptr Z.db)]
structure SX(O:Nat->Prop)(B:Nat)(w:World)(sb:Nat)(Z:Zt):Prop where
 slot:Own B w zhz 7 (ptr sb) 1 1 (zcs Z)
 disk:DX B w Z.db Z.p Z.c Z.bs Z.sf
 farm:FXO (fun b=>O b\/sft sb Z b) B w Z.fb Z.P Z.F
 hs:∀w'',Fr (fun b=>O b\/SF sb Z b) w w''->ziz w'' Z.hp Z.L
 ap:¬dft Z.db Z.p sb
 new:zmS Z.L Z.pol
 odis:∀b,O b->¬sft sb Z b
section
variable {O:Nat->Prop} {B sb:Nat} {w:World} {Z:Zt}
theorem SX.foot(s:SX O B w sb Z){b:Nat}(h:SF sb Z b):B<=b/\b<w.heap.size:=by
 rcases h with (rfl|h)|h
 ·exact s.slot.lt _ rfl
 ·exact s.disk.foot h
 ·exact s.farm.foot h
theorem SX.olt(s:SX O B w sb Z){b:Nat}(h:O b):b<w.heap.size:=s.farm.olt b (.inl h)
theorem SX.oft(s:SX O B w sb Z){b:Nat}(h:O b):¬SF sb Z b:=fun hf=>hf.elim (s.odis b h) (s.farm.odis b (.inl h))
theorem SX.fr{S:Nat->Prop}{w':World}(s:SX O B w sb Z)(f:Fr S w w')(hS:∀b,S b->O b):SX O B w' sb Z :=
 ⟨s.slot.fr f fun a ha hs=>by cases ha;exact s.odis _ (hS _ hs) (.inl rfl),s.disk.fr f fun b hb hs=>s.odis b (hS b hs) (.inr hb),s.farm.fr f fun b hb=>.inl (hS b hb),
  fun w'' k=>s.hs w'' ((f.mono fun b hb=>.inl (hS b hb)).tr k),s.ap,s.new,s.odis⟩
theorem SX.ext{w':World}(s:SX O B w sb Z)(e:Ext w w'):SX O B w' sb Z:=s.fr (zac (S:=fun _=>False) e) fun _ h=>h.elim
theorem SX.cell(s:SX O B w sb Z){i:Nat}{v:Value}(h:(zcs Z)[i]?=some v):Go.Sx.cell w (pAdd (ptr sb) i) 0=some v:=by rw[zak];exact s.slot.cells i v h
theorem SX.keep(s:SX O B w sb Z){W:World}(e:Ext W w)(hB:W.heap.size<=B){w':World}(f:Fr (SF sb Z) w w'):Ext W w':=f.ext e fun b hb=>Nat.le_trans hB (s.foot hb).1
theorem SX.next(s:SX O B w sb Z){w':World}{Z':Zt}(f:Fr (SF sb Z) w w')(hg:∀b,SF sb Z' b->SF sb Z b\/w.heap.size<=b)(slot:Own B w' zhz 7 (ptr sb) 1 1 (zcs Z'))(disk:DX B w' Z'.db Z'.p Z'.c Z'.bs Z'.sf)
  (farm:FXO (fun b=>O b\/sft sb Z' b) B w' Z'.fb Z'.P Z'.F) (ap:¬dft Z'.db Z'.p sb) (hp:Z'.hp=Z.hp) (hL:Z'.L=Z.L) (hpol:Z'.pol=Z.pol):SX O B w' sb Z':=by
 refine⟨slot,disk,farm,fun w'' k=>?_,ap,by rw[hL,hpol];exact s.new,fun b hb hs=>?_⟩
 ·rw[hp,hL]
  refine s.hs w'' ((f.mono fun b hb=>.inr hb).trans k fun b hb=>?_)
  rcases hb with hb|hb
  ·exact .inl (.inl hb)
  ·exact(hg b hb).imp .inr fun h=>h
 ·rcases hg b (.inl hs) with h|h
  ·exact s.oft hb h
  ·have:=s.olt hb;omega
theorem FXO.low{B' fb:Nat}{P:Pl}{F:Fm}(x:FXO O B w fb P F)(h:B'<=B):FXO O B' w fb P F:=⟨x.slot.weak h,x.arr.weak h,x.map,x.hs,x.js,x.ap,x.hO,x.jO,x.olt,x.odis⟩
theorem sNew_k(p:Option Addr)(c:Nat)(L:List Ht)(h63:(L.length:Int)<=9223372036854775807)(hO:∀h∈L,zry h)(pol:Pol)(w:World)(hL:ziz w p L) :
  FnP Tryz.prog zmq #[.agg #[.slice p L.length c,.int .i64 pol.first,.int .i64 pol.times,.int .i64 pol.most,.int .i64 pol.tries]] w fun v w'=>Ext w w'/\∃(q:Option Addr) (e:Int),v=.tuple #[.pointer q,.int .i64 e]/\(e=0↔zmS L pol)/\(e≠0->q=none) /\
   (e=0->∃sb Z,q=ptr sb/\Z.L=L/\Z.pol=pol/\Z.F=zio L pol/\Z.bs=[]/\Z.sf=0/\SX (fun b=>b<w.heap.size) w.heap.size w' sb Z):=by
 refine zxN p L.length c pol.first pol.times pol.most pol.tries w _ fun b0 hb0 w1 x1=>?_
 have h1:=zaa x1
 refine(zur p c L h63 hO pol w1 (hL.ext h1)).mono fun v w2 ⟨e2,f,e,hv,hiff,hno,hyes⟩=>⟨e2,f,e,hv,fun hne w5 h5=>⟨(h1.trans e2).trans h5,none,e,rfl,hiff,fun _=>rfl,fun h=>absurd h hne⟩,fun hz w5 x5=>?_⟩
 obtain⟨fb,P,rfl,x2⟩:=hyes hz
 have hok:=hiff.1 hz
 have h5:=zaa x5
 have x5f:=x2.ext h5
 refine(zwD x5f hok.1).mono fun v w6 ⟨e6,hp,hc,hv,_,hS⟩=>⟨e6,hp,_,hc,hv,fun w10 x10=>?_⟩
 have h10:=zaa x10
 refine(dNew_k w10).mono fun v w11 ⟨e11,db,hv,hdb,hD⟩=>⟨e11,ptr db,hv,fun w13 x13=>?_⟩
 have h13:=zaa x13
 refine zbp (by intro v hv;simp at hv;rcases hv with rfl|rfl|rfl|rfl|rfl|rfl|rfl<;>rfl) fun w14 o14 e14 w15 e15=>?_
 have e1115:=(h13.trans e14).trans e15
 have e615:=(h10.trans e11).trans e1115
 have hs1:w.heap.size<=w1.heap.size:=h1.size
 have hs110:w1.heap.size<=w10.heap.size:=Nat.le_trans e2.size (Nat.le_trans h5.size (Nat.le_trans e6.size h10.size))
 have hs1013:w10.heap.size<=w13.heap.size:=Nat.le_trans e11.size h13.size
 have hs510:w5.heap.size<=w10.heap.size:=Nat.le_trans e6.size h10.size
 have D15:DX w.heap.size w15 db none 0 [] 0:=(hD _ (Nat.le_trans hs1 hs110)).ext e1115
 have hall:Ext w w15:=(((h1.trans e2).trans h5).trans e6).trans e615
 have x15:=(x5f.ext e6).ext e615
 have hft:∀b,ft fb P.jp b->w1.heap.size<=b/\b<w5.heap.size:=fun b hb=>x5f.foot hb
 have hDlt:db<w15.heap.size:=(D15.foot (.inl rfl)).2
 have h14lt:w13.heap.size<w15.heap.size:=by
  have:=(o14 w13.heap.size (Nat.le_refl _)).size_lt
  have:=e15.size
  omega
 have hdb13:db<w13.heap.size:=by
  have:=((hD w10.heap.size (Nat.le_refl _)).ext h13).foot (b:=db) (.inl rfl)
  omega
 refine⟨hall,_,0,rfl,⟨fun _=>hok,fun _=>rfl⟩,fun h=>absurd rfl h,fun _=>⟨w13.heap.size,⟨hp,hc,L,pol,fb,P,zio L pol,db,none,0,[],0⟩,rfl,rfl,rfl,rfl,rfl,rfl,⟨(o14 _ (Nat.le_trans hs1 (Nat.le_trans hs110 hs1013))).ext e15,D15,?_,fun w'' k=>?_,?_,hok,fun b hb hs=>?_⟩⟩⟩
 ·refine FXO.low ((x5f.ext e6).more (w9:=w15) e615 fun b hb=>?_) hs1
  rcases hb with hb|hb|hb|⟨a,ha,_⟩
  ·exact .inl (show b<w1.heap.size by have:b<w.heap.size:=hb;omega)
  ·have hb:b=w13.heap.size:=hb
   exact .inr ⟨by have:=h10.size;omega,by omega⟩
  ·have hb:b=db:=hb
   exact .inr ⟨by have:=h10.size;omega,by omega⟩
  ·cases ha
 ·refine hS (fun b=>b<w5.heap.size) (fun b hb=>hb) w'' ((zac e615).trans k fun b hb=>?_)
  have hs610:=h10.size
  rcases hb with hb|(hb|hb|⟨a,ha,_⟩)|hb
  ·left
   have:b<w.heap.size:=hb
   have:=e2.size;have:=h5.size
   show b<w5.heap.size
   omega
  ·have hb:b=w13.heap.size:=hb
   right;omega
  ·have hb:b=db:=hb
   right;omega
  ·cases ha
  ·exact .inl (hft b hb).2
 ·rintro (h|⟨a,ha,_⟩)
  ·have h:w13.heap.size=db:=h
   omega
  ·cases ha
 ·have hb:b<w.heap.size:=hb
  rcases hs with hs|hs|⟨a,ha,_⟩
  ·have hs:b=w13.heap.size:=hs
   omega
  ·have hs:b=db:=hs
   have:w.heap.size<=db:=Nat.le_trans hs1 (Nat.le_trans hs110 hdb)
   omega
  ·cases ha
theorem zzS(s:SX O B w sb Z)(hn:Z.bs.length<=100000):FnP Tryz.prog zc1 #[.pointer (ptr sb)] w fun v w'=>Ext w w'/\∃q m,v=.slice q Z.bs.length m/\Own w.heap.size w' zaF 1 q Z.bs.length m ((bI Z.bs).map (.int .u8)):=by
 have ne:=zaB sb
 refine zlQ (ptr sb) w _ ⟨ne,ne,_,s.cell (i:=6) rfl,fun w1 h1=>(zFL (s.ext h1).disk hn).mono fun v w2 ⟨e2,q,m,hv,o⟩=>⟨e2,q,_,m,hv,fun w6 h6=>⟨(h1.trans e2).trans h6,q,m,rfl,(o.weak h1.size).ext h6⟩⟩⟩
theorem sDo_k(s:SX O B w sb Z)(I:Inv Z.F)(g:GB w)(hcap:Z.bs.length+3011<=100000)(hB:B<=w.heap.size)(y:Ev)(pa:Option Addr)(ca:Nat)(pf:Option Addr)(cf:Nat)(hJc:∀w'',Fr (SF sb Z) w w''->IsJ w'' y.job pa ca pf)(hW:WfJ y.job)(hn:nod y.job.ask<=1048576) :
  FnP Tryz.prog zgo #[.pointer (ptr sb),evv y pa ca pf cf] w fun v w'=>∃(e:Int) (Z':Zt),v=.int .i64 e/\SX O B w' sb Z'/\Fr (SF sb Z) w w'/\(∀b,SF sb Z' b->SF sb Z b\/w.heap.size<=b)/\Z'.L=Z.L/\Z'.pol=Z.pol/\Z'.sf=Z.sf/\Did Z.F y Z'.F/\((e=0↔can Z.F y)/\DoE Z.F y e) /\
   ((¬okE y/\Z'.bs=Z.bs)\/(okE y/\Z'.bs=Z.bs++fr (enc y))):=by
 have ne:=zaB sb
 have hJ:=hJc w (Fr.refl _ _)
 refine zpT (ptr sb) y.kind y.job.user y.job.prio y.job.nd.c y.job.nd.m y.job.nd.g y.job.ask.k y.job.ask.key y.job.ask.val y.job.ask.n pa y.job.ask.xs.length ca pf y.job.aft.length cf y.n y.id y.ok w _ fun b0 hb0 w1 h1=>(zHV y pa ca pf cf w1 (hJ.ext h1) hW).mono fun v w2 ⟨e2,e,hv,he⟩=>⟨e2,e,hv,fun hne w4 h4=>?_,fun hz w4 x4=>?_⟩
 ·have hno:¬okE y:=fun h=>hne (he.ok.2 h)
  have hnc:¬can Z.F y:=fun h=>hno h.1
  exact⟨e,Z,rfl,s.ext h4,zac h4,fun b hb=>.inl hb,rfl,rfl,rfl,.inl ⟨hnc,rfl⟩,⟨⟨fun h=>absurd h hne,fun h=>absurd h hnc⟩,e,he,.inl ⟨hne,rfl⟩⟩,.inl ⟨hno,rfl⟩⟩
 have hE:=he.ok.1 hz
 have hWh:=zAe hE hn
 have h4:=zaa x4
 have lt4:=x4.lt b0 (by simp)
 have kp:∀{w9 w10:World}{S:Nat->Prop},b0<w9.heap.size->Fr S w9 w10->(∀b,S b->SF sb Z b)->zbK [b0] w9 w10:=fun hlt f hS=>f.kept fun b hb=>by
  simp at hb;subst hb
  refine⟨hlt,fun hf=>?_⟩
  have:=(s.foot (hS _ hf)).2
  omega
 refine(zsv y pa ca pf cf w4 (hJ.ext h4) hW hn (g.ext h4)).mono fun v w5 ⟨e5,q,n,mc,e',hv,heq,_,hown⟩=>⟨e5,q,n,mc,e',hv,ne,ne,?_⟩
 obtain⟨hnl,oq⟩:=hown (heq.2 hE)
 have s5:=s.ext (h4.trans e5)
 refine⟨_,s5.cell (i:=6) rfl,fun w11 x11=>?_⟩
 have h11:=zaa x11
 have lt11:=x11.lt b0 (by simp)
 have s11:=s5.ext h11
 have hfl:(fr (enc y)).length<=3011:=by rw[zge];have:=hWh.len;omega
 refine(zFM s11.disk (by omega) (by have:=(h4.trans (e5.trans h11)).size;omega) q n mc (fr (enc y)) hnl.symm (by omega) (oq.ext h11).cells).mono fun v w12 hr=>?_
 rcases hr with⟨hbad,_⟩|⟨_,hv,p',c',D12,f12,g12⟩
 ·omega
 refine⟨kp lt11 f12 fun b hb=>.inl (.inr hb),0,hv,fun h=>absurd rfl h,fun _=>⟨ne,ne,?_⟩⟩
 have hw11:=(h4.trans e5).trans h11
 have slot12:Own B w12 zhz 7 (ptr sb) 1 1 (zcs Z):=s11.slot.fr f12 fun a ha hs=>by cases ha;exact s.ap hs
 have x12:FXO (fun b=>O b\/sft sb { Z with p:=p',c:=c',bs:=Z.bs++fr (enc y) } b) B w12 Z.fb Z.P Z.F:=s11.farm.go f12 (fun b hb=>.inr (.inr hb)) fun b hb=>by
  rcases hb with hb|hb|hb
  ·exact .inl (.inl hb)
  ·exact .inl (.inr (.inl hb))
  ·rcases g12 b hb with h|h
   ·exact .inl (.inr (.inr h))
   ·exact .inr ⟨h,(D12.foot hb).2⟩
 have ap12:¬dft Z.db p' sb:=fun h=>by
  rcases g12 sb h with h|h
  ·exact s.ap h
  ·have:=(s11.foot (.inl (.inl rfl))).2;omega
 refine⟨_,by rw[zak];exact slot12.cells 5 _ rfl,fun w15 x15=>?_⟩
 have h15:=zaa x15
 have hw1115:w.heap.size<=w15.heap.size:=Nat.le_trans hw11.size (Nat.le_trans f12.size h15.size)
 have f15:Fr (SF sb Z) w w15:=((zac hw11).tr (f12.mono fun b hb=>.inl (.inr hb))).tr (zac h15)
 have hJ15:IsJ w15 y.job pa ca pf:=hJc w15 f15
 refine(Do_k (x12.ext h15) I.i0.pre I.i0.hs y pa ca pf cf hJ15 hW (Nat.le_trans hB hw1115)).mono fun v w16 ⟨e3,P',F',hv,hcan,hd,x16,f16,g16⟩=>⟨kp (x15.lt b0 (by simp)) f16 fun b hb=>.inr hb,e3,hv,fun w18 h18=>?_⟩
 have f18:Fr (SF sb Z) w w18:=(f15.tr (f16.mono fun b hb=>.inr hb)).tr (zac h18)
 have gS:∀b,SF sb { Z with P:=P',F:=F',p:=p',c:=c',bs:=Z.bs++fr (enc y) } b->SF sb Z b\/w.heap.size<=b:=fun b hb=>by
  have hs15:=hw11.size
  rcases hb with (hb|hb)|hb
  ·exact .inl (.inl (.inl hb))
  ·rcases g12 b hb with h|h
   ·exact .inl (.inl (.inr h))
   ·exact .inr (by omega)
  ·rcases g16 b hb with h|h
   ·exact .inl (.inr h)
   ·exact .inr (by omega)
 have slot18:Own B w18 zhz 7 (ptr sb) 1 1 (zcs Z):=((slot12.ext h15).fr f16 fun a ha hs=>by cases ha;exact x12.odis sb (.inr (.inl rfl)) hs).ext h18
 have D18:=((D12.ext h15).fr f16 fun b hb hs=>x12.odis b (.inr (.inr hb)) hs).ext h18
 refine⟨e3,{ Z with P:=P',F:=F',p:=p',c:=c',bs:=Z.bs++fr (enc y) },rfl,s.next f18 gS slot18 D18 (x16.ext h18) ap12 rfl rfl rfl,f18,gS,rfl,rfl,rfl,hd,hcan,.inr ⟨hE,rfl⟩⟩
end
section
variable {O:Nat->Prop} {B sb:Nat} {w:World} {Z:Zt}
theorem zKd(M:List Ev):M.length<=(frs M).length:=by
 induction M with
 |nil => simp
 |cons x r ih =>
  show _<=(fr (enc x)++frs r).length
  rw[List.length_append,zge,List.length_cons]
  omega
end
abbrev zjw:FuncId:=48
abbrev ziu:FuncId:=202
abbrev ziO:FuncId:=203
abbrev zgO:FuncId:=204
abbrev zce:FuncId:=205
abbrev ziv:FuncId:=206
abbrev zgP:FuncId:=207
abbrev zeR:FuncId:=208
abbrev zij:FuncId:=209
abbrev zf3:FuncId:=211
abbrev zd6:FuncId:=212
abbrev zik:FuncId:=213
abbrev zd7:FuncId:=214
abbrev zeA:FuncId:=215
abbrev zd8:FuncId:=216
abbrev zd9:FuncId:=217
abbrev ziw:FuncId:=218
abbrev zk9:FuncId:=219
abbrev zgQ:FuncId:=220
abbrev zeS:FuncId:=221
abbrev zmm:FuncId:=251
abbrev zew:FuncId:=252
abbrev zhl:FuncId:=253
def zql  (w:World) (Q:Value->World->Prop):Prop :=
 ∀w0,Ext w w0 ->
 New w0 192 [(.slice none 0 0),(.pointer none)] fun p1 w1 =>
  ∀w2,Ext w1 w2 ->
  Q (.pointer p1) w2
theorem zxE  (w:World) (Q:Value->World->Prop) (h:zql  w Q):FnP Tryz.prog zjw #[] w Q:=by
 have e_:zql  w Q=Runs Tryz.prog Q ({ N:=3,wrap:=[],pub:=[2,1],muts:=[],joins:=[] }:Cfg) Tryz.f48 (Tryz.f48.body.getD .skip) [] w:=by kernel_rfl
 rw[e_] at h
 exact zab h Tryz.func48 (by kernel_rfl) (fun args w=>Tryz.call48 args w) (by kernel_rfl) (by kernel_rfl) rfl rfl
def ztN(b:Int)(f:World)(g:Value->World->Prop):Prop:=
 ((b=0)->∀a,Ext f a->g .nilIface a)/\((b≠0)->∀a,Ext f a->Run Tryz.prog (.makeInterface 24 (.int .i64 b)) a fun h e=>Ext a e/\∃c,h=c/\∀d,Ext e d->g c d)
theorem ztc(a:Int)(b:World)(c:Value->World->Prop)(h:ztN a b c):FnP Tryz.prog zce #[(.int .i64 a)] b c:=
 zab (Eq.mp (by kernel_rfl:_=Runs Tryz.prog c ({N:=7}:Cfg) Tryz.f205 (Tryz.f205.body.getD .skip) [.sc (.int .i64 a)] b) h) Tryz.func205 (by kernel_rfl) (fun a w=>Tryz.call205 a w) (by kernel_rfl) (by kernel_rfl) rfl rfl
def zqm(i:Option Addr)(w R:Nat)(a:Int)(F:World)(m:Value->World->Prop):Prop:=
 i≠none/\(0:Int)<=a/\(a:Int)<(w:Int)/\∃x,cell F (pIdx i a 1) 0=some (.string x)/\∀n,Ext F n->FnP Tryz.prog zbP #[(.string x),(.int .i64 10),(.int .i64 64)] n fun G c=>Ext n c/\∃j y,G=(.tuple #[(.int .i64 j),y])/\∀o,Ext c o->Run Tryz.prog (.eq .neq 175 false true y .nilIface) o fun H I=>Ext o I/\∃d,H=(.bool d)/\((d=false)->i≠none)/\((d=false)->(0:Int)<=a)/\((d=false)->(a:Int)<(w:Int))/\(((d=true)->∀p,Ext c p->Run Tryz.prog (.makeInterface 24 (.int .i64 3)) p fun J f=>Ext p f/\∃q,J=q/\Value.oneCell' q=true/\∀k,Ext f k->Run Tryz.prog (.makeInterface 257 (.agg #[(.int .i64 a),q])) k fun K g=>Ext k g/\∃z,K=z/\∀l,Ext g l->m (.tuple #[(.int .i64 0),z]) l))/\((d=false)->∃e,cell c (pIdx i a 1) 0=some (.string e)/\(((e.size:Int)<=18)->i≠none)/\(((e.size:Int)<=18)->(0:Int)<=a)/\(((e.size:Int)<=18)->(a:Int)<(w:Int))/\(((18<(e.size:Int))->∀f,Ext c f->Run Tryz.prog (.makeInterface 24 (.int .i64 3)) f fun L h=>Ext f h/\∃r,L=r/\Value.oneCell' r=true/\∀g,Ext h g->Run Tryz.prog (.makeInterface 257 (.agg #[(.int .i64 a),r])) g fun M b=>Ext g b/\∃A,M=A/\∀B,Ext b B->m (.tuple #[(.int .i64 0),A]) B))/\(((e.size:Int)<=18)->∃s,cell c (pIdx i a 1) 0=some (.string s)/\∀h,Ext c h->FnP Tryz.prog zbz #[(.int .i64 j),(.int .i64 10)] h fun N k=>Ext h k/\∃t,N=(.string t)/\((((t≠s)\/(j<0))->∀b,Ext c b->Run Tryz.prog (.makeInterface 24 (.int .i64 3)) b fun O l=>Ext b l/\∃u,O=u/\Value.oneCell' u=true/\∀v,Ext l v->Run Tryz.prog (.makeInterface 257 (.agg #[(.int .i64 a),u])) v fun P E=>Ext v E/\∃C,P=C/\∀D,Ext E D->m (.tuple #[(.int .i64 0),C]) D))/\(((t=s)/\(0<=j))->∀b,Ext c b->m (.tuple #[(.int .i64 j),.nilIface]) b)))
theorem zpM(a:Option Addr)(b c:Nat)(d:Int)(e:World)(f:Value->World->Prop)(h:zqm a b c d e f):FnP Tryz.prog zew #[(.slice a b c),(.int .i64 d)] e f:=
 zab (Eq.mp (by kernel_rfl:_=Runs Tryz.prog f ({N:=44}:Cfg) Tryz.f252 (Tryz.f252.body.getD .skip) [.sc (.slc a b c),.sc (.int .i64 d)] e) h) Tryz.func252 (by kernel_rfl) (fun a w=>Tryz.call252 a w) (by kernel_rfl) (by kernel_rfl) rfl rfl
def zri(u:ByteArray)(H:World)(v:Value->World->Prop):Prop:=
 ((u=(⟨#[45]⟩:ByteArray))->∀d,Ext H d->v (.tuple #[(.slice none 0 0),.nilIface]) d)/\((u≠(⟨#[45]⟩:ByteArray))->∀d,Ext H d->FnP Tryz.prog zbj #[(.string u),(.string (⟨#[44]⟩:ByteArray))] d fun J E=>Ext d E/\∃l h I,J=(.slice l h I)/\∃(t:Option Addr->Nat->Nat->Int->World->Prop) (G:Option Addr->Nat->Nat->Int->World->Nat),t none 0 0 0 E/\∀(i:Option Addr)(j:Nat)(k:Nat)(a:Int)(c:World),t i j k a c->(((a<(h:Int))->l≠none/\(0:Int)<=a/\(a:Int)<(h:Int)/\∃w,cell c (pIdx l a 1) 0=some (.string w)/\∀m,Ext c m->FnP Tryz.prog zdM #[(.string w),(.string (⟨#[61]⟩:ByteArray))] m fun K L=>Ext m L/\∃x y n,K=(.tuple #[(.string x),(.string y),(.bool n)])/\(((n=false)->∀b,Ext c b->Run Tryz.prog (.makeInterface 24 (.int .i64 3)) b fun s g=>Ext b g/\∃e,s=e/\Value.oneCell' e=true/\∀o,Ext g o->Run Tryz.prog (.makeInterface 257 (.agg #[(.int .i64 3),e])) o fun M F=>Ext o F/\∃z,M=z/\∀f,Ext F f->v (.tuple #[(.slice none 0 0),z]) f))/\((n=true)->∀b,Ext c b->Run Tryz.prog (.buildSlice 74 1 [(0,(.agg #[(.string x),(.string y)]))]) b fun s g=>Ext b g/\∃e A B,s=(.slice e A B)/\∀C,Ext g C->Run Tryz.prog (.append #[74,74] 74 [(.slice i j k),(.slice e A B)]) C fun N f=>∃p q r,N=(.slice p q r)/\InR .i64 (a+1)/\(t p q r (a+1) f/\G p q r (a+1) f<G i j k a c))))/\(((h:Int)<=a)->∀D,Ext c D->v (.tuple #[(.slice i j k),.nilIface]) D))
theorem zqU(a:ByteArray)(b:World)(c:Value->World->Prop)(h:zri a b c):FnP Tryz.prog zhl #[(.string a)] b c:=
 zab (Eq.mp (by kernel_rfl:_=Runs Tryz.prog c ({N:=38}:Cfg) Tryz.f253 (Tryz.f253.body.getD .skip) [.sc (.str a)] b) h) Tryz.func253 (by kernel_rfl) (fun a w=>Tryz.call253 a w) (by kernel_rfl) (by kernel_rfl) rfl rfl
def ztM(b:Int)(c:World)(d:Value->World->Prop):Prop:=
 ∀a,Ext c a->d (.int .i64 b) a
theorem zlK(a:Int)(b:World)(c:Value->World->Prop)(h:ztM a b c):FnP Tryz.prog zeA #[(.int .i64 a)] b c:=
 zab (Eq.mp (by kernel_rfl:_=Runs Tryz.prog c ({N:=4}:Cfg) Tryz.f215 (Tryz.f215.body.getD .skip) [.sc (.int .i64 a)] b) h) Tryz.func215 (by kernel_rfl) (fun a w=>Tryz.call215 a w) (by kernel_rfl) (by kernel_rfl) rfl rfl
def zrj(h:Bool)(k:Value)(i:World)(j:Value->World->Prop):Prop:=
 (((h=true)->∀a,Ext i a->Run Tryz.prog (.makeInterface 24 (.int .i64 9)) a fun d c=>Ext a c/\∃b,d=b/\∀e,Ext c e->j (.tuple #[(.string (⟨#[]⟩:ByteArray)),b]) e))/\((h=false)->∀a,Ext i a->zil Tryz.prog k [] a fun d c=>Ext a c/\∃b f,d=(.tuple #[(.string b),f])/\∀g,Ext c g->j (.tuple #[(.string b),f]) g)
theorem zkc(a:Bool)(b:Value)(c:World)(d:Value->World->Prop)(h:zrj a b c d):FnP Tryz.prog zk9 #[(.bool a),b] c d:=
 zab (Eq.mp (by kernel_rfl:_=Runs Tryz.prog d ({N:=12}:Cfg) Tryz.f219 (Tryz.f219.body.getD .skip) [.sc (.bool (.atom true a)),.sc (.val b)] c) h) Tryz.func219 (by kernel_rfl) (fun a w=>Tryz.call219 a w) (by kernel_rfl) (by kernel_rfl) rfl rfl
def znt(d i:Option Addr)(ac aA:Nat)(j:World)(x:Value->World->Prop):Prop:=
 i≠none/\(0:Int)<=2/\(2:Int)<(ac:Int)/\∃ad,cell j (pIdx i 2 1) 0=some (.string ad)/\∀B,Ext j B->FnP Tryz.prog zfq #[(.string ad)] B fun an ao=>Ext B ao/\∃C D E y,an=(.tuple #[(.agg #[(.int .i64 C),(.int .i64 D),(.int .i64 E)]),(.int .i64 y)])/\∀a:Nat,j.heap.size<=a->(((y≠0)->∀F,zag [] [a] j F->Run Tryz.prog (.makeInterface 24 (.int .i64 y)) F fun ap g=>Ext F g/\∃G,ap=G/\Value.oneCell' G=true/\∀H,zag [] [a] g H->Run Tryz.prog (.makeInterface 257 (.agg #[(.int .i64 2),G])) H fun aq al=>Ext H al/\∃ae,aq=ae/\∀af,Ext al af->x (.tuple #[(.string (⟨#[]⟩:ByteArray)),ae]) af))/\((y=0)->i≠none/\(0:Int)<=3/\(3:Int)<(ac:Int)/\∃ag,cell j (pIdx i 3 1) 0=some (.string ag)/\∀g,zag [] [a] j g->FnP Tryz.prog zhl #[(.string ag)] g fun ar c=>Ext g c/\∃I J K L,ar=(.tuple #[(.slice I J K),L])/\∀M,Ext c M->Run Tryz.prog (.eq .neq 175 false true L .nilIface) M fun au av=>Ext M av/\∃N,au=(.bool N)/\((N=true)->∀ah,Ext c ah->x (.tuple #[(.string (⟨#[]⟩:ByteArray)),L]) ah)/\((N=false)->d≠none/\d≠none/\∃O,cell c (pAdd d 1) 0=some (.pointer O)/\(((O≠none)->∀P,zag [] [a] c P->Run Tryz.prog (.makeInterface 24 (.int .i64 9)) P fun aw am=>Ext P am/\∃ai,aw=ai/\∀h,Ext am h->x (.tuple #[(.string (⟨#[]⟩:ByteArray)),ai]) h))/\((O=none)->∃(Y:Option Addr->Nat->Nat->World->Prop),(d≠none/\d≠none/\∃R S T,cell c (pAdd d 0) 0=some (.slice R S T)/\i≠none/\(0:Int)<=1/\(1:Int)<(ac:Int)/\∃U,cell c (pIdx i 1 1) 0=some (.string U)/\(∀b,zag [] [a] c b->FnP Tryz.prog zal #[(.slice R S T)] b fun V u=>Ext b u/\∃k l m,V=(.slice k l m)/\∀e,zag [] [a] u e->Run Tryz.prog (.buildSlice 34 1 [(0,(.agg #[(.string U),(.slice I J K),(.int .i64 C),(.int .i64 D),(.int .i64 E),(.int .i64 0),(.int .i64 0),(.int .i64 0)]))]) e fun W v=>Ext e v/\∃n o p,W=(.slice n o p)/\∀f,zag [] [a] v f->Run Tryz.prog (.append #[34,34] 34 [(.slice k l m),(.slice n o p)]) f fun X w=>zbK [a] f w/\∃q r s,X=(.slice q r s)/\Y q r s w)/\∀b,zag [] [a] c b->Run Tryz.prog (.buildSlice 34 1 [(0,(.agg #[(.string U),(.slice I J K),(.int .i64 C),(.int .i64 D),(.int .i64 E),(.int .i64 0),(.int .i64 0),(.int .i64 0)]))]) b fun V u=>Ext b u/\∃k l m,V=(.slice k l m)/\∀e,zag [] [a] u e->FnP Tryz.prog zal #[(.slice R S T)] e fun W v=>Ext e v/\∃n o p,W=(.slice n o p)/\∀f,zag [] [a] v f->Run Tryz.prog (.append #[34,34] 34 [(.slice n o p),(.slice k l m)]) f fun X w=>zbK [a] f w/\∃q r s,X=(.slice q r s)/\Y q r s w)/\∀(Z:Option Addr)(aa:Nat)(ab:Nat)(A:World),Y Z aa ab A->∀h,Ext A h->FnP Tryz.prog zcf #[(.slice Z aa ab)] h fun ax ay=>Ext h ay/\∃z,ax=(.int .i64 z)/\(((z≠0)->∀t,zag [] [a] A t->Run Tryz.prog (.makeInterface 24 (.int .i64 z)) t fun az b=>Ext t b/\∃aj,az=aj/\∀ak,Ext b ak->x (.tuple #[(.string (⟨#[]⟩:ByteArray)),aj]) ak))/\((z=0)->d≠none/\d≠none/\zan A (pAdd d 0) [(.slice Z aa ab)] [a] fun t=>∀b,Ext t b->x (.tuple #[(.string (⟨#[111,107]⟩:ByteArray)),.nilIface]) b))))
theorem zmX(a b:Option Addr)(c d:Nat)(e:World)(f:Value->World->Prop)(h:znt a b c d e f):FnP Tryz.prog zeR #[(.pointer a),(.slice b c d)] e f:=
 zab (Eq.mp (by kernel_rfl:_=Runs Tryz.prog f ({N:=64,muts:=[21,29,22,24,81]}:Cfg) Tryz.f208 (Tryz.f208.body.getD .skip) [.sc (.ptr a),.sc (.slc b c d)] e) h) Tryz.func208 (by kernel_rfl) (fun a w=>Tryz.call208 a w) (by kernel_rfl) (by kernel_rfl) rfl rfl
def znv(a v:Option Addr)(w x:Nat)(f:World)(j:Value->World->Prop):Prop:=
 a≠none/\a≠none/\∃g,cell f (pAdd a 1) 0=some (.pointer g)/\(((g≠none)->∀h,Ext f h->Run Tryz.prog (.makeInterface 24 (.int .i64 9)) h fun s r=>Ext h r/\∃k,s=k/\∀b,Ext r b->j (.tuple #[(.string (⟨#[]⟩:ByteArray)),k]) b))/\((g=none)->a≠none/\a≠none/\∃l m n,cell f (pAdd a 0) 0=some (.slice l m n)/\∀b,Ext f b->FnP Tryz.prog zcZ #[(.agg #[(.slice l m n),(.int .i64 10),(.int .i64 2),(.int .i64 100),(.int .i64 3)])] b fun t i=>Ext b i/\∃o e,t=(.tuple #[(.pointer o),(.int .i64 e)])/\(((e≠0)->∀c,Ext i c->Run Tryz.prog (.makeInterface 24 (.int .i64 e)) c fun u d=>Ext c d/\∃p,u=p/\∀q,Ext d q->j (.tuple #[(.string (⟨#[]⟩:ByteArray)),p]) q))/\((e=0)->a≠none/\a≠none/\zan i (pAdd a 1) [(.pointer o)] [] fun c=>∀d,Ext c d->j (.tuple #[(.string (⟨#[111,107]⟩:ByteArray)),.nilIface]) d))
theorem zmZ(a b:Option Addr)(c d:Nat)(e:World)(f:Value->World->Prop)(h:znv a b c d e f):FnP Tryz.prog zij #[(.pointer a),(.slice b c d)] e f:=
 zab (Eq.mp (by kernel_rfl:_=Runs Tryz.prog f ({N:=32,muts:=[21,29,22,24,81]}:Cfg) Tryz.f209 (Tryz.f209.body.getD .skip) [.sc (.ptr a),.sc (.slc b c d)] e) h) Tryz.func209 (by kernel_rfl) (fun a w=>Tryz.call209 a w) (by kernel_rfl) (by kernel_rfl) rfl rfl
def zkX(n aa:Option Addr)(o p:Nat)(P:World)(R:Value->World->Prop):Prop:=
 (0:Int)<=1/\(1:Int)<=(o:Int)/\((o:Int):Int)<=(p:Int)/\∀f,Ext P f->FnP Tryz.prog zbd #[(.slice (pCut aa p 1 1) ((o:Int)-1).toNat (p-(1:Int).toNat)),(.string (⟨#[32]⟩:ByteArray))] f fun S T=>Ext f T/\∃q,S=(.string q)/\∀g,Ext P g->FnP Tryz.prog zgR #[(.string q)] g fun U c=>Ext g c/\∃r s t u v w x y z A B C D E F d,U=(.tuple #[(.agg #[(.string r),(.int .i64 s),(.int .i64 t),(.int .i64 u),(.int .i64 v),(.int .i64 w),(.string x),(.string y),(.int .i64 z),(.slice A B C),(.slice D E F)]),(.int .i64 d)])/\∀a:Nat,c.heap.size<=a->(((d≠0)->∀h,zag [] [a] c h->Run Tryz.prog (.makeInterface 24 (.int .i64 d)) h fun V b=>Ext h b/\∃i,V=i/\Value.oneCell' i=true/\∀j,zag [] [a] b j->Run Tryz.prog (.makeInterface 257 (.agg #[(.int .i64 1),i])) j fun W N=>Ext j N/\∃G,W=G/\∀e,Ext N e->R (.tuple #[(.string (⟨#[]⟩:ByteArray)),G]) e))/\((d=0)->n≠none/\n≠none/\∃H,cell c (pAdd n 1) 0=some (.pointer H)/\∀b,zag [] [a] c b->FnP Tryz.prog za2 #[(.pointer H),(.agg #[(.string r),(.int .i64 s),(.int .i64 t),(.int .i64 u),(.int .i64 v),(.int .i64 w),(.string x),(.string y),(.int .i64 z),(.slice A B C),(.slice D E F)])] b fun X m=>zbK [a] b m/\∃I J,X=(.tuple #[(.int .i64 I),(.int .i64 J)])/\∀k,Ext m k->FnP Tryz.prog zbu #[(.int .i64 I)] k fun Y e=>Ext k e/\∃K,Y=(.string K)/\∀l,zag [] [a] m l->FnP Tryz.prog zce #[(.int .i64 J)] l fun Z O=>Ext l O/\∃L,Z=L/\∀M,Ext O M->R (.tuple #[(.string K),L]) M)
theorem zkI(a b:Option Addr)(c d:Nat)(e:World)(f:Value->World->Prop)(h:zkX a b c d e f):FnP Tryz.prog zf3 #[(.pointer a),(.slice b c d)] e f:=
 zab (Eq.mp (by kernel_rfl:_=Runs Tryz.prog f ({N:=35,muts:=[21,29,22,24,81]}:Cfg) Tryz.f211 (Tryz.f211.body.getD .skip) [.sc (.ptr a),.sc (.slc b c d)] e) h) Tryz.func211 (by kernel_rfl) (fun a w=>Tryz.call211 a w) (by kernel_rfl) (by kernel_rfl) rfl rfl
def znw(d ac:Option Addr)(ad ae:Nat)(O:World)(ab:Value->World->Prop):Prop:=
 d≠none/\d≠none/\∃y,cell O (pAdd d 1) 0=some (.pointer y)/\∀z,Ext O z->FnP Tryz.prog zbo #[(.pointer y)] z fun S K=>∃e g P A,S=(.tuple #[(.slice e g P),(.int .i64 A)])/\d≠none/\d≠none/\∃B,cell K (pAdd d 1) 0=some (.pointer B)/\∀n,Ext K n->FnP Tryz.prog za8 #[(.pointer B)] n fun T L=>Ext n L/\∃h C R,T=(.slice h C R)/\∃(x:Option Addr->Nat->Nat->Int->World->Prop) (N:Option Addr->Nat->Nat->Int->World->Nat),x none 0 0 0 L/\∀(k:Option Addr)(l:Nat)(m:Nat)(a:Int)(b:World),x k l m a b->(((a<(g:Int))->e≠none/\(0:Int)<=a/\(a:Int)<(g:Int)/\(pIdx e a 2)≠none/\∃D,cell b (pIdx e a 2) 0=some (.int .i64 D)/\∃f,cell b (pIdx e a 2) 1=some (.int .i64 f)/\∀i:Nat,b.heap.size<=i->h≠none/\(0:Int)<=f/\(f:Int)<(C:Int)/\(pIdx h f 8)≠none/\∃o,cell b (pAdd (pIdx h f 8) 0) 0=some (.string o)/\∀c,Ext b c->FnP Tryz.prog zbu #[(.int .i64 D)] c fun U V=>Ext c V/\∃j,U=(.string j)/\zdl j (⟨#[64]⟩:ByteArray)/\zdl (j++(⟨#[64]⟩:ByteArray)) o/\∀p,zag [] [i] b p->Run Tryz.prog (.buildSlice 22 1 [(0,(.string ((j++(⟨#[64]⟩:ByteArray))++o)))]) p fun W M=>Ext p M/\∃E F G,W=(.slice E F G)/\∀q,zag [] [i] M q->Run Tryz.prog (.append #[22,22] 22 [(.slice k l m),(.slice E F G)]) q fun X w=>zbK [i] q w/\∃r s t,X=(.slice r s t)/\InR .i64 (a+1)/\(x r s t (a+1) w/\N r s t (a+1) w<N k l m a b)))/\(((g:Int)<=a)->∀u,Ext b u->FnP Tryz.prog zbd #[(.slice k l m),(.string (⟨#[32]⟩:ByteArray))] u fun Y Z=>Ext u Z/\∃H,Y=(.string H)/\∀v,Ext b v->FnP Tryz.prog zce #[(.int .i64 A)] v fun aa c=>Ext v c/\∃I,aa=I/\∀J,Ext c J->ab (.tuple #[(.string H),I]) J)
theorem zm0(a b:Option Addr)(c d:Nat)(e:World)(f:Value->World->Prop)(h:znw a b c d e f):FnP Tryz.prog zik #[(.pointer a),(.slice b c d)] e f:=
 zab (Eq.mp (by kernel_rfl:_=Runs Tryz.prog f ({N:=50,muts:=[21,29,22,24,81]}:Cfg) Tryz.f213 (Tryz.f213.body.getD .skip) [.sc (.ptr a),.sc (.slc b c d)] e) h) Tryz.func213 (by kernel_rfl) (fun a w=>Tryz.call213 a w) (by kernel_rfl) (by kernel_rfl) rfl rfl
def znx(h:Option Addr)(a:Int)(o:World)(p:Value->World->Prop):Prop:=
 h≠none/\h≠none/\∃i,cell o (pAdd h 1) 0=some (.pointer i)/\∀f,Ext o f->FnP Tryz.prog zaA #[(.pointer i)] f fun r b=>Ext f b/\∃c d q,r=(.slice c d q)/\((((a<1)\/((d:Int)<a))->∀g,Ext b g->Run Tryz.prog (.makeInterface 24 (.int .i64 5)) g fun s n=>Ext g n/\∃j,s=j/\∀k,Ext n k->p (.tuple #[(.string (⟨#[]⟩:ByteArray)),j]) k))/\(((1<=a)/\(a<=(d:Int)))->InR .i64 (a-1)/\c≠none/\(0:Int)<=(a-1)/\((a-1):Int)<(d:Int)/\(pIdx c (a-1) 16)≠none/\∃e,cell b (pAdd (pIdx c (a-1) 16) 11) 0=some (.int .i64 e)/\(some (⟨4,0,none⟩:Addr))≠none/\(0:Int)<=e/\(e:Int)<6/\∃l,cell b (pIdx (some (⟨4,0,none⟩:Addr)) e 1) 0=some (.string l)/\∀m,Ext b m->p (.tuple #[(.string l),.nilIface]) m)
theorem zm1(a:Option Addr)(b:Int)(c:World)(d:Value->World->Prop)(h:znx a b c d):FnP Tryz.prog zeS #[(.pointer a),(.int .i64 b)] c d:=
 zab (Eq.mp (by kernel_rfl:_=Runs Tryz.prog d ({N:=29}:Cfg) Tryz.f221 (Tryz.f221.body.getD .skip) [.sc (.ptr a),.sc (.int .i64 b)] c) h) Tryz.func221 (by kernel_rfl) (fun a w=>Tryz.call221 a w) (by kernel_rfl) (by kernel_rfl) rfl rfl
def zoi(e:Value)(f:World)(g:Value->World->Prop):Prop:=
 ∀a,Ext f a->New a 322 [e] fun c d=>∀b,Ext d b->g (.func (.func 251) #[] #[(.pointer c)]) b
theorem zn7(a:Value)(b:World)(c:Value->World->Prop)(h:zoi a b c):FnP Tryz.prog ziO #[a] b c:=
 zab (Eq.mp (by kernel_rfl:_=Runs Tryz.prog c ({N:=4,pub:=[1]}:Cfg) Tryz.f203 (Tryz.f203.body.getD .skip) [.sc (.val a)] b) h) Tryz.func203 (by kernel_rfl) (fun a w=>Tryz.call203 a w) (by kernel_rfl) (by kernel_rfl) rfl rfl
def zl9(s:Option Addr)(t u:Nat)(v:Option Addr)(w:World)(m:Value->World->Prop):Prop:=
 ∀b,Ext w b->FnP Tryz.prog zew #[(.slice s t u),(.int .i64 1)] b fun n a=>Ext b a/\∃f c,n=(.tuple #[(.int .i64 f),c])/\∀d,Ext a d->Run Tryz.prog (.eq .neq 175 false true c .nilIface) d fun o p=>Ext d p/\∃e,o=(.bool e)/\((e=true)->∀g,Ext a g->m (.tuple #[(.string (⟨#[]⟩:ByteArray)),c]) g)/\((e=false)->∃h,cell a v 0=some h/\∀i,Ext a i->zil Tryz.prog h [(.int .i64 f)] i fun q r=>∃j k,q=(.tuple #[(.string j),k])/\∀l,Ext r l->m (.tuple #[(.string j),k]) l)
theorem zgi(a:Option Addr)(b c:Nat)(d:Option Addr)(e:World)(f:Value->World->Prop)(h:zl9 a b c d e f):FnP Tryz.prog zmm #[(.slice a b c),(.pointer d)] e f:=
 zab (Eq.mp (by kernel_rfl:_=Runs Tryz.prog f ({N:=20,muts:=[1000000]}:Cfg) Tryz.f251 (Tryz.f251.body.getD .skip) [.sc (.slc a b c),.sc (.ptr d)] e) h) Tryz.func251 (by kernel_rfl) (fun a w=>Tryz.call251 a w) (by kernel_rfl) (by kernel_rfl) rfl rfl
def zh5(i:Value)(j:World)(k:Value->World->Prop):Prop:=
 ∀b,Ext j b->New b 70 [i] fun f g=>∀a,Ext g a->FnP Tryz.prog ziO #[(.func (.func 204) #[] #[(.pointer f)])] a fun h e=>Ext a e/\∃c,h=c/\∀d,Ext e d->k c d
theorem zhO(a:Value)(b:World)(c:Value->World->Prop)(h:zh5 a b c):FnP Tryz.prog ziu #[a] b c:=
 zab (Eq.mp (by kernel_rfl:_=Runs Tryz.prog c ({N:=5,pub:=[1]}:Cfg) Tryz.f202 (Tryz.f202.body.getD .skip) [.sc (.val a)] b) h) Tryz.func202 (by kernel_rfl) (fun a w=>Tryz.call202 a w) (by kernel_rfl) (by kernel_rfl) rfl rfl
def zgI(l:Int)(m:Option Addr)(h:World)(n:Value->World->Prop):Prop:=
 ∃b,cell h m 0=some b/\∀c,Ext h c->zil Tryz.prog b [(.int .i64 l)] c fun i j=>∃d,i=(.int .i64 d)/\∀a,Ext j a->FnP Tryz.prog zce #[(.int .i64 d)] a fun k g=>Ext a g/\∃e,k=e/\∀f,Ext g f->n (.tuple #[(.string (⟨#[111,107]⟩:ByteArray)),e]) f
theorem zgz(a:Int)(b:Option Addr)(c:World)(d:Value->World->Prop)(h:zgI a b c d):FnP Tryz.prog zgO #[(.int .i64 a),(.pointer b)] c d:=
 zab (Eq.mp (by kernel_rfl:_=Runs Tryz.prog d ({N:=9,muts:=[1000000]}:Cfg) Tryz.f204 (Tryz.f204.body.getD .skip) [.sc (.int .i64 a),.sc (.ptr b)] c) h) Tryz.func204 (by kernel_rfl) (fun a w=>Tryz.call204 a w) (by kernel_rfl) (by kernel_rfl) rfl rfl
def zh6(e:Value)(f:Option Addr)(g:World)(h:Value->World->Prop):Prop:=
 ∀a,Ext g a->New a 70 [e] fun c d=>∀b,Ext d b->h (.func (.func 207) #[] #[(.pointer f),(.pointer c)]) b
theorem zhP(a:Value)(b:Option Addr)(c:World)(d:Value->World->Prop)(h:zh6 a b c d):FnP Tryz.prog ziv #[a,(.pointer b)] c d:=
 zab (Eq.mp (by kernel_rfl:_=Runs Tryz.prog d ({N:=5,pub:=[2]}:Cfg) Tryz.f206 (Tryz.f206.body.getD .skip) [.sc (.val a),.sc (.ptr b)] c) h) Tryz.func206 (by kernel_rfl) (fun a w=>Tryz.call206 a w) (by kernel_rfl) (by kernel_rfl) rfl rfl
def zgJ(l:Int)(m n:Option Addr)(a:World)(i:Value->World->Prop):Prop:=
 ∃b,cell a m 0=some (.pointer b)/\b≠none/\b≠none/\∃c,cell a (pAdd b 1) 0=some (.pointer c)/\((c=none)->∀d,Ext a d->i (.int .i64 9) d)/\((c≠none)->∃e,cell a n 0=some e/\∀f,Ext a f->zil Tryz.prog e [(.int .i64 l)] f fun j k=>∃g,j=(.int .i64 g)/\∀h,Ext k h->i (.int .i64 g) h)
theorem zgA(a:Int)(b c:Option Addr)(d:World)(e:Value->World->Prop)(h:zgJ a b c d e):FnP Tryz.prog zgP #[(.int .i64 a),(.pointer b),(.pointer c)] d e:=
 zab (Eq.mp (by kernel_rfl:_=Runs Tryz.prog e ({N:=13,muts:=[1000000]}:Cfg) Tryz.f207 (Tryz.f207.body.getD .skip) [.sc (.int .i64 a),.sc (.ptr b),.sc (.ptr c)] d) h) Tryz.func207 (by kernel_rfl) (fun a w=>Tryz.call207 a w) (by kernel_rfl) (by kernel_rfl) rfl rfl
def zh7(i:Int)(j:Option Addr)(b:World)(k:Value->World->Prop):Prop:=
 ∃a,cell b j 0=some (.pointer a)/\a≠none/\a≠none/\∃c,cell b (pAdd a 1) 0=some (.pointer c)/\∀d,Ext b d->FnP Tryz.prog zcp #[(.pointer c),(.int .i64 i)] d fun g h=>∃e,g=(.int .i64 e)/\∀f,Ext h f->k (.int .i64 e) f
theorem zhQ(a:Int)(b:Option Addr)(c:World)(d:Value->World->Prop)(h:zh7 a b c d):FnP Tryz.prog zd6 #[(.int .i64 a),(.pointer b)] c d:=
 zab (Eq.mp (by kernel_rfl:_=Runs Tryz.prog d ({N:=10,muts:=[21,29,22,24,81]}:Cfg) Tryz.f212 (Tryz.f212.body.getD .skip) [.sc (.int .i64 a),.sc (.ptr b)] c) h) Tryz.func212 (by kernel_rfl) (fun a w=>Tryz.call212 a w) (by kernel_rfl) (by kernel_rfl) rfl rfl
def zh8(m:Int)(n:Option Addr)(b:World)(o:Value->World->Prop):Prop:=
 ∃a,cell b n 0=some (.pointer a)/\a≠none/\a≠none/\∃d,cell b (pAdd a 1) 0=some (.pointer d)/\∀c,Ext b c->FnP Tryz.prog zeA #[(.int .i64 m)] c fun i j=>Ext c j/\∃e,i=(.int .i64 e)/\∀f,Ext b f->FnP Tryz.prog zaT #[(.pointer d),(.int .i64 e),(.bool true)] f fun k l=>∃g,k=(.int .i64 g)/\∀h,Ext l h->o (.int .i64 g) h
theorem zhR(a:Int)(b:Option Addr)(c:World)(d:Value->World->Prop)(h:zh8 a b c d):FnP Tryz.prog zd7 #[(.int .i64 a),(.pointer b)] c d:=
 zab (Eq.mp (by kernel_rfl:_=Runs Tryz.prog d ({N:=11,muts:=[21,29,22,24,81]}:Cfg) Tryz.f214 (Tryz.f214.body.getD .skip) [.sc (.int .i64 a),.sc (.ptr b)] c) h) Tryz.func214 (by kernel_rfl) (fun a w=>Tryz.call214 a w) (by kernel_rfl) (by kernel_rfl) rfl rfl
def zh9(m:Int)(n:Option Addr)(b:World)(o:Value->World->Prop):Prop:=
 ∃a,cell b n 0=some (.pointer a)/\a≠none/\a≠none/\∃d,cell b (pAdd a 1) 0=some (.pointer d)/\∀c,Ext b c->FnP Tryz.prog zeA #[(.int .i64 m)] c fun i j=>Ext c j/\∃e,i=(.int .i64 e)/\∀f,Ext b f->FnP Tryz.prog zaT #[(.pointer d),(.int .i64 e),(.bool false)] f fun k l=>∃g,k=(.int .i64 g)/\∀h,Ext l h->o (.int .i64 g) h
theorem zhS(a:Int)(b:Option Addr)(c:World)(d:Value->World->Prop)(h:zh9 a b c d):FnP Tryz.prog zd8 #[(.int .i64 a),(.pointer b)] c d:=
 zab (Eq.mp (by kernel_rfl:_=Runs Tryz.prog d ({N:=11,muts:=[21,29,22,24,81]}:Cfg) Tryz.f216 (Tryz.f216.body.getD .skip) [.sc (.int .i64 a),.sc (.ptr b)] c) h) Tryz.func216 (by kernel_rfl) (fun a w=>Tryz.call216 a w) (by kernel_rfl) (by kernel_rfl) rfl rfl
def zia(m:Int)(n:Option Addr)(b:World)(o:Value->World->Prop):Prop:=
 ∃a,cell b n 0=some (.pointer a)/\a≠none/\a≠none/\∃d,cell b (pAdd a 1) 0=some (.pointer d)/\∀c,Ext b c->FnP Tryz.prog zeA #[(.int .i64 m)] c fun i j=>Ext c j/\∃e,i=(.int .i64 e)/\∀f,Ext b f->FnP Tryz.prog zcH #[(.pointer d),(.int .i64 e)] f fun k l=>∃g,k=(.int .i64 g)/\∀h,Ext l h->o (.int .i64 g) h
theorem zhT(a:Int)(b:Option Addr)(c:World)(d:Value->World->Prop)(h:zia a b c d):FnP Tryz.prog zd9 #[(.int .i64 a),(.pointer b)] c d:=
 zab (Eq.mp (by kernel_rfl:_=Runs Tryz.prog d ({N:=11,muts:=[21,29,22,24,81]}:Cfg) Tryz.f217 (Tryz.f217.body.getD .skip) [.sc (.int .i64 a),.sc (.ptr b)] c) h) Tryz.func217 (by kernel_rfl) (fun a w=>Tryz.call217 a w) (by kernel_rfl) (by kernel_rfl) rfl rfl
def zib(m:Int)(j:Option Addr)(n:World)(o:Value->World->Prop):Prop:=
 ∀d,Ext n d->New d 2 [(.int .i64 m)] fun k c=>∃a,cell c j 0=some (.pointer a)/\a≠none/\a≠none/\∃e,cell c (pAdd a 1) 0=some (.pointer e)/\∀b,Ext c b->FnP Tryz.prog zk9 #[(.bool e.isNone),(.func (.func 220) #[] #[(.pointer j),(.pointer k)])] b fun l i=>Ext b i/\∃f g,l=(.tuple #[(.string f),g])/\∀h,Ext i h->o (.tuple #[(.string f),g]) h
theorem zhU(a:Int)(b:Option Addr)(c:World)(d:Value->World->Prop)(h:zib a b c d):FnP Tryz.prog ziw #[(.int .i64 a),(.pointer b)] c d:=
 zab (Eq.mp (by kernel_rfl:_=Runs Tryz.prog d ({N:=14,pub:=[2]}:Cfg) Tryz.f218 (Tryz.f218.body.getD .skip) [.sc (.int .i64 a),.sc (.ptr b)] c) h) Tryz.func218 (by kernel_rfl) (fun a w=>Tryz.call218 a w) (by kernel_rfl) (by kernel_rfl) rfl rfl
def zgK(j k:Option Addr)(b:World)(l:Value->World->Prop):Prop:=
 ∃c,cell b j 0=some (.pointer c)/\∃d,cell b k 0=some (.int .i64 d)/\∀a,Ext b a->FnP Tryz.prog zeS #[(.pointer c),(.int .i64 d)] a fun i h=>Ext a h/\∃e f,i=(.tuple #[(.string e),f])/\∀g,Ext h g->l (.tuple #[(.string e),f]) g
theorem zgB(a b:Option Addr)(c:World)(d:Value->World->Prop)(h:zgK a b c d):FnP Tryz.prog zgQ #[(.pointer a),(.pointer b)] c d:=
 zab (Eq.mp (by kernel_rfl:_=Runs Tryz.prog d ({N:=9}:Cfg) Tryz.f220 (Tryz.f220.body.getD .skip) [.sc (.ptr a),.sc (.ptr b)] c) h) Tryz.func220 (by kernel_rfl) (fun a w=>Tryz.call220 a w) (by kernel_rfl) (by kernel_rfl) rfl rfl
def unl(l:Array Bool):Nat:=l.toList.countP (fun b=>!b)
theorem zEC{l:Array Bool}{i:Nat}(h:l.getD i true=false):unl l=unl (l.setIfInBounds i true)+1:=by
 unfold unl
 have hi:i<l.size:=by
  rcases Nat.lt_or_ge i l.size with h'|h'
  ·exact h'
  ·simp[Array.getElem?_eq_none h'] at h
 have hg:l.toList[i]'(by simpa using hi)=false:=by simpa[hi] using h
 have e:(l.setIfInBounds i true).toList=l.toList.set i true:=by simp
 rw[e]
 have h1:=List.countP_set (p:=fun b=>!b) (l:=l.toList) (i:=i) (a:=true) (by simpa using hi)
 rw[h1,hg]
 have:0<l.toList.countP (fun b=>!b):=List.countP_pos_iff.2 ⟨false,by rw[<-hg];exact List.getElem_mem _,rfl⟩
 generalize l.toList.countP (fun b=>!b)=c at this ⊢
 show c=c-1+0+1
 omega
theorem zEI{P:Program}{md:Region.Mode}{ops:Array Oper}{Q:Exit->Act->World->Prop}{I:Array Bool->Act->World->Prop}
  (hs:∀l a w i,I l a w->i∈Region.ready md ops l->wpOp P ops Q i (I (l.setIfInBounds i true)) a w)
  (hq:∀l a w,I l a w->Region.ready md ops l=[]->Q .normal a w) :
  ∀(fuel:Nat)(l:Array Bool)(a:Act)(w:World),unl l<=fuel->I l a w->wpAny P md ops Q fuel l a w:=by
 intro fuel
 induction fuel with
 |zero =>
  intro l a w hf hi
  have hn:Region.ready md ops l=[]:=by
   cases hr:Region.ready md ops l with
   |nil => rfl
   |cons x xs =>
    have:=zEC (mem_ready.1 (hr▸List.mem_cons_self:x∈Region.ready md ops l)).1
    omega
  exact⟨hn,hq l a w hi hn⟩
 |succ fuel ih =>
  intro l a w hf hi
  refine⟨hq l a w hi,fun i hm=>wpOp_mono (fun a' w' h=>ih _ a' w' ?_ h) (hs l a w i hi hm)⟩
  have:=zEC (mem_ready.1 hm).1
  omega
def Cst(w w':World):Prop:=∀(b:Nat)(cs:Array Value)(t:TypeId)(f:Nat×Nat),w.heap[b]?=some (.cells cs t f)->w'.heap[b]?=some (.cells cs t f)
theorem Cst.of_ext{w w':World}(h:Ext w w'):Cst w w':=fun b cs t f hb=>by rw[h.block b (Array.getElem?_eq_some_iff.1 hb).1];exact hb
theorem Cst.cell{w w':World}(h:Cst w w'){p:Addr}{v:Value}(hc:w.cell? p=some v):w'.cell? p=some v:=by
 unfold World.cell? at hc ⊢
 cases hb:w.heap[p.block]? with
 |none => simp[hb] at hc
 |some o =>
  cases o with
  |cells c t f => rw[h _ _ _ _ hb];rw[hb] at hc;exact hc
  |_ => simp[hb] at hc
theorem Cst.of_grew{w w':World}{r:Nat}{m:List (ByteArray×Value)}(hm:zdc Value.string w r m)(hg:zco w w' (some ⟨r,0,none⟩) (some ⟨r,0,none⟩)):Cst w w':=fun b cs t f hb=>by
 obtain⟨es,c,h1,_⟩:=hm.es
 have hne:b≠r:=fun h=>by subst h;rw[h1] at hb;cases hb
 rw[hg.by_.block b (Array.getElem?_eq_some_iff.1 hb).1 (by simp[blk];exact hne)];exact hb
def MAt(PV:Nat->Value->World->Prop)(KL:List (ByteArray×Nat×Nat))(l:Array Bool)(w:World)(k:ByteArray)(g:Option Value):Prop :=
 match KL.find? (fun x=>decide (x.1=k)) with
 |some (_,j,b) => if l.getD j false=true then ∃v,g=some v/\PV b v w else g=none
 |none => g=none
structure DI(PV:Nat->Value->World->Prop)(ops:Array Oper)(KL:List (ByteArray×Nat×Nat))(TI:List (Nat×Nat))(base:List Nat)(b0:Act)(w0:World)(l:Array Bool)(a:Act)(w:World):Prop where
 lsz:l.size=ops.size
 size:a.tmps.size=b0.tmps.size
 defers:a.defers=b0.defers
 base:∀d∈base,a.tmps.getD d undef=b0.tmps.getD d undef
 ext:Ext w0 w
 val:∀i o d,ops[i]?=some o->l.getD i false=true->o.dst=some d->PV i (a.tmps.getD d undef) w
 mp:l.getD 0 false=true->∃mb M,a.tmps.getD 6 undef=.map (some mb)/\w0.heap.size<=mb/\zdc Value.string w mb M/\∀k,MAt PV KL l w k (ziC M k)
 nomap:l.getD 0 false=false->∀x∈KL,l.getD x.2.1 false=false
 tie:∀x∈TI,l.getD x.1 false=true->l.getD 0 false=true/\a.tmps.getD x.2 undef=a.tmps.getD 6 undef
def zoe(ops:Array Oper)(KL:List (ByteArray×Nat×Nat))(TI:List (Nat×Nat))(base:List Nat)(n:Nat):Bool :=
 (ops.toList.filterMap (·.dst)).Nodup&&(List.range ops.size).all (fun i=>(ops[i]?).all fun o =>
  o.guard.isNone&&o.dst.all fun d=>decide (d<n)&&!base.contains d&&(decide (i≠0)||decide (d=6))
   && KL.all (fun x=>decide (x.2.1≠i)))&&(decide ((ops[0]?.bind (·.dst))=some 6)&&TI.all fun x=>decide ((ops[x.1]?.bind (·.dst))=some x.2)&&decide (x.1≠0))
section
variable {PV:Nat->Value->World->Prop} {ops:Array Oper} {KL:List (ByteArray×Nat×Nat)} {TI:List (Nat×Nat)} {base:List Nat} {b0:Act} {w0:World} {l:Array Bool} {a:Act} {w:World} {P:Program} {Q:Exit->Act->World->Prop}
theorem zzD{n:Nat}(h:zoe ops KL TI base n=true){i:Nat}{o:Oper}{d:Nat}(hi:ops[i]?=some o)(hd:o.dst=some d) :
  o.guard=none/\d<n/\d∉base/\(i≠0\/d=6)/\∀x∈KL,x.2.1≠i:=by
 simp only[zoe,Bool.and_eq_true,List.all_eq_true,List.mem_range] at h
 have:=h.1.2 i (Array.getElem?_eq_some_iff.1 hi).1
 rw[hi] at this
 simp only[Option.all_some,hd,Bool.and_eq_true,Option.isNone_iff_eq_none,decide_eq_true_eq,Bool.not_eq_true',Bool.or_eq_true,List.all_eq_true] at this
 refine⟨this.1,this.2.1.1.1,?_,this.2.1.2,fun x hx=>this.2.2 x hx⟩
 have h2:=this.2.1.1.2
 intro hm
 rw[List.contains_iff_mem.2 hm] at h2
 cases h2
theorem zi9{α β:Type}{f:α->Option β}:∀{l:List α},(l.filterMap f).Nodup->∀{i j:Nat}{x y:α}{d:β},l[i]?=some x->l[j]?=some y->f x=some d->f y=some d->i=j
 |[],_,i,j,x,y,d,hx,_,_,_ => by simp at hx
 |z::r,hn,i,j,x,y,d,hx,hy,fx,fy => by
  have hmem:∀{k:Nat}{u:α},r[k]?=some u->f u=some d->d∈r.filterMap f:=fun h1 h2=>List.mem_filterMap.2 ⟨_,List.mem_of_getElem? h1,h2⟩
  have hn':(r.filterMap f).Nodup:=by
   cases hz:f z with
   |none => rwa [List.filterMap_cons_none hz] at hn
   |some b => rw[List.filterMap_cons_some hz] at hn;exact(List.nodup_cons.1 hn).2
  have hnot:f z=some d->d∉r.filterMap f:=fun hz=>by
   rw[List.filterMap_cons_some hz] at hn;exact(List.nodup_cons.1 hn).1
  cases i with
  |zero =>
   cases j with
   |zero => rfl
   |succ j =>
    simp at hx hy;subst hx
    exact absurd (hmem hy fy) (hnot fx)
  |succ i =>
   cases j with
   |zero =>
    simp at hx hy;subst hy
    exact absurd (hmem hx fx) (hnot fy)
   |succ j =>
    simp at hx hy
    exact congrArg (·+1) (zi9 hn' hx hy fx fy)
theorem zlS{n:Nat}(h:zoe ops KL TI base n=true){i j:Nat}{o u:Oper}{d:Nat}(hi:ops[i]?=some o)(hj:ops[j]?=some u)(hd:o.dst=some d)(hu:u.dst=some d):i=j:=by
 simp only[zoe,Bool.and_eq_true] at h
 exact zi9 (of_decide_eq_true h.1.1) (x:=o) (y:=u) (by simpa using hi) (by simpa using hj) hd hu
theorem zvy{n:Nat}(h:zoe ops KL TI base n=true){x:Nat×Nat}(hx:x∈TI):(∃o,ops[x.1]?=some o/\o.dst=some x.2)/\x.1≠0:=by
 simp only[zoe,Bool.and_eq_true,List.all_eq_true,decide_eq_true_eq] at h
 have:=h.2.2 x hx
 exact⟨by obtain⟨o,q1,q2⟩:=Option.bind_eq_some_iff.1 this.1;exact⟨o,q1,q2⟩,this.2⟩
theorem zDE{n:Nat}(h:zoe ops KL TI base n=true):∃o6,ops[0]?=some o6/\o6.dst=some 6:=by
 simp only[zoe,Bool.and_eq_true,decide_eq_true_eq] at h
 obtain⟨o6,q1,q2⟩:=Option.bind_eq_some_iff.1 h.2.1
 exact⟨o6,q1,q2⟩
theorem zpp{l:Array Bool}{i:Nat}(h:i<l.size)(d:Bool):(l.setIfInBounds i true).getD i d=true:=by simp[h]
theorem ztp{a:Act}{d:Nat}{v:Value}(h:d<a.tmps.size):(a.put (some d) v).tmps.getD d undef=v:=by simp[Act.put,h]
theorem zg7{a:Act}{d e:Nat}{v:Value}(h:d≠e):(a.put (some d) v).tmps.getD e undef=a.tmps.getD e undef:=by
 simp[Act.put,Array.getElem?_setIfInBounds_ne h]
theorem DI.put{n:Nat}(hok:zoe ops KL TI base n=true)(hb:b0.tmps.size=n)(hst:∀i v w w',Cst w w'->PV i v w->PV i v w'){i:Nat}{o:Oper}{d:Nat}{v:Value}{w':World}
  (h:DI PV ops KL TI base b0 w0 l a w) (hi:ops[i]?=some o) (hd:o.dst=some d) (hx:Ext w w') (hv:PV i v w')
  (h0:i=0->l.getD 0 false=false/\v=.map (some w.heap.size)/\zdc Value.string w' w.heap.size [])
  (ht:∀x∈TI,x.1=i->l.getD 0 false=true/\v=a.tmps.getD 6 undef) :
  DI PV ops KL TI base b0 w0 (l.setIfInBounds i true) (a.put o.dst v) w':=by
 obtain⟨_,g2,g3,g4,g5⟩:=zzD hok hi hd
 have hil:i<l.size:=by rw[h.lsz];exact(Array.getElem?_eq_some_iff.1 hi).1
 have hc:=Cst.of_ext hx
 rw[hd]
 have hmap:∀k g,MAt PV KL l w k g->MAt PV KL (l.setIfInBounds i true) w' k g:=fun k g hk=>by
  unfold MAt at hk ⊢
  split at hk
  ·rename_i y j b he
   have hm:=List.mem_of_find?_eq_some he
   rw[getD_set_ne false (Ne.symm (g5 _ hm))]
   split at hk
   ·rename_i hl
    rw[if_pos hl]
    obtain⟨v',e1,e2⟩:=hk
    exact⟨v',e1,hst _ _ _ _ hc e2⟩
   ·rename_i hl
    rw[if_neg hl];exact hk
  ·exact hk
 refine⟨by rw[Array.size_setIfInBounds];exact h.lsz,by simp only[Act.put,Array.size_setIfInBounds];exact h.size,h.defers,fun e he=>?_,h.ext.trans hx,fun j u e hj hl he=>?_,fun hl=>?_,fun hl x hxm=>?_,fun x hxm hl=>?_⟩
 ·rw[zg7 (fun hh:d=e=>g3 (by rw[hh];exact he))];exact h.base e he
 ·by_cases hij:i=j
  ·subst hij
   rw[hi] at hj;injection hj with hj;subst hj
   rw[hd] at he;injection he with he;subst he
   rw[ztp (by rw[h.size,hb];exact g2)];exact hv
  ·rw[getD_set_ne false hij] at hl
   have hde:d≠e:=fun hh=>hij (zlS hok hi hj hd (hh▸he))
   rw[zg7 hde]
   exact hst _ _ _ _ hc (h.val j u e hj hl he)
 ·by_cases hi0:i=0
  ·subst hi0
   obtain⟨z1,z2,z3⟩:=h0 rfl
   have hd6:d=6:=by rcases g4 with g4|g4;exact absurd rfl g4;exact g4
   subst hd6
   refine⟨w.heap.size,[],?_,h.ext.size,z3,fun k=>hmap k _ ?_⟩
   ·rw[ztp (by rw[h.size,hb];exact g2),z2]
   ·unfold MAt
    split
    ·rename_i y j b he
     have:=h.nomap z1 _ (List.mem_of_find?_eq_some he)
     rw[if_neg (by rw[this];decide)];rfl
    ·rfl
  ·rw[getD_set_ne false hi0] at hl
   obtain⟨mb,M,e1,e2,e3,e4⟩:=h.mp hl
   have hne:d≠6:=fun hh=>by
    have h6:∃o6,ops[0]?=some o6/\o6.dst=some 6:=by
     simp only[zoe,Bool.and_eq_true,decide_eq_true_eq] at hok
     obtain⟨o6,q1,q2⟩:=Option.bind_eq_some_iff.1 hok.2.1
     exact⟨o6,q1,q2⟩
    obtain⟨o6,q1,q2⟩:=h6
    exact hi0 (zlS hok hi q1 (hh▸hd) q2)
   exact⟨mb,M,by rw[zg7 hne];exact e1,e2,e3.ext hx,fun k=>hmap k _ (e4 k)⟩
 ·have hi0:i≠0:=fun hh=>by subst hh;rw[zpp hil] at hl;cases hl
  rw[getD_set_ne false hi0] at hl
  rw[getD_set_ne false (Ne.symm (g5 x hxm))]
  exact h.nomap hl x hxm
 ·obtain⟨⟨ox,t1,t2⟩,t3⟩:=zvy hok hxm
  have h6:i≠0->d≠6:=fun hi0 hh=>by
   obtain⟨o6,q1,q2⟩:=zDE hok
   exact hi0 (zlS hok hi q1 (hh▸hd) q2)
  by_cases hxi:x.1=i
  ·obtain⟨z1,z2⟩:=ht x hxm hxi
   have hi0:i≠0:=fun hh=>t3 (hxi.trans hh)
   have hdx:d=x.2:=by
    have:ox=o:=by rw[hxi,hi] at t1;injection t1 with t1;exact t1.symm
    rw[this,hd] at t2;injection t2
   refine⟨by rw[getD_set_ne false hi0];exact z1,?_⟩
   rw[<-hdx,ztp (by rw[h.size,hb];exact g2),zg7 (h6 hi0),z2]
  ·rw[getD_set_ne false (Ne.symm hxi)] at hl
   obtain⟨z1,z2⟩:=h.tie x hxm hl
   have hi0:i≠0:=fun hh=>by rw[(h0 hh).1] at z1;cases z1
   refine⟨by rw[getD_set_ne false hi0];exact z1,?_⟩
   rw[zg7 (fun hh=>hxi (zlS hok t1 hi t2 (hd.trans (congrArg some hh)))),zg7 (h6 hi0)]
   exact z2
theorem DI.ins{n:Nat}(hok:zoe ops KL TI base n=true)(hst:∀i v w w',Cst w w'->PV i v w->PV i v w'){i:Nat}{o:Oper}{K:ByteArray}{b:Nat}{v:Value}{w':World}{mb:Nat}{M:List (ByteArray×Value)}
  (h:DI PV ops KL TI base b0 w0 l a w) (hi:ops[i]?=some o) (hd:o.dst=none) (hi0:i≠0) (hl0:l.getD 0 false=true) (hmb:a.tmps.getD 6 undef=.map (some mb)) (hle:w0.heap.size<=mb)
  (hm:zdc Value.string w mb M) (hat:∀k,MAt PV KL l w k (ziC M k))
  (hk:KL.find? (fun x=>decide (x.1=K))=some (K,i,b)) (hu:∀x∈KL,x.2.1=i->x.1=K) (hv:PV b v w)
  (hm':zdc Value.string w' mb (zqz M K v)) (hg:zco w w' (some ⟨mb,0,none⟩) (some ⟨mb,0,none⟩)) :
  DI PV ops KL TI base b0 w0 (l.setIfInBounds i true) (a.put o.dst undef) w':=by
 have hil:i<l.size:=by rw[h.lsz];exact(Array.getElem?_eq_some_iff.1 hi).1
 have hc:=Cst.of_grew hm hg
 rw[hd]
 refine⟨by rw[Array.size_setIfInBounds];exact h.lsz,h.size,h.defers,h.base,hg.below h.ext h.ext.size (fun x hx=>by cases hx;exact hle),fun j u e hj hl he=>?_,fun _=>?_,fun hl=>?_,fun x hxm hl=>?_⟩
 ·by_cases hij:i=j
  ·subst hij
   rw[hi] at hj;injection hj with hj;subst hj
   rw[hd] at he;cases he
  ·rw[getD_set_ne false hij] at hl
   exact hst _ _ _ _ hc (h.val j u e hj hl he)
 ·refine⟨mb,_,hmb,hle,hm',fun k=>?_⟩
  rw[zlA]
  by_cases hkk:K=k
  ·subst hkk
   rw[if_pos rfl]
   unfold MAt
   rw[hk]
   simp only[]
   rw[if_pos (zpp hil _)]
   exact⟨v,rfl,hst _ _ _ _ hc hv⟩
  ·rw[if_neg hkk]
   have hh:=hat k
   unfold MAt at hh ⊢
   split at hh
   ·rename_i y j b' he
    have hjm:=List.mem_of_find?_eq_some he
    have hye:y=k:=by have:=List.find?_some he;simpa using this
    have hij:i≠j:=fun hij=>hkk (by rw[<-hu _ hjm hij.symm];exact hye)
    rw[getD_set_ne false hij]
    split at hh
    ·rename_i hl
     rw[if_pos hl]
     obtain⟨v',e1,e2⟩:=hh
     exact⟨v',e1,hst _ _ _ _ hc e2⟩
    ·rename_i hl
     rw[if_neg hl];exact hh
   ·exact hh
 ·rw[getD_set_ne false hi0,hl0] at hl;cases hl
 ·obtain⟨⟨ox,t1,t2⟩,t3⟩:=zvy hok hxm
  have hxi:x.1≠i:=fun hh=>by rw[hh,hi] at t1;injection t1 with t1;rw[<-t1,hd] at t2;cases t2
  rw[getD_set_ne false (Ne.symm hxi)] at hl
  exact⟨by rw[getD_set_ne false hi0];exact hl0,(h.tie x hxm hl).2⟩
theorem zoO{K:Act->World->Prop}{i:Nat}{o:Oper}{v:Value}{w':World}(hi:ops[i]?=some o)(hg:o.guard=none)(hr:(execOp a.eval o).run P w=.ok (.value v) w')(hk:K (a.put o.dst v) w') :
  wpOp P ops Q i K a w:=by
 unfold wpOp
 rw[hi]
 simp only[Region.wanted,hg,if_true]
 refine .inl ?_
 unfold Oper.wp
 rw[hr];exact hk
theorem zEJ{K:Act->World->Prop}{i:Nat}{o:Oper}{w':World}(hi:ops[i]?=some o)(hg:o.guard=none)(hr:(execOp a.eval o).run P w=.ok .skip w')(hk:K (a.put o.dst undef) w') :
  wpOp P ops Q i K a w:=by
 unfold wpOp
 rw[hi]
 simp only[Region.wanted,hg,if_true]
 refine .inl ?_
 unfold Oper.wp
 rw[hr];exact hk
theorem zBh{K:Act->World->Prop}{i:Nat}{o:Oper}{f:FuncId}{args:Array Value}(hi:ops[i]?=some o)(hg:o.guard=none)(hr:(execOp a.eval o).run P w=.ok (.enter f args) w)
  (hk:FnP P f args w fun v w'=>K (a.put o.dst v) w'):wpOp P ops Q i K a w:=by
 unfold wpOp
 rw[hi]
 simp only[Region.wanted,hg,if_true]
 refine .inl ?_
 unfold Oper.wp
 rw[hr]
 show Calls P f args w _
 refine Calls.mono hk.2 fun e w' ⟨v,he,hv⟩=>?_
 subst he
 exact hv
end
end Go.Proofs.YtcceeahmcecbnaaGreatDoor
