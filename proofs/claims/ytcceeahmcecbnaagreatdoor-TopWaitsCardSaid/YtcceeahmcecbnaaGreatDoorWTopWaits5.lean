/- The framework, the program's texts and what is shown of them: part 5. -/
import Derived.Test.YtcceeahmcecbnaaGreatDoorWTopWaits4
import Derived.Shelf.Spec.TrailingZeros
set_option linter.unusedVariables false
set_option linter.unusedSimpArgs false
set_option maxRecDepth 100000
namespace Go.Proofs.YtcceeahmcecbnaaGreatDoor
open Go.Sx Go.RowKit
structure Th where
  b:Nat
  prio:Int
  id:Int
  born:Int
  deriving DecidableEq
def th0:Th:=⟨0,0,0,0⟩
def ahead (t u:Th):Prop:=u.prio<t.prio\/t.prio=u.prio/\t.born<u.born
instance (t u:Th):Decidable (ahead t u):=by unfold ahead; infer_instance
theorem zkk {t u:Th} (h:ahead t u):¬ ahead u t:=by unfold ahead at *; omega
theorem zoM {t u v:Th} (h:ahead t u) (k:ahead u v):ahead t v:=by unfold ahead at *; omega
theorem zdU {t u v:Th} (h:¬ ahead t u) (k:¬ ahead u v):¬ ahead t v:=by unfold ahead at *; omega
theorem zuV {t u v:Th} (h:¬ ahead t u) (k:ahead v u):¬ ahead t v:=fun h'=>h (zoM h' k)
def at_ (H:List Th) (k:Nat):Th:=H.getD k th0
def swp (H:List Th) (i j:Nat):List Th:=(H.set i (at_ H j)).set j (at_ H i)
theorem zEk (H:List Th) (i j:Nat):(swp H i j).length=H.length:=by simp [swp]
theorem zHD (H:List Th) (i k:Nat) (x:Th) (hi:i<H.length):at_ (H.set i x) k=if k=i then x else at_ H k:=by
  unfold at_
  rw [List.getD_eq_getElem?_getD,List.getD_eq_getElem?_getD,List.getElem?_set]
  by_cases h:i=k
  · subst h; simp [hi]
  · rw [if_neg h,if_neg (Ne.symm h)]
theorem zp2 (H:List Th) {i j:Nat} (hi:i<H.length) (hj:j<H.length) (k:Nat):at_ (swp H i j) k=if k=j then at_ H i else if k=i then at_ H j else at_ H k:=by
  unfold swp
  rw [zHD _ _ _ _ (by simpa using hj),zHD _ _ _ _ hi]
theorem zoB (H:List Th) {i j:Nat} (hi:i<H.length) (hj:j<H.length):(swp H i j).Perm H:=by
  unfold swp at_
  rw [List.getD_eq_getElem?_getD,List.getD_eq_getElem?_getD,List.getElem?_eq_getElem hi,List.getElem?_eq_getElem hj]
  exact List.set_set_perm hi hj
theorem zB0 (H:List Th) {k:Nat} (h:k<H.length):at_ H k∈H:=zan H th0 h
theorem zH1 {H:List Th} {t:Th} (h:t∈H):∃ k,k<H.length/\at_ H k=t:=by
  obtain ⟨k,hk⟩:=List.mem_iff_getElem?.1 h
  exact ⟨k,(List.getElem?_eq_some_iff.1 hk).1,by unfold at_; rw [List.getD_eq_getElem?_getD,hk]; rfl⟩
def par (k:Nat):Nat:=(k-1)/2
def Hp (H:List Th) (n:Nat):Prop:=∀ k,1<=k->k<n->¬ ahead (at_ H k) (at_ H (par k))
def Up (H:List Th) (n j:Nat):Prop:=(∀ k,1<=k->k<n->k≠j->¬ ahead (at_ H k) (at_ H (par k)))/\(1<=j->∀ k,1<=k->k<n->par k=j->¬ ahead (at_ H k) (at_ H (par j)))
def Dn (H:List Th) (n i0 i:Nat):Prop:=(∀ k,1<=k->k<n->par k≠i->(k≠i\/i≠i0)->¬ ahead (at_ H k) (at_ H (par k)))/\(1<=i->∀ k,1<=k->k<n->par k=i->¬ ahead (at_ H k) (at_ H (par i)))
theorem zEz {H:List Th} {n:Nat} (h:Up H n 0):Hp H n:=fun k h1 hn=>h.1 k h1 hn (by omega)
theorem zKE {H:List Th} {n j:Nat} (h:Up H n j) (hs:¬ ahead (at_ H j) (at_ H (par j))):Hp H n:=fun k h1 hn=>by
  by_cases hk:k=j
  · rw [hk]; exact hs
  · exact h.1 k h1 hn hk
theorem zKD {H:List Th} {n j:Nat} (hl:n<=H.length) (hj:j<n) (h1:1<=j) (h:Up H n j) (ha:ahead (at_ H j) (at_ H (par j))):Up (swp H (par j) j) n (par j):=by
  have hp:par j<j:=by unfold par; omega
  have sa:=zp2 H (i:=par j) (j:=j) (by omega) (by omega)
  refine ⟨fun k k1 kn hk=>?_,fun hp1 k k1 kn hk=>?_⟩
  · rw [sa k,sa (par k)]
    by_cases hkj:k=j
    · subst hkj
      rw [if_pos rfl,if_neg (by omega),if_pos rfl]
      exact zkk ha
    · rw [if_neg hkj,if_neg hk]
      by_cases hpk:par k=j
      · rw [if_pos hpk]; exact h.2 h1 k k1 kn hpk
      · rw [if_neg hpk]
        by_cases hpp:par k=par j
        · rw [if_pos hpp]
          have:=h.1 k k1 kn hkj
          rw [hpp] at this
          exact zuV this ha
        · rw [if_neg hpp]; exact h.1 k k1 kn hkj
  · have hpp:par (par j)<par j:=by unfold par at *; omega
    have e:=h.1 (par j) hp1 (by omega) (by omega)
    rw [sa k,sa (par (par j)),if_neg (show ¬ par (par j)=j by omega),if_neg (show ¬ par (par j)=par j by omega)]
    by_cases hkj:k=j
    · rw [if_pos hkj]; exact e
    · rw [if_neg hkj]
      have hkp:k≠par j:=fun h=>by rw [h] at hk; omega
      rw [if_neg hkp]
      have:=h.1 k k1 kn hkj
      rw [hk] at this
      exact zdU this e
theorem zJc {H:List Th} {n i0 i j:Nat} (hl:n<=H.length) (hj:j<n) (h1:1<=j) (hi:par j=i) (hi0:i0<=i) (h:Dn H n i0 i) (ha:ahead (at_ H j) (at_ H i))
    (hs:∀ k,1<=k->k<n->par k=i->¬ ahead (at_ H k) (at_ H j)):Dn (swp H i j) n i0 j:=by
  have hij:i<j:=by subst hi; unfold par; omega
  have sa:=zp2 H (i:=i) (j:=j) (by omega) (by omega)
  refine ⟨fun k k1 kn hk _=>?_,fun _ k k1 kn hk=>?_⟩
  · rw [sa k,sa (par k),if_neg (show ¬ par k=j from hk)]
    by_cases hkj:k=j
    · subst hkj
      rw [if_pos rfl,if_pos hi]
      exact zkk ha
    · rw [if_neg hkj]
      by_cases hki:k=i
      · rw [if_pos hki]
        subst hki
        have hpk:par k≠k:=by unfold par; omega
        rw [if_neg hpk]
        exact h.2 k1 j h1 hj hi
      · rw [if_neg hki]
        by_cases hpi:par k=i
        · rw [if_pos hpi]; exact hs k k1 kn hpi
        · rw [if_neg hpi]; exact h.1 k k1 kn hpi (.inl hki)
  · have hkj:k≠j:=fun he=>by subst he; unfold par at hk; omega
    have hki:k≠i:=fun he=>by subst he; unfold par at hk; omega
    rw [hi,sa k,sa i,if_neg hkj,if_neg hki,if_neg (by omega),if_pos rfl]
    have:=h.1 k k1 kn (by rw [hk]; omega) (.inl hki)
    rw [hk] at this
    exact this
theorem zsj {H:List Th} {n i0 i:Nat} (h:Dn H n i0 i) (hi:i≠i0) (hs:∀ k,1<=k->k<n->par k=i->¬ ahead (at_ H k) (at_ H i)):Hp H n:=fun k k1 kn=>by
  by_cases hp:par k=i
  · rw [hp]; exact hs k k1 kn hp
  · exact h.1 k k1 kn hp (.inr hi)
theorem zt7 {H:List Th} {n i:Nat} (h:Dn H n i i) (hs:∀ k,1<=k->k<n->par k=i->¬ ahead (at_ H k) (at_ H i)):Up H n i:=by
  refine ⟨fun k k1 kn hk=>?_,h.2⟩
  by_cases hp:par k=i
  · rw [hp]; exact hs k k1 kn hp
  · exact h.1 k k1 kn hp (.inl hk)
theorem zFL {H G:List Th} {n i:Nat} (h:Hp G n) (he:∀ k,k<n->k≠i->at_ H k=at_ G k) (hi:i<n):Dn H n i i:=by
  refine ⟨fun k k1 kn hp hk=>?_,fun i1 k k1 kn hp=>?_⟩
  · have hki:k≠i:=hk.resolve_right fun h=>h rfl
    rw [he k kn hki,he (par k) (by unfold par; omega) hp]
    exact h k k1 kn
  · have hki:k≠i:=fun e=>by subst e; unfold par at hp; omega
    have hpp:par i≠i:=by unfold par; omega
    rw [he k kn hki,he (par i) (by unfold par; omega) hpp]
    have a1:=h k k1 kn
    rw [hp] at a1
    exact zdU a1 (h i i1 hi)
theorem zHm {H:List Th} {n:Nat} (h:Hp H n):Up H (n+1) n:=by
  refine ⟨fun k k1 kn hk=>h k k1 (by omega),fun n1 k k1 kn hp=>?_⟩
  unfold par at hp; omega
theorem zGf {H:List Th} {n:Nat} (h:Hp H n):∀ k,k<n->¬ ahead (at_ H k) (at_ H 0):=by
  intro k
  induction k using Nat.strongRecOn with
  |ind k ih =>
    intro hk
    by_cases h0:k=0
    · subst h0; unfold ahead; omega
    · exact zdU (h k (by omega) hk) (ih (par k) (by unfold par; omega) (by unfold par; omega))
theorem zJJ {H:List Th} {m n:Nat} (h:Hp H n) (hm:m<=n):Hp H m:=fun k k1 km=>h k k1 (by omega)
theorem zza {H G:List Th} {n:Nat} (h:Hp G n) (he:∀ k,k<n->at_ H k=at_ G k):Hp H n:=fun k k1 kn=>by
  rw [he k kn,he (par k) (by unfold par; omega)]; exact h k k1 kn
theorem zqv:zfR Tryz.prog zej=some (za9,1,8,.pointer none):=by kernel_rfl
def thc (t:Th) (k:Nat):List Value:=[.int .i64 t.prio,.int .i64 t.id,.int .i64 t.born,.int .i64 (k:Int)]
def ptr (b:Nat):Option Addr:=some ⟨b,0,none⟩
def pv (t:Th):Value:=.pointer (ptr t.b)
theorem zaG (b:Nat):ptr b≠none:=by simp [ptr]
theorem zb5 {a b:Nat} (h:a≠b):zbP (ptr a) (ptr b):=fun x y hx hy=>by cases hx; cases hy; exact h
theorem zjx {a:Nat} {p:Option Addr} (h:∀ x,p=some x->a≠x.block):zbP (ptr a) p:=fun x y hx hy=>by cases hx; exact h y hy
def zju (qb:Nat) (p:Option Addr) (H:List Th) (b:Nat):Prop:=b=qb\/(∃ a,p=some a/\a.block=b)\/∃ t∈H,t.b=b
theorem zo5 {qb:Nat} {p:Option Addr} {H G:List Th} (h:H.Perm G) (b:Nat):zju qb p H b↔zju qb p G b:=by
  unfold zju
  constructor<;>rintro (h1|h1|⟨t,ht,h1⟩)
  · exact .inl h1
  · exact .inr (.inl h1)
  · exact .inr (.inr ⟨t,h.mem_iff.1 ht,h1⟩)
  · exact .inl h1
  · exact .inr (.inl h1)
  · exact .inr (.inr ⟨t,h.mem_iff.2 ht,h1⟩)
structure QI (B:Nat) (w:World) (qb:Nat) (x y:Value) (p:Option Addr) (c:Nat) (H:List Th):Prop where
  slot:Own B w zk4 3 (ptr qb) 1 1 [.slice p H.length c,x,y]
  arr:Own B w za9 1 p H.length c (H.map pv)
  th:∀ k,k<H.length->Own B w zam 4 (ptr (at_ H k).b) 1 1 (thc (at_ H k) k)
  inj:∀ i k,i<H.length->k<H.length->(at_ H i).b=(at_ H k).b->i=k
  aq:∀ i,i<H.length->(at_ H i).b≠qb
  ap:∀ a,p=some a->a.block≠qb/\∀ i,i<H.length->(at_ H i).b≠a.block
section
variable {B qb:Nat} {x y:Value} {p:Option Addr} {c:Nat} {H:List Th} {w:World}
theorem QI.ext {w':World} (q:QI B w qb x y p c H) (h:Ext w w'):QI B w' qb x y p c H:=⟨q.slot.ext h,q.arr.ext h,fun k hk=>(q.th k hk).ext h,q.inj,q.aq,q.ap⟩
theorem QI.fr {S:Nat->Prop} {w':World} (q:QI B w qb x y p c H) (h:Fr S w w') (hs:∀ b,zju qb p H b->¬ S b):QI B w' qb x y p c H :=
  ⟨q.slot.fr h fun a ha=>by cases ha; exact hs _ (.inl rfl),q.arr.fr h fun a ha=>hs _ (.inr (.inl ⟨a,ha,rfl⟩)),fun k hk=>(q.th k hk).fr h fun a ha=>by cases ha; exact hs _ (.inr (.inr ⟨_,zB0 H hk,rfl⟩)),q.inj,q.aq,q.ap⟩
theorem QI.foot (q:QI B w qb x y p c H) {b:Nat} (h:zju qb p H b):B<=b/\b<w.heap.size:=by
  rcases h with rfl|⟨a,ha,rfl⟩|⟨t,ht,rfl⟩
  · exact q.slot.lt _ rfl
  · exact q.arr.lt a ha
  · obtain ⟨k,hk,rfl⟩:=zH1 ht
    exact (q.th k hk).lt _ rfl
theorem QI.ne (q:QI B w qb x y p c H) (h:0<H.length):p≠none:=q.arr.ne1 h (by omega)
theorem map_at {i:Nat} (h:i<H.length):(H.map pv)[i]?=some (pv (at_ H i)):=by
  unfold at_
  rw [List.getElem?_map,List.getElem?_eq_getElem h,List.getD_eq_getElem?_getD,List.getElem?_eq_getElem h]; rfl
theorem zoN {e:TypeId} {n:Nat} (o:Own B w e 1 p n c (H.map pv)) {i:Int} (h0:0<=i) (h:i.toNat<H.length):cell w (pIdx p i 1) 0=some (.pointer (ptr (at_ H i.toNat).b)):=by
  rw [zae]
  have:=o.cells (i.toNat*1+0) (pv (at_ H i.toNat)) (by rw [Nat.mul_one,Nat.add_zero]; exact map_at h)
  exact this
theorem zvM {e:TypeId} {n:Nat} {q:Option Addr} {xs:List Value} {v:Value} {ns:List Nat} {i:Int} {K:World->Prop} (ho:Own B w e 1 q n c xs) (hi:i.toNat<xs.length) (h1:v.oneCell'=true) (hns:∀ b∈ns,∀ x,q=some x->x.block≠b)
    (hk:∀ w',Own B w' e 1 q n c (xs.set i.toNat v)->zcv w w' q q->K w'):zao w (pIdx q i 1) [v] ns K :=
  zaW ho (by rw [zs7,Nat.mul_one]) (by simp; omega) (by simp) (by simpa using h1) hns hk
theorem zIP {t u:Th} {i k:Nat} (ht:Own B w zam 4 (ptr t.b) 1 1 (thc t i)) (hu:Own B w zam 4 (ptr u.b) 1 1 (thc u k)) :
    FnP Tryz.prog zdo #[.pointer (ptr t.b),.pointer (ptr u.b)] w fun v w'=>Ext w w'/\v=.bool (decide (ahead t u)):=by
  refine zjR (ptr t.b) (ptr u.b) w _ ?_
  unfold ze3
  simp only [zaP]
  have nt:=zaG t.b
  have nu:=zaG u.b
  refine ⟨nt,nt,nt,_,ht.cellAt (i:=0) rfl,nu,nu,nu,_,hu.cellAt (i:=0) rfl,fun _=>nt,fun _=>nt,fun _=>nt,fun hlt w2 h2=>⟨h2,?_⟩,
    fun hle=>⟨_,ht.cellAt (i:=0) rfl,nu,nu,nu,_,hu.cellAt (i:=0) rfl,fun _=>nt,fun _=>nt,fun he=>⟨_,ht.cellAt0 (i:=2) rfl,nu,nu,_,hu.cellAt0 (i:=2) rfl,fun w6 h6=>⟨h6,?_⟩⟩,fun hne w4 h4=>⟨h4,?_⟩⟩⟩
  · rw [decide_eq_true (show ahead t u from .inl hlt)]
  · congr 1
    refine decide_eq_decide.2 ?_
    unfold ahead; omega
  · rw [decide_eq_false]
    unfold ahead; omega
theorem zzn (q:QI B w qb x y p c H) {i k:Int} (i0:0<=i) (hi:i<H.length) (k0:0<=k) (hk:k<H.length) :
    FnP Tryz.prog zeQ #[.slice p H.length c,.int .i64 i,.int .i64 k] w fun v w'=>Ext w w'/\v=.bool (decide (ahead (at_ H i.toNat) (at_ H k.toNat))):=by
  have hp:=q.ne (by omega)
  refine zmR p H.length c i k w _ ⟨hp,i0,hi,_,zoN q.arr i0 (by omega),hp,k0,hk,_,zoN q.arr k0 (by omega),fun w2 h2=>?_⟩
  exact (zIP ((q.th i.toNat (by omega)).ext h2) ((q.th k.toNat (by omega)).ext h2)).mono fun v w3 ⟨e3,qhv⟩=>⟨e3,_,qhv,fun w5 h5=>⟨h5,rfl⟩⟩
theorem len_k:FnP Tryz.prog zfp #[.slice p H.length c] w fun v w'=>Ext w w'/\v=.int .i64 H.length :=
  znX p H.length c w _ fun w0 h0=>⟨h0,rfl⟩
theorem zEj (q:QI B w qb x y p c H) {i k:Int} (i0:0<=i) (hi:i<H.length) (k0:0<=k) (hk:k<H.length) :
    FnP Tryz.prog zeS #[.slice p H.length c,.int .i64 i,.int .i64 k] w fun v w'=>v=.tuple #[]/\QI B w' qb x y p c (swp H i.toNat k.toNat)/\Fr (zju qb p H) w w':=by
  have hp:=q.ne (by omega)
  obtain ⟨a,rfl⟩:∃ a,p=some a:=by cases p with|none=>exact absurd rfl hp|some a=>exact ⟨a,rfl⟩
  obtain ⟨aq',ath⟩:=q.ap a rfl
  have hni:i.toNat<H.length:=by omega
  have hnk:k.toNat<H.length:=by omega
  refine zmT (some a) H.length c i k w _ ⟨hp,k0,hk,_,zoN q.arr k0 hnk,hp,i0,hi,_,zoN q.arr i0 hni,hp,i0,hi,?_⟩
  refine zvM q.arr (by simpa using hni) rfl (by simp) fun w2 o2 g2=>⟨hp,k0,hk,zvM o2 (by simpa using hnk) rfl (by simp) fun w3 o3 g3=>?_⟩
  have e3:((H.map pv).set i.toNat (.pointer (ptr (at_ H k.toNat).b))).set k.toNat (.pointer (ptr (at_ H i.toNat).b))=(swp H i.toNat k.toNat).map pv:=by unfold swp; rw [List.map_set,List.map_set]; rfl
  rw [e3] at o3
  have hl:=zEk H i.toNat k.toNat
  have th3:∀ m,m<H.length->Own B w3 zam 4 (ptr (at_ H m).b) 1 1 (thc (at_ H m) m):=fun m hm =>
    ((q.th m hm).st (zjx fun x hx=>by cases hx; exact ath m hm) g2).st (zjx fun x hx=>by cases hx; exact ath m hm) g3
  have ci:=zoN o3 i0 (by omega)
  have ck:=zoN o3 k0 (by omega)
  rw [zp2 H hni hnk] at ci ck
  rw [if_pos rfl] at ck
  have ci':cell w3 (pIdx (some a) i 1) 0=some (.pointer (ptr (at_ H k.toNat).b)):=by
    rw [ci]; by_cases h:i.toNat=k.toNat
    · rw [if_pos h,h]
    · rw [if_neg h,if_pos rfl]
  refine ⟨hp,i0,hi,_,ci',hp,k0,hk,_,ck,zaG _,zaG _,?_⟩
  refine zcp (th3 k.toNat hnk) (by simp [thc]) rfl (by simp) fun w4 o4 g4=>⟨zaG _,zaG _,?_⟩
  have o4':Own B w4 zam 4 (ptr (at_ H k.toNat).b) 1 1 (thc (at_ H k.toNat) i.toNat):=by
    have:(thc (at_ H k.toNat) k.toNat).set 3 (.int .i64 i)=thc (at_ H k.toNat) i.toNat:=by simp only [thc,List.set_cons_succ,List.set_cons_zero]; rw [Int.toNat_of_nonneg i0]
    rw [<- this]; exact o4
  have h5:Own B w4 zam 4 (ptr (at_ H i.toNat).b) 1 1 (thc (at_ H i.toNat) i.toNat):=by
    by_cases h:i.toNat=k.toNat
    · rw [<- h] at o4'; exact o4'
    · exact (th3 i.toNat hni).st (zb5 fun he=>h (q.inj _ _ hni hnk he)) g4
  refine zcp h5 (by simp [thc]) rfl (by simp) fun w5 o5 g5=>?_
  have o5':Own B w5 zam 4 (ptr (at_ H i.toNat).b) 1 1 (thc (at_ H i.toNat) k.toNat):=by
    have:(thc (at_ H i.toNat) i.toNat).set 3 (.int .i64 k)=thc (at_ H i.toNat) k.toNat:=by simp only [thc,List.set_cons_succ,List.set_cons_zero]; rw [Int.toNat_of_nonneg k0]
    rw [<- this]; exact o5
  intro w8 h8
  have sa:=zp2 H hni hnk
  have mem:∀ m,m<H.length->∃ m',m'<H.length/\at_ (swp H i.toNat k.toNat) m=at_ H m'/\(m'=if m=k.toNat then i.toNat else if m=i.toNat then k.toNat else m):=fun m hm=>by
    rw [sa m]
    by_cases h1:m=k.toNat
    · rw [if_pos h1,if_pos h1]; exact ⟨_,hni,rfl,rfl⟩
    · rw [if_neg h1,if_neg h1]
      by_cases h2:m=i.toNat
      · rw [if_pos h2,if_pos h2]; exact ⟨_,hnk,rfl,rfl⟩
      · rw [if_neg h2,if_neg h2]; exact ⟨_,hm,rfl,rfl⟩
  have out:∀ m,m<H.length->m≠i.toNat->m≠k.toNat->Own B w5 zam 4 (ptr (at_ H m).b) 1 1 (thc (at_ H m) m):=fun m hm h1 h2 =>
    ((th3 m hm).st (zb5 fun he=>h2 (q.inj _ _ hm hnk he)) g4).st (zb5 fun he=>h1 (q.inj _ _ hm hni he)) g5
  refine ⟨rfl,QI.ext ⟨?_,?_,fun m hm=>?_,fun m n hm hn he=>?_,fun m hm=>?_,fun b hb=>⟨?_,fun m hm=>?_⟩⟩ h8,?_⟩
  · rw [hl]
    have s3:=(q.slot.st (zjx fun x hx=>by cases hx; exact Ne.symm aq') g2).st (zjx fun x hx=>by cases hx; exact Ne.symm aq') g3
    exact (s3.st (zb5 (Ne.symm (q.aq _ hnk))) g4).st (zb5 (Ne.symm (q.aq _ hni))) g5
  · rw [hl]
    have f:∀ m,m<H.length->zbP (some a) (ptr (at_ H m).b):=fun m hm u v hu qhv=>by cases hu; cases qhv; exact Ne.symm (ath m hm)
    exact (o3.st (f _ hnk) g4).st (f _ hni) g5
  · rw [hl] at hm
    rw [sa m]
    by_cases h1:m=k.toNat
    · rw [if_pos h1,h1]; exact o5'
    · rw [if_neg h1]
      by_cases h2:m=i.toNat
      · rw [if_pos h2,h2]
        exact o4'.st (zb5 fun he=>by have:=q.inj _ _ hnk hni he; omega) g5
      · rw [if_neg h2]; exact out m hm h2 h1
  · rw [hl] at hm hn
    obtain ⟨m',h1,h2,h3⟩:=mem m hm
    obtain ⟨n',h4,h5,h6⟩:=mem n hn
    rw [h2,h5] at he
    have:=q.inj _ _ h1 h4 he
    subst this
    rw [h3] at h6
    split at h6<;>split at h6<;>(try split at h6)<;>(try split at h6)<;>omega
  · rw [hl] at hm
    obtain ⟨m',h1,h2,-⟩:=mem m hm
    rw [h2]; exact q.aq _ h1
  · cases hb; exact aq'
  · rw [hl] at hm
    cases hb
    obtain ⟨m',h1,h2,-⟩:=mem m hm
    rw [h2]; exact ath _ h1
  · have fa:Fr (zju qb (some a) H) w w3:=(zaR g2 fun x hx=>.inr (.inl ⟨x,hx,rfl⟩)).tr (zaR g3 fun x hx=>.inr (.inl ⟨x,hx,rfl⟩))
    have ft:∀ m,m<H.length->∀ x,ptr (at_ H m).b=some x->zju qb (some a) H x.block:=fun m hm x hx=>by cases hx; exact .inr (.inr ⟨_,zB0 H hm,rfl⟩)
    exact ((fa.tr (zaR g4 (ft _ hnk))).tr (zaR g5 (ft _ hni))).tr (zac h8)
def qhv (qb:Nat):Value:=.iface zb4 (.pointer (ptr qb))
theorem zuz {name:String} {f:FuncId} {pr:Bool} {r:Value} {args:List Value} {K:Value->World->Prop}
    (hm:((Tryz.prog.info? zb4).bind fun i=>i.methods.find? (·.name==name)).map (fun m=>(m.path.toList,m.func))=some ([],some (f,pr)))
    (hr : (receiverAt zb4 (.val (.pointer (ptr qb))) pr (some ((name.splitOn ".").getLastD name))).run Tryz.prog w = .ok r w) (h : FnP Tryz.prog f (#[r] ++ args.toArray) w K) : zqr Tryz.prog name (qhv qb) args w K := by
  cases hi:Tryz.prog.info? zb4 with
  |none => rw [hi] at hm; simp at hm
  |some i =>
    rw [hi] at hm
    simp only [Option.bind_some] at hm
    cases hq:i.methods.find? (·.name==name) with
    |none => rw [hq] at hm; simp at hm
    |some m =>
      rw [hq] at hm
      simp only [Option.map_some,Option.some.injEq,Prod.mk.injEq] at hm
      refine ⟨zb4,.pointer (ptr qb),f,r,rfl,?_,h⟩
      obtain ⟨n,hn⟩:∃ n,Tryz.prog.types.size+Made.depth=n+1:=⟨Tryz.prog.types.size+Made.depth-1,by unfold Made.depth; omega⟩
      rw [hn]
      exact zDh hi hq (by have:=hm.1; exact Array.toList_eq_nil_iff.1 this) hm.2 hr
theorem QI.recv (q:QI B w qb x y p c H) {o:Option String}:(receiverAt zb4 (.val (.pointer (ptr qb))) false o).run Tryz.prog w=.ok (.slice p H.length c) w :=
  zDQ (e:=zej) (d:=.slice za9) (by kernel_rfl) (by kernel_rfl) (by kernel_rfl) (q.slot.cellAt (i:=0) rfl)
theorem zCZ (q : QI B w qb x y p c H) {K : Value -> World -> Prop} (h : FnP Tryz.prog zfp #[.slice p H.length c] w K) : zqr Tryz.prog "Len" (qhv qb) [] w K := zuz (pr := false) (by kernel_rfl) q.recv h
theorem zoj (q : QI B w qb x y p c H) {a b : Value} {K : Value -> World -> Prop} (h : FnP Tryz.prog zeQ #[.slice p H.length c, a, b] w K) : zqr Tryz.prog "Less" (qhv qb) [a, b] w K := zuz (pr := false) (by kernel_rfl) q.recv h
theorem zsx (q : QI B w qb x y p c H) {a b : Value} {K : Value -> World -> Prop} (h : FnP Tryz.prog zeS #[.slice p H.length c, a, b] w K) : zqr Tryz.prog "Swap" (qhv qb) [a, b] w K := zuz (pr := false) (by kernel_rfl) q.recv h
theorem zGi {a : Value} {K : Value -> World -> Prop} (h : FnP Tryz.prog zeR #[.pointer (ptr qb), a] w K) : zqr Tryz.prog "Push" (qhv qb) [a] w K := zuz (pr := true) (by kernel_rfl) (zzC (e := zej) (by kernel_rfl)) h
theorem zJL {K : Value -> World -> Prop} (h : FnP Tryz.prog zfq #[.pointer (ptr qb)] w K) : zqr Tryz.prog "Pop" (qhv qb) [] w K := zuz (pr := true) (by kernel_rfl) (zzC (e := zej) (by kernel_rfl)) h
theorem tdiv2 {j:Int} (h:0<=j):(j-1).tdiv 2=((par j.toNat:Nat):Int):=by
  unfold par
  by_cases h0:j=0
  · subst h0; decide
  · rw [Int.tdiv_eq_ediv_of_nonneg (by omega)]; omega
theorem up_k (q:QI B w qb x y p c H) {j:Int} {n:Nat} (j0:0<=j) (hj:j<n) (hnl:n<=H.length) (hn:H.length<=1000) (hu:Up H n j.toNat) :
    FnP Tryz.prog zdl #[qhv qb,.int .i64 j] w fun v w'=>v=.tuple #[]/\∃ Y,QI B w' qb x y p c Y/\Y.Perm H/\(∀ k,n<=k->at_ Y k=at_ H k)/\Hp Y n/\Fr (zju qb p H) w w':=by
  refine zjP (qhv qb) j w _ ⟨fun j1 w'=>0<=j1/\j1<n/\∃ Y,QI B w' qb x y p c Y/\Y.Perm H/\(∀ k,n<=k->at_ Y k=at_ H k)/\Up Y n j1.toNat/\Fr (zju qb p H) w w',fun j1 _=>j1.toNat,⟨j0,hj,H,q,.refl _,fun _ _=>rfl,hu,Fr.refl _ _⟩,?_⟩
  rintro j1 w2 ⟨h0,h1,Y,qy,hp,hout,hu,hf⟩
  have hl:=hp.length_eq
  simp only [tdiv2 h0]
  have hpar:par j1.toNat<=j1.toNat:=by unfold par; omega
  refine ⟨i64 (by omega),i64 (by omega),fun he w3 h3=>?_,fun hne w3 h3=>zoj (qy.ext h3) ((zzn (qy.ext h3) h0 (by omega) (by omega) (by omega)).mono fun v w4 ⟨e4,qhv⟩=>⟨_,qhv,fun hb w6 h6=>?_,fun hb w6 h6=>?_⟩)⟩
  · have:j1.toNat=0:=by unfold par at he; omega
    rw [this] at hu
    exact ⟨trivial,Y,qy.ext h3,hp,hout,zEz hu,hf.tr (zac h3)⟩
  · simp only [Int.toNat_natCast,decide_eq_false_iff_not] at hb
    exact ⟨trivial,Y,((qy.ext h3).ext e4).ext h6,hp,hout,zKE hu hb,((hf.tr (zac h3)).tr (zac e4)).tr (zac h6)⟩
  · simp only [Int.toNat_natCast,decide_eq_true_eq] at hb
    have q6:=((qy.ext h3).ext e4).ext h6
    have hlt:par j1.toNat<j1.toNat:=by unfold par at hne ⊢; omega
    refine zsx q6 ((zEj q6 (by omega) (by omega) h0 (by omega)).mono fun v w7 ⟨qhv,q7,f7⟩=>⟨qhv,⟨by omega,by omega,_,q7,?_,fun k hk=>?_,?_,?_⟩,by omega⟩)
    · exact (zoB Y (by omega) (by omega)).trans hp
    · rw [zp2 Y (by omega) (by omega),if_neg (by omega),if_neg (by omega)]; exact hout k hk
    · simp only [Int.toNat_natCast]
      exact zKD (by omega) (by omega) (by omega) hu hb
    · exact (((hf.tr (zac h3)).tr (zac e4)).tr (zac h6)).tr (f7.mono fun b=>(zo5 hp b).1)
theorem down_k (q:QI B w qb x y p c H) {i0 n:Int} (h00:0<=i0) (n0:0<=n) (hn:n<=H.length) (hH:H.length<=1000) (hi:i0<=1000) (hu:Dn H n.toNat i0.toNat i0.toNat) :
    FnP Tryz.prog zcJ #[qhv qb,.int .i64 i0,.int .i64 n] w fun v w'=>∃ (r:Bool) (Y:List Th),v=.bool r/\QI B w' qb x y p c Y/\Y.Perm H/\(∀ k,n.toNat<=k->at_ Y k=at_ H k)/\(r=true->Hp Y n.toNat)/\(r=false->Y=H/\Up Y n.toNat i0.toNat)/\Fr (zju qb p H) w w':=by
  refine ziy (qhv qb) i0 n w _ ⟨fun i w'=>i0<=i/\(i<n\/i=i0)/\∃ Y,QI B w' qb x y p c Y/\Y.Perm H/\(∀ k,n.toNat<=k->at_ Y k=at_ H k)/\(i=i0->Y=H)/\Dn Y n.toNat i0.toNat i.toNat/\Fr (zju qb p H) w w',fun i _=>(2001-i).toNat,⟨Int.le_refl _,.inr rfl,H,q,.refl _,fun _ _=>rfl,fun _=>rfl,hu,Fr.refl _ _⟩,?_⟩
  rintro i w2 ⟨hi0,hin,Y,qy,hp,hout,hsame,hd,hf⟩
  have hl:=hp.length_eq
  have stop:∀ w',QI B w' qb x y p c Y->Fr (zju qb p H) w w'->(∀ k,1<=k->k<n.toNat->par k=i.toNat->¬ ahead (at_ Y k) (at_ Y i.toNat))->∃ (r:Bool) (Y:List Th),Value.bool (decide (i0<i))=.bool r/\QI B w' qb x y p c Y/\Y.Perm H/\(∀ k,n.toNat<=k->at_ Y k=at_ H k)/\(r=true->Hp Y n.toNat)/\(r=false->Y=H/\Up Y n.toNat i0.toNat)/\Fr (zju qb p H) w w':=by
    intro w' qw fw hs
    refine ⟨_,Y,rfl,qw,hp,hout,fun h=>?_,fun h=>?_,fw⟩
    · simp only [decide_eq_true_eq] at h
      exact zsj hd (by omega) hs
    · simp only [decide_eq_false_iff_not] at h
      obtain rfl:i=i0:=by omega
      exact ⟨hsame rfl,zt7 hd hs⟩
  have kid:∀ k,1<=k->k<n.toNat->par k=i.toNat->(k:Int)=2*i+1\/(k:Int)=2*i+1+1:=fun k k1 kn hk=>by unfold par at hk; omega
  have step:∀ (j:Int) (w6:World),(j=2*i+1\/j=2*i+1+1)->j<n->QI B w6 qb x y p c Y->Fr (zju qb p H) w w6->ahead (at_ Y j.toNat) (at_ Y i.toNat)->(∀ k,1<=k->k<n.toNat->par k=i.toNat->¬ ahead (at_ Y k) (at_ Y j.toNat)) ->
      zqr Tryz.prog "Swap" (qhv qb) [.int .i64 i, .int .i64 j] w6 fun v7 w7 => v7 = .tuple #[] /\ ((i0 <= j /\ (j < n \/ j = i0) /\ ∃ Y, QI B w7 qb x y p c Y /\ Y.Perm H /\ (∀ k, n.toNat <= k -> at_ Y k = at_ H k) /\ (j = i0 -> Y = H) /\ Dn Y n.toNat i0.toNat j.toNat /\ Fr (zju qb p H) w w7) /\ (2001 - j).toNat < (2001 - i).toNat) := by
    intro j w6 hj hjn qw fw ha hs
    refine zsx qw ((zEj qw (by omega) (by omega) (by omega) (by omega)).mono fun v w7 ⟨qhv,q7,f7⟩=>⟨qhv,⟨by omega,.inl hjn,_,q7,?_,fun k hk=>?_,fun h=>by omega,?_,?_⟩,by omega⟩)
    · exact (zoB Y (by omega) (by omega)).trans hp
    · rw [zp2 Y (by omega) (by omega),if_neg (by omega),if_neg (by omega)]; exact hout k hk
    · exact zJc (by omega) (by omega) (by omega) (by unfold par; omega) (by omega) hd ha hs
    · exact fw.tr (f7.mono fun b=>(zo5 hp b).1)
  refine ⟨i64 (by omega),i64 (by omega),fun hge w3 h3=>stop w3 (qy.ext h3) (hf.tr (zac h3)) fun k k1 kn hk=>by rcases kid k k1 kn hk with h|h<;>omega,fun hlt=>⟨i64 (by omega),fun h2 w3 h3=>?_,fun h2 w3 h3=>?_⟩⟩
  · have q3:=qy.ext h3
    refine zoj q3 ((zzn q3 (by omega) (by omega) (by omega) (by omega)).mono fun v w4 ⟨e4,qhv⟩=>⟨_,qhv,fun hb w6 h6=>?_,fun hb w6 h6=>?_⟩)
    all_goals
      have q6:=(q3.ext e4).ext h6
      have f6:=((hf.tr (zac h3)).tr (zac e4)).tr (zac h6)
      simp only [decide_eq_true_eq,decide_eq_false_iff_not] at hb
      refine zoj q6 ((zzn q6 (by omega) (by omega) (by omega) (by omega)).mono fun v w7 ⟨e7,qhv⟩=>⟨_,qhv,fun hc w9 h9=>?_,fun hc w9 h9=>?_⟩)
      all_goals
        have q9:=(q6.ext e7).ext h9
        have f9:=(f6.tr (zac e7)).tr (zac h9)
        simp only [decide_eq_true_eq,decide_eq_false_iff_not] at hc
    · refine stop w9 q9 f9 fun k k1 kn hk=>?_
      rcases kid k k1 kn hk with h|h
      · have:k=(2*i+1).toNat:=by omega
        rw [this]; exact fun h'=>hc (zoM hb h')
      · have:k=(2*i+1+1).toNat:=by omega
        rw [this]; exact hc
    · refine step _ w9 (.inr rfl) h2 q9 f9 hc fun k k1 kn hk=>?_
      rcases kid k k1 kn hk with h|h
      · have:k=(2*i+1).toNat:=by omega
        rw [this]; exact zkk hb
      · have:k=(2*i+1+1).toNat:=by omega
        rw [this]; unfold ahead; omega
    · refine stop w9 q9 f9 fun k k1 kn hk=>?_
      rcases kid k k1 kn hk with h|h
      · have:k=(2*i+1).toNat:=by omega
        rw [this]; exact hc
      · have:k=(2*i+1+1).toNat:=by omega
        rw [this]; exact zdU hb hc
    · refine step _ w9 (.inl rfl) hlt.1 q9 f9 hc fun k k1 kn hk=>?_
      rcases kid k k1 kn hk with h|h
      · have:k=(2*i+1).toNat:=by omega
        rw [this]; unfold ahead; omega
      · have:k=(2*i+1+1).toNat:=by omega
        rw [this]; exact hb
  · have q3:=qy.ext h3
    refine zoj q3 ((zzn q3 (by omega) (by omega) (by omega) (by omega)).mono fun v w4 ⟨e4,qhv⟩=>⟨_,qhv,fun hb w6 h6=>?_,fun hb w6 h6=>?_⟩)
    all_goals
      have q6:=(q3.ext e4).ext h6
      have f6:=((hf.tr (zac h3)).tr (zac e4)).tr (zac h6)
      simp only [decide_eq_true_eq,decide_eq_false_iff_not] at hb
    · refine stop w6 q6 f6 fun k k1 kn hk=>?_
      rcases kid k k1 kn hk with h|h
      · have:k=(2*i+1).toNat:=by omega
        rw [this]; exact hb
      · omega
    · refine step _ w6 (.inl rfl) hlt.1 q6 f6 hb fun k k1 kn hk=>?_
      rcases kid k k1 kn hk with h|h
      · have:k=(2*i+1).toNat:=by omega
        rw [this]; unfold ahead; omega
      · omega
end
section
variable {B qb:Nat} {x y:Value} {p:Option Addr} {c:Nat} {H:List Th} {w:World}
def tv (b:Nat):Value:=.iface za9 (.pointer (ptr b))
theorem zeC {H:List Th} {t:Th} {k:Nat} (h:k<H.length):at_ (H++[t]) k=at_ H k:=by
  unfold at_; rw [List.getD_eq_getElem?_getD,List.getD_eq_getElem?_getD,List.getElem?_append_left h]
theorem ziO {H:List Th} {t:Th}:at_ (H++[t]) H.length=t:=by
  unfold at_; rw [List.getD_eq_getElem?_getD,List.getElem?_append_right (Nat.le_refl _)]; simp
theorem zmi {H:List Th} {m k:Nat} (h:k<m):at_ (H.take m) k=at_ H k:=by
  unfold at_; rw [List.getD_eq_getElem?_getD,List.getD_eq_getElem?_getD,List.getElem?_take,if_pos h]
theorem push_k (q:QI B w qb x y p c H) (hn:H.length<=999) (hB:B<=w.heap.size) {t:Th} {j:Nat} (ht:Own B w zam 4 (ptr t.b) 1 1 (thc t j)) (hf:¬ zju qb p H t.b) :
    FnP Tryz.prog zeR #[.pointer (ptr qb),tv t.b] w fun v w'=>v=.tuple #[]/\∃ p' c',QI B w' qb x y p' c' (H++[t])/\Fr (zju qb p (t::H)) w w'/\(∀ a,p'=some a->(∃ a',p=some a'/\a'.block=a.block)\/w.heap.size<=a.block):=by
  have hq:t.b≠qb:=fun h=>hf (.inl h)
  have hpa:∀ a,p=some a->t.b≠a.block:=fun a ha h=>hf (.inr (.inl ⟨a,ha,h.symm⟩))
  have hth:∀ k,k<H.length->(at_ H k).b≠t.b:=fun k hk h=>hf (.inr (.inr ⟨_,zB0 H hk,h⟩))
  refine zmS (ptr qb) (tv t.b) w _ fun w0 h0=>zrV (d:=.pointer zam) (by kernel_rfl) (by simp) ⟨Ext.refl _,_,rfl,zaG _,_,_,_,(q.slot.ext h0).cellAt (i:=0) rfl,zaG _,zaG _,?_⟩
  have q0:=q.ext h0
  refine zcp (ht.ext h0) (by simp [thc]) rfl (by simp) fun w6 o6 g6=>?_
  have o6':Own B w6 zam 4 (ptr t.b) 1 1 (thc t H.length):=o6
  have s6:=q0.slot.st (zb5 (Ne.symm hq)) g6
  have a6:=q0.arr.st (fun u v hu qhv=>by cases qhv; exact Ne.symm (hpa u hu)) g6
  have t6:∀ k,k<H.length->Own B w6 zam 4 (ptr (at_ H k).b) 1 1 (thc (at_ H k) k):=fun k hk=>(q0.th k hk).st (zb5 (hth k hk)) g6
  have f6:Fr (zju qb p (t::H)) w w6:=(zac h0).tr (zaR g6 fun a ha=>by cases ha; exact .inr (.inr ⟨t,List.mem_cons_self ..,rfl⟩))
  have hB6:B<=w6.heap.size:=Nat.le_trans hB f6.size
  refine ⟨zaG _,_,_,_,s6.cellAt (i:=0) rfl,?_⟩
  refine push zqv (by omega) a6 hB6 rfl (by intro u hu; simp [Value.cells] at hu; subst hu; rfl) (by omega) (by omega) (by omega) fun p' c' w16 o16 g16 hp'=>⟨zaG _,?_⟩
  have s16:=s6.st (fun u v hu qhv=>by cases hu; exact Ne.symm (q.ap v qhv).1) g16
  have t16:∀ k,k<H.length->Own B w16 zam 4 (ptr (at_ H k).b) 1 1 (thc (at_ H k) k):=fun k hk=>(t6 k hk).st (zjx fun v qhv=>(q.ap v qhv).2 k hk) g16
  have o16t:=o6'.st (zjx fun v qhv=>hpa v qhv) g16
  have np:∀ a,p'=some a->(∃ a',p=some a'/\a'.block=a.block)\/w6.heap.size<=a.block:=fun a ha=>by
    rcases g16.new with h|h
    · subst ha
      cases p with
      |none => simp [blk] at h
      |some z => simp [blk] at h; exact .inl ⟨z,rfl,h.symm⟩
    · exact .inr (h a ha)
  have ap':∀ a,p'=some a->a.block≠qb/\a.block≠t.b/\∀ k,k<H.length->(at_ H k).b≠a.block:=fun a ha=>by
    rcases np a ha with ⟨z,hz,he⟩|h
    · rw [<- he]
      exact ⟨(q.ap z hz).1,Ne.symm (hpa z hz),(q.ap z hz).2⟩
    · have l1:=(s6.lt _ rfl).2
      have l2:=(o6'.lt _ rfl).2
      exact ⟨fun e=>by simp [ptr] at l1; omega,fun e=>by simp [ptr] at l2; omega,fun k hk e=>by have:=((t6 k hk).lt _ rfl).2; simp at this; omega⟩
  have st16:zao w16 (ptr qb) [.slice p' (H.length+1) c'] [] fun w20=>∀ w21,Ext w20 w21->(Value.tuple #[]=.tuple #[]/\∃ p' c',QI B w21 qb x y p' c' (H++[t])/\Fr (zju qb p (t::H)) w w21/\(∀ a,p'=some a->(∃ a',p=some a'/\a'.block=a.block)\/w.heap.size<=a.block)):=by
    have:=zcp (off:=0) s16 (by simp) (v:=.slice p' (H.length+1) c') rfl (ns:=[]) (by simp) (K:=fun w20=>∀ w21,Ext w20 w21->(Value.tuple #[]=.tuple #[]/\∃ p' c',QI B w21 qb x y p' c' (H++[t])/\Fr (zju qb p (t::H)) w w21/\(∀ a,p'=some a->(∃ a',p=some a'/\a'.block=a.block)\/w.heap.size<=a.block))) fun w20 o20 g20 w21 h21=>?_
    · rw [zaP] at this; exact this
    have hl:(H++[t]).length=H.length+1:=by simp
    refine ⟨rfl,p',c',QI.ext ⟨?_,?_,fun k hk=>?_,fun i k hi hk he=>?_,fun i hi=>?_,fun a ha=>⟨(ap' a ha).1,fun i hi=>?_⟩⟩ h21,?_,fun a ha=>?_⟩
    · rw [hl]; exact o20
    · rw [hl,List.map_append]
      have:Own B w16 za9 1 p' (H.length+1) c' (H.map pv++[t].map pv):=o16
      exact this.st (fun u v hu qhv=>by cases qhv; exact (ap' u hu).1) g20
    · rw [hl] at hk
      by_cases h:k<H.length
      · rw [zeC h]; exact (t16 k h).st (zb5 (q.aq k h)) g20
      · obtain rfl:k=H.length:=by omega
        rw [ziO]; exact o16t.st (zb5 hq) g20
    · rw [hl] at hi hk
      by_cases h1:i<H.length<;>by_cases h2:k<H.length
      · rw [zeC h1,zeC h2] at he; exact q.inj i k h1 h2 he
      · obtain rfl:k=H.length:=by omega
        rw [zeC h1,ziO] at he; exact absurd he (hth i h1)
      · obtain rfl:i=H.length:=by omega
        rw [zeC h2,ziO] at he; exact absurd he.symm (hth k h2)
      · omega
    · rw [hl] at hi
      by_cases h1:i<H.length
      · rw [zeC h1]; exact q.aq i h1
      · obtain rfl:i=H.length:=by omega
        rw [ziO]; exact hq
    · rw [hl] at hi
      by_cases h1:i<H.length
      · rw [zeC h1]; exact (ap' a ha).2.2 i h1
      · obtain rfl:i=H.length:=by omega
        rw [ziO]; exact Ne.symm (ap' a ha).2.1
    · refine ((f6.tr (zaR g16 fun a ha=>.inr (.inl ⟨a,ha,rfl⟩))).tr (zaR g20 fun a ha=>by cases ha; exact .inl rfl)).tr (zac h21)
    · rcases np a ha with h|h
      · exact .inl h
      · exact .inr (Nat.le_trans f6.size h)
  exact st16
theorem pop_k (q:QI B w qb x y p c H) (hl:0<H.length) :
    FnP Tryz.prog zfq #[.pointer (ptr qb)] w fun v w'=>v=tv (at_ H (H.length-1)).b/\QI B w' qb x y p c (H.take (H.length-1))/\Fr (fun b=>b=qb) w w'/\Own B w' zam 4 (ptr (at_ H (H.length-1)).b) 1 1 (thc (at_ H (H.length-1)) (H.length-1)):=by
  have hp:=q.ne hl
  have s0:=q.slot.cellAt (i:=0) rfl
  have hc:=q.arr.le
  have e1:((H.length:Int)-1).toNat=H.length-1:=by omega
  have ca:=zoN q.arr (i:=(H.length:Int)-1) (by omega) (by omega)
  rw [e1] at ca
  refine znY (ptr qb) w _ ⟨zaG _,_,_,_,s0,i64 (by omega),zaG _,_,_,_,s0,hp,by omega,by omega,_,ca,zaG _,_,_,_,s0,by omega,by omega,by omega,zaG _,?_⟩
  rw [show (((H.length:Int)-1)-0).toNat=H.length-1 by omega,show c-(0:Int).toNat=c by simp,zfD]
  have st:=zcp (off:=0) q.slot (by simp) (v:=.slice p (H.length-1) c) rfl (ns:=[]) (by simp) (K:=fun w10=>∀ w11,Ext w10 w11->Run Tryz.prog (.makeInterface za9 (.pointer (ptr (at_ H (H.length-1)).b))) w11 fun v12 w12=>Ext w11 w12/\∃ t13:Value,v12=t13/\∀ w14,Ext w12 w14 ->
    (t13=tv (at_ H (H.length-1)).b/\QI B w14 qb x y p c (H.take (H.length-1))/\Fr (fun b=>b=qb) w w14/\Own B w14 zam 4 (ptr (at_ H (H.length-1)).b) 1 1 (thc (at_ H (H.length-1)) (H.length-1)))) fun w10 o10 g10 w11 h11=>?_
  · rw [zaP] at st; exact st
  refine zfF (d:=.pointer zam) (by kernel_rfl) (by simp) ⟨Ext.refl _,_,rfl,fun w14 h14=>⟨rfl,?_,((zaR g10 fun a ha=>by cases ha; rfl).tr (zac h11)).tr (zac h14),?_⟩⟩
  · refine QI.ext (QI.ext ?_ h11) h14
    have hm:(H.take (H.length-1)).length=H.length-1:=by simp
    have th:∀ k,k<H.length->Own B w10 zam 4 (ptr (at_ H k).b) 1 1 (thc (at_ H k) k):=fun k hk=>(q.th k hk).st (zb5 (q.aq k hk)) g10
    refine ⟨?_,?_,fun k hk=>?_,fun i k hi hk he=>?_,fun i hi=>?_,fun a ha=>⟨(q.ap a ha).1,fun i hi=>?_⟩⟩
    · rw [hm]; exact o10
    · have:=(q.arr.st (fun u v hu qhv=>by cases qhv; exact (q.ap u hu).1) g10).pre (m:=H.length-1) (by omega)
      rw [hm,List.map_take]; rw [Nat.mul_one] at this; exact this
    · rw [hm] at hk; rw [zmi hk]; exact th k (by omega)
    · rw [hm] at hi hk; rw [zmi hi,zmi hk] at he; exact q.inj i k (by omega) (by omega) he
    · rw [hm] at hi; rw [zmi hi]; exact q.aq i (by omega)
    · rw [hm] at hi; rw [zmi hi]; exact (q.ap a ha).2 i (by omega)
  · exact (((q.th (H.length-1) (by omega)).st (zb5 (q.aq _ (by omega))) g10).ext h11).ext h14
theorem zo4 {p':Option Addr} {t:Th} {G:List Th} {n:Nat} (hg:∀ u∈G,u=t\/u∈H) (hp:∀ a,p'=some a->(∃ a',p=some a'/\a'.block=a.block)\/n<=a.block) (b:Nat) (h:zju qb p' G b):zju qb p (t::H) b\/n<=b:=by
  rcases h with h|⟨a,ha,rfl⟩|⟨u,hu,rfl⟩
  · exact .inl (.inl h)
  · rcases hp a ha with ⟨z,hz,he⟩|h
    · exact .inl (.inr (.inl ⟨z,hz,he⟩))
    · exact .inr h
  · refine .inl (.inr (.inr ⟨u,?_,rfl⟩))
    rcases hg u hu with rfl|h
    · exact List.mem_cons_self ..
    · exact List.mem_cons_of_mem _ h
theorem zw8 (q:QI B w qb x y p c H) (hh:Hp H H.length) (hn:H.length<=999) (hB:B<=w.heap.size) {t:Th} {j:Nat} (ht:Own B w zam 4 (ptr t.b) 1 1 (thc t j)) (hf:¬ zju qb p H t.b) :
    FnP Tryz.prog zcI #[qhv qb,tv t.b] w fun v w'=>v=.tuple #[]/\∃ p' c' Y,QI B w' qb x y p' c' Y/\Y.Perm (t::H)/\Hp Y Y.length/\Fr (zju qb p (t::H)) w w'/\(∀ a,p'=some a->(∃ a',p=some a'/\a'.block=a.block)\/w.heap.size<=a.block):=by
  refine zix (qhv qb) (tv t.b) w _ fun w0 h0=>zGi ((push_k (q.ext h0) hn (Nat.le_trans hB h0.size) (ht.ext h0) hf).mono fun v w1 ⟨qhv,p',c',q1,f1,np⟩=>⟨qhv,fun w2 h2=>?_⟩)
  have q2:=q1.ext h2
  have hl:(H++[t]).length=H.length+1:=by simp
  refine zCZ q2 (len_k.mono fun v w3 ⟨e3,qhv⟩=>⟨_,qhv,i64 (by omega),fun w5 h5=>?_⟩)
  have q5:=(q2.ext e3).ext h5
  have hup:Up (H++[t]) (H.length+1) H.length:=zHm (zza hh fun k hk=>zeC hk)
  rw [show (((H++[t]).length:Int)-1)=(H.length:Int) by omega]
  refine (up_k q5 (j:=(H.length:Int)) (n:=H.length+1) (by omega) (by omega) (by omega) (by omega) hup).mono fun v w6 ⟨qhv,Y,q6,hp,_,hhp,f6⟩=>⟨qhv,fun w7 h7=>⟨rfl,p',c',Y,q6.ext h7,hp.trans (List.perm_append_comm (l₁:=H) (l₂:=[t])),?_,?_,fun a ha=>?_⟩⟩
  · rw [hp.length_eq,hl]; exact hhp
  · have f5:Fr (zju qb p (t::H)) w w5:=((((zac h0).tr f1).tr (zac h2)).tr (zac e3)).tr (zac h5)
    refine (f5.trans f6 fun b hb=>zo4 (fun u hu=>?_) (fun a ha=>?_) b hb).tr (zac h7)
    · rcases List.mem_append.1 hu with h|h
      · exact .inr h
      · exact .inl (by simpa using h)
    · rcases np a ha with h|h
      · exact .inl h
      · exact .inr (Nat.le_trans h0.size h)
  · rcases np a ha with h|h
    · exact .inl h
    · exact .inr (Nat.le_trans h0.size h)
theorem zEn {Y:List Th} (h:0<Y.length):Y.take (Y.length-1)++[at_ Y (Y.length-1)]=Y:=by
  have:=List.take_append_drop (Y.length-1) Y
  have hd:Y.drop (Y.length-1)=[at_ Y (Y.length-1)]:=by
    rw [List.drop_eq_getElem_cons (by omega),List.drop_of_length_le (by omega)]
    unfold at_
    rw [List.getD_eq_getElem?_getD,List.getElem?_eq_getElem (by omega)]; rfl
  rw [<- hd]; exact this
theorem zDF {Y G:List Th} (h:0<Y.length) (hp:Y.Perm G):(at_ Y (Y.length-1)::Y.take (Y.length-1)).Perm G:=by
  refine List.Perm.trans ?_ hp
  have:=zEn h
  refine List.Perm.trans (List.perm_append_comm (l₁:=[_])) ?_
  rw [this]
theorem zAD (q:QI B w qb x y p c H) (hh:Hp H H.length) (h0:0<H.length) (hn:H.length<=1000) :
    FnP Tryz.prog zc8 #[qhv qb] w fun v w'=>∃ (t:Th) (j:Nat) (Y:List Th),v=tv t.b/\QI B w' qb x y p c Y/\(t::Y).Perm H/\Hp Y Y.length/\(∀ u∈H,¬ ahead u t)/\Own B w' zam 4 (ptr t.b) 1 1 (thc t j)/\Fr (zju qb p H) w w':=by
  refine zi5 (qhv qb) w _ fun w0 h0'=>zCZ (q.ext h0') (len_k.mono fun v w1 ⟨e1,qhv⟩=>⟨_,qhv,i64 (by omega),fun w3 h3=>?_⟩)
  have q3:=((q.ext h0').ext e1).ext h3
  have f3:Fr (zju qb p H) w w3:=((zac h0').tr (zac e1)).tr (zac h3)
  refine zsx q3 ((zEj q3 (by omega) (by omega) (by omega) (by omega)).mono fun v w4 ⟨qhv,q4,f4⟩=>⟨qhv,fun w5 h5=>?_⟩)
  have e0:((H.length:Int)-1).toNat=H.length-1:=by omega
  rw [e0] at q4
  have q5:=q4.ext h5
  have hl:=zEk H (0:Int).toNat (H.length-1)
  have sa:=zp2 H (i:=(0:Int).toNat) (j:=H.length-1) (by simpa using h0) (by omega)
  refine (down_k q5 (by omega) (by omega) (by omega) (by omega) (by omega) ?_).mono fun v w6 ⟨r,Y,qhv,q6,hp,hout,ht,hf,f6⟩=>⟨_,qhv,fun w8 h8=>?_⟩
  · rw [e0]
    by_cases h1:H.length-1=0
    · rw [h1]; exact ⟨fun k _ hk=>by omega,fun h=>by simp at h⟩
    · refine zFL (zJJ hh (by omega)) (fun k hk hk0=>?_) (by simp; omega)
      rw [sa k,if_neg (by omega),if_neg hk0]
  · have hYl:Y.length=H.length:=by rw [hp.length_eq,hl]
    have hY:Hp Y (H.length-1):=by
      rw [e0] at ht hf
      cases r with
      |true => exact ht rfl
      |false => exact zEz (hf rfl).2
    have q8:=q6.ext h8
    have hlast:at_ Y (Y.length-1)=at_ H 0:=by
      rw [hYl,hout _ (by omega),sa,if_pos rfl]; rfl
    have hpH:Y.Perm H:=hp.trans (zoB H (by simpa using h0) (by omega))
    refine zJL ((pop_k q8 (by omega)).mono fun v w9 ⟨qhv,q9,f9,o9⟩=>⟨v,rfl,fun w11 h11=>⟨at_ Y (Y.length-1),Y.length-1,Y.take (Y.length-1),qhv,q9.ext h11,zDF (by omega) hpH,?_,fun u hu=>?_,o9.ext h11,?_⟩⟩)
    · rw [List.length_take,Nat.min_eq_left (by omega),hYl]
      exact zza hY fun k hk=>zmi hk
    · rw [hlast]
      obtain ⟨k,hk,rfl⟩:=zH1 hu
      exact zGf hh k hk
    · have fp:∀ b,zju qb p (swp H (0:Int).toNat (H.length-1)) b->zju qb p H b:=fun b=>(zo5 (zoB H (by simpa using h0) (by omega)) b).1
      exact (((((f3.tr f4).tr (zac h5)).tr (f6.mono fp)).tr (zac h8)).tr (f9.mono fun b hb=>.inl hb)).tr (zac h11)
end
def zJn:Int->Value:=Value.int .i64
theorem kq:zBe Tryz.prog zfr zJn (.int .i64):=zGp (by kernel_rfl)
theorem mapq:Tryz.prog.underlying zgm=some (.map zfr za9):=by kernel_rfl
def Rel (H:List Th) (m:List (Int×Value)):Prop:=(∀ t∈H,ziw m t.id=some (pv t))/\∀ id v,ziw m id=some v->∃ t∈H,t.id=id/\v=pv t
structure QQ (B:Nat) (w:World) (qb mb:Nat) (born:Int) (p:Option Addr) (c:Nat) (H:List Th) (m:List (Int×Value)):Prop where
  qi:QI B w qb (.map (some mb)) (.int .i64 born) p c H
  mp:zdb zJn w mb m
  hp:Hp H H.length
  mB:B<=mb
  mf:¬ zju qb p H mb
def zit (mb qb:Nat) (p:Option Addr) (H:List Th) (b:Nat):Prop:=b=mb\/zju qb p H b
section
variable {B qb mb:Nat} {born:Int} {p:Option Addr} {c:Nat} {H:List Th} {m:List (Int×Value)} {w:World}
theorem QQ.ext {w':World} (q:QQ B w qb mb born p c H m) (h:Ext w w'):QQ B w' qb mb born p c H m:=⟨q.qi.ext h,q.mp.ext h,q.hp,q.mB,q.mf⟩
theorem QQ.fr {S:Nat->Prop} {w':World} (q:QQ B w qb mb born p c H m) (h:Fr S w w') (hs:∀ b,zit mb qb p H b->¬ S b):QQ B w' qb mb born p c H m:=⟨q.qi.fr h fun b hb=>hs b (.inr hb),q.mp.fr h (hs _ (.inl rfl)),q.hp,q.mB,q.mf⟩
theorem QQ.foot (q:QQ B w qb mb born p c H m) {b:Nat} (h:zit mb qb p H b):B<=b/\b<w.heap.size:=by
  rcases h with rfl|h
  · exact ⟨q.mB,q.mp.lt⟩
  · exact q.qi.foot h
theorem QI.reslot {x y y':Value} {w':World} (q:QI B w qb x y p c H) (o:Own B w' zk4 3 (ptr qb) 1 1 [.slice p H.length c,x,y']) (g:zcv w w' (ptr qb) (ptr qb)):QI B w' qb x y' p c H :=
  ⟨o,q.arr.st (fun u v hu qhv=>by cases qhv; exact (q.ap u hu).1) g,fun k hk=>(q.th k hk).st (zb5 (q.aq k hk)) g,q.inj,q.aq,q.ap⟩
theorem qnew_k:FnP Tryz.prog zki #[] w fun v w'=>Ext w w'/\∃ qb mb,v=.pointer (ptr qb)/\w.heap.size<=qb/\∀ B,B<=w.heap.size->QQ B w' qb mb 0 none 0 [] []:=by
  refine zvj w _ fun w0 h0=>zkL (enc:=zJn) fun w1 m1 e1=>⟨e1,_,rfl,rfl,fun w3 h3=>zbE (by simp [Value.oneCell']) fun w4 o4 e4 w5 h5=>⟨(((h0.trans e1).trans h3).trans e4).trans h5,w3.heap.size,w0.heap.size,rfl,?_,fun B hB=>?_⟩⟩
  · exact Nat.le_trans (Nat.le_trans h0.size e1.size) h3.size
  · have hm:=m1.lt
    refine QQ.ext ⟨⟨o4 B (Nat.le_trans (Nat.le_trans (Nat.le_trans hB h0.size) e1.size) h3.size),Own.nil,fun k hk=>by simp at hk,fun i k hi=>by simp at hi,fun i hi=>by simp at hi,fun a ha=>by cases ha⟩,(m1.ext h3).ext e4,fun k k1 kn=>by simp at kn,Nat.le_trans hB h0.size,?_⟩ h5
    rintro (h|⟨a,ha,_⟩|⟨t,ht,_⟩)
    · have:=h3.size; omega
    · cases ha
    · cases ht
theorem zGU (hr:Rel H m) (id:Int):∃ t3:Option Addr,(ziw m id).getD (.pointer none)=.pointer t3/\(t3=none↔∀ t∈H,t.id≠id)/\(t3≠none->∃ t∈H,t.id=id/\t3=ptr t.b):=by
  cases hm:ziw m id with
  |none =>
    refine ⟨none,rfl,⟨fun _ t ht he=>?_,fun _=>rfl⟩,fun h=>absurd rfl h⟩
    have:=hr.1 t ht; rw [he,hm] at this; cases this
  |some v =>
    obtain ⟨t,ht,he,rfl⟩:=hr.2 id v hm
    exact ⟨ptr t.b,rfl,⟨fun h=>absurd h (zaG _),fun h=>absurd he (h t ht)⟩,fun _=>⟨t,ht,he,rfl⟩⟩
theorem zKj {t:Th} {Y:List Th} (hr:Rel H m) (hn:∀ u∈H,u.id≠t.id) (hp:Y.Perm (t::H)):Rel Y (zql m t.id (pv t)):=by
  refine ⟨fun u hu=>?_,fun id v qhv=>?_⟩
  · rw [zlt]
    rcases List.mem_cons.1 (hp.mem_iff.1 hu) with rfl|h
    · rw [if_pos rfl]
    · rw [if_neg (Ne.symm (hn u h))]; exact hr.1 u h
  · rw [zlt] at qhv
    split at qhv
    · rename_i h
      exact ⟨t,hp.mem_iff.2 (List.mem_cons_self ..),h,(Option.some.inj qhv).symm⟩
    · obtain ⟨u,hu,h1,h2⟩:=hr.2 id v qhv
      exact ⟨u,hp.mem_iff.2 (List.mem_cons_of_mem _ hu),h1,h2⟩
def Ids (H:List Th):Prop:=(H.map (·.id)).Nodup
theorem zKi {t:Th} {Y:List Th} (hr:Rel H m) (hn:(zdD m).Nodup) (hi:Ids H) (hp:(t::Y).Perm H):Rel Y (zuP m t.id)/\Ids Y:=by
  have h1:((t::Y).map (·.id)).Nodup:=(hp.map _).nodup_iff.2 hi
  simp only [List.map_cons,List.nodup_cons] at h1
  have hne:∀ u∈Y,u.id≠t.id:=fun u hu he=>h1.1 (by rw [<- he]; exact List.mem_map_of_mem hu)
  refine ⟨⟨fun u hu=>?_,fun id v qhv=>?_⟩,h1.2⟩
  · rw [zuQ m hn,if_neg (Ne.symm (hne u hu))]
    exact hr.1 u (hp.mem_iff.1 (List.mem_cons_of_mem _ hu))
  · rw [zuQ m hn] at qhv
    split at qhv
    · cases qhv
    · rename_i h
      obtain ⟨u,hu,h2,h3⟩:=hr.2 id v qhv
      rcases List.mem_cons.1 (hp.mem_iff.2 hu) with rfl|hy
      · exact absurd h2 h
      · exact ⟨u,hy,h2,h3⟩
theorem qput_k (q:QQ B w qb mb born p c H m) (hr:Rel H m) (hn:H.length<=200) (hb:-1<=born/\born<=1000000000) (hB:B<=w.heap.size) (prio id:Int) :
    FnP Tryz.prog zef #[.pointer (ptr qb),.int .i64 prio,.int .i64 id] w fun v w'=>∃ e:Int,v=.int .i64 e /\
      (e≠0->Ext w w'/\((∃ t∈H,t.id=id)/\e=6\/H.length=200/\e=7)) /\
      (e=0->(∀ t∈H,t.id≠id)/\H.length≠200/\∃ b p' c' Y,QQ B w' qb mb (born+1) p' c' Y (zql m id (pv ⟨b,prio,id,born+1⟩))/\Y.Perm (⟨b,prio,id,born+1⟩::H)/\Fr (zit mb qb p H) w w' /\
        (∀ k,zit mb qb p' Y k->zit mb qb p H k\/w.heap.size<=k)):=by
  obtain ⟨t3,e3,hnone,hsome⟩:=zGU hr id
  have ne:=zaG qb
  refine zlI (ptr qb) prio id w _ ⟨ne,ne,_,q.qi.slot.cellAt0 (i:=1) rfl,fun w1 h1=>zG1 kq mapq zhC (a:=id) (q.mp.ext h1) ⟨Ext.refl _,t3,e3,fun hs w4 h4=>⟨_,rfl,fun _=>⟨h1.trans h4,.inl ⟨?_,rfl⟩⟩,fun h=>by cases h⟩,fun hs=>⟨ne,ne,_,_,_,(q.ext h1).qi.slot.cellAt0 (i:=0) rfl,fun h200 w7 h7=>⟨_,rfl,fun _=>⟨h1.trans h7,.inr ⟨by omega,rfl⟩⟩,fun h=>by cases h⟩,fun h200=>?_⟩⟩⟩
  · obtain ⟨t,ht,he,_⟩:=hsome hs; exact ⟨t,ht,he⟩
  have q1:=q.ext h1
  refine ⟨ne,ne,_,q1.qi.slot.cellAt0 (i:=2) rfl,i64 (by omega),ne,ne,?_⟩
  refine zcp q1.qi.slot (by simp) rfl (by simp) fun w8 o8 g8=>⟨ne,ne,_,o8.cellAt0 (i:=2) rfl,fun w10 h10=>?_⟩
  have qi8:=q1.qi.reslot (y':=.int .i64 (born+1)) o8 g8
  have m8:=q1.mp.grew (p:=ptr qb) (q:=ptr qb) (fun x hx=>by cases hx; exact fun h=>q.mf (.inl h.symm)) g8
  have f8:Fr (zit mb qb p H) w w8:=(zac h1).tr (zaR g8 fun a ha=>by cases ha; exact .inr (.inl rfl))
  refine zbE (by simp [Value.oneCell']) fun w11 o11 e11=>⟨ne,ne,_,((qi8.ext h10).ext e11).slot.cellAt0 (i:=1) rfl,fun w13 h13=>?_⟩
  have sz10:w.heap.size<=w10.heap.size:=Nat.le_trans f8.size h10.size
  have o11:=o11 B (Nat.le_trans hB sz10)
  have t13:=o11.ext h13
  have qi13:=((qi8.ext h10).ext e11).ext h13
  have f13:Fr (zit mb qb p H) w w13:=((f8.tr (zac h10)).tr (zac e11)).tr (zac h13)
  have hfr:¬ zit mb qb p H w10.heap.size:=fun h=>by have:=(q.foot h).2; omega
  refine zhW kq mapq (a:=id) (((m8.ext h10).ext e11).ext h13) fun w14 m14 g14=>⟨ne,ne,fun w15 h15=>?_⟩
  have g14':Fr (fun b=>b=mb) w13 w14:=zaR g14 fun a ha=>by cases ha; rfl
  have qi14:=qi13.fr g14' fun b hb h=>q.mf (h▸hb)
  have t14:=t13.fr g14' fun a ha h=>by cases ha; exact hfr (.inl h)
  rw [zaP]
  refine zfF (d:=.pointer zej) (by kernel_rfl) (by simp) ⟨Ext.refl _,_,rfl,fun w18 h18=>zfF (d:=.pointer zam) (by kernel_rfl) (by simp) ⟨Ext.refl _,_,rfl,fun w21 h21=>?_⟩⟩
  have qi21:=((qi14.ext h15).ext h18).ext h21
  have t21:=((t14.ext h15).ext h18).ext h21
  have f21:Fr (zit mb qb p H) w w21:=(((f13.tr (g14'.mono fun b hb=>.inl hb)).tr (zac h15)).tr (zac h18)).tr (zac h21)
  refine (zw8 (t:=⟨w10.heap.size,prio,id,born+1⟩) (j:=0) qi21 q.hp (by omega) (Nat.le_trans hB f21.size) t21 fun h=>hfr (.inr h)).mono fun v w22 ⟨qhv,p',c',Y,qi22,hp,hh,f22,np⟩=>⟨qhv,fun w23 h23=>⟨0,rfl,fun h=>absurd rfl h,fun _=>⟨hnone.1 hs,by omega,w10.heap.size,p',c',Y,QQ.ext ⟨qi22,?_,hh,q.mB,?_⟩ h23,hp,?_,fun k hk=>?_⟩⟩⟩
  · have m21:=((m14.ext h15).ext h18).ext h21
    refine m21.fr f22 ?_
    rintro (h|h|⟨t,ht,h⟩)
    · exact q.mf (.inl h)
    · exact q.mf (.inr (.inl h))
    · rcases List.mem_cons.1 ht with rfl|ht
      · exact hfr (.inl h)
      · exact q.mf (.inr (.inr ⟨t,ht,h⟩))
  · intro h
    rcases zo4 (fun u hu=>List.mem_cons.1 (hp.mem_iff.1 hu)) np mb h with h|h
    · rcases h with h|h|⟨t,ht,h⟩
      · exact q.mf (.inl h)
      · exact q.mf (.inr (.inl h))
      · rcases List.mem_cons.1 ht with rfl|ht
        · exact hfr (.inl h)
        · exact q.mf (.inr (.inr ⟨t,ht,h⟩))
    · have:=((m14.ext h15).ext h18 |>.ext h21).lt; omega
  · refine (f21.trans f22 fun b hb=>?_).tr (zac h23)
    rcases hb with h|h|⟨t,ht,h⟩
    · exact .inl (.inr (.inl h))
    · exact .inl (.inr (.inr (.inl h)))
    · rcases List.mem_cons.1 ht with rfl|ht
      · simp only at h; exact .inr (by omega)
      · exact .inl (.inr (.inr (.inr ⟨t,ht,h⟩)))
  · rcases hk with rfl|hk
    · exact .inl (.inl rfl)
    · rcases zo4 (fun u hu=>List.mem_cons.1 (hp.mem_iff.1 hu)) np k hk with h|h
      · rcases h with h|h|⟨t,ht,h⟩
        · exact .inl (.inr (.inl h))
        · exact .inl (.inr (.inr (.inl h)))
        · rcases List.mem_cons.1 ht with rfl|ht
          · simp only at h; exact .inr (by omega)
          · exact .inl (.inr (.inr (.inr ⟨t,ht,h⟩)))
      · exact .inr (Nat.le_trans f21.size h)
theorem zKg (q:QQ B w qb mb born p c H m) (hn:H.length<=1000) :
    FnP Tryz.prog za5 #[.pointer (ptr qb)] w fun v w' =>
      (H=[]/\v=.tuple #[.agg #[.int .i64 0,.int .i64 0],.bool false]/\Ext w w') \/
      ∃ t Y,v=.tuple #[.agg #[.int .i64 t.prio,.int .i64 t.id],.bool true]/\QQ B w' qb mb born p c Y (zuP m t.id)/\(t::Y).Perm H/\(∀ u∈H,¬ ahead u t)/\Fr (zit mb qb p H) w w':=by
  have ne:=zaG qb
  refine zkH (ptr qb) w _ fun b0 hb0=>⟨ne,ne,_,_,_,q.qi.slot.cellAt0 (i:=0) rfl,fun h0 w4 h4=>.inl ⟨List.length_eq_zero_iff.1 (by omega),rfl,h4⟩,fun h0=>⟨ne,ne,fun w4 x4=>?_⟩⟩
  have h4:=zaa x4
  rw [zaP]
  refine zfF (d:=.pointer zej) (by kernel_rfl) (by simp) ⟨Ext.refl _,_,rfl,fun w7 x7=>?_⟩
  have h7:=zaa x7
  have q7:=(q.ext h4).ext h7
  have lt4:=x4.lt b0 (by simp)
  have nf:∀ k,zit mb qb p H k->k≠b0:=fun k hk h=>by have:=(q.foot hk).2; omega
  refine (zAD q7.qi q.hp (by omega) hn).mono fun v w8 ⟨t,j,Y,qhv,q8,hp,hh,hmin,ht,f8⟩=>⟨?_,v,rfl,fun w10 x10=>?_⟩
  · refine f8.kept fun b hb=>?_
    obtain rfl:b=b0:=by simpa using hb
    exact ⟨x7.lt b (by simp),fun h=>nf b (.inr h) rfl⟩
  subst qhv
  have h10:=zaa x10
  have hth:t∈H:=hp.mem_iff.1 (List.mem_cons_self ..)
  have mfY:¬ zju qb p Y mb:=by
    rintro (h|h|⟨u,hu,h⟩)
    · exact q.mf (.inl h)
    · exact q.mf (.inr (.inl h))
    · exact q.mf (.inr (.inr ⟨u,hp.mem_iff.1 (List.mem_cons_of_mem _ hu),h⟩))
  have tb:t.b≠mb:=fun h=>q.mf (.inr (.inr ⟨t,hth,h⟩))
  have tb0:t.b≠b0:=nf _ (.inr (.inr (.inr ⟨t,hth,rfl⟩)))
  have m10:=(q7.mp.fr f8 q.mf).ext h10
  have net:=zaG t.b
  refine zrV (d:=.pointer zam) (by kernel_rfl) (by simp) ⟨Ext.refl _,_,rfl,ne,ne,_,(q8.ext h10).slot.cellAt0 (i:=1) rfl,net,net,by rw [zaP]; exact net,_,(by rw [zaP]; exact (ht.ext h10).cellAt0 (i:=1) rfl),fun w15 x15=>?_⟩
  have h15:=zaa x15
  have lt15:=x15.lt b0 (by simp)
  refine zAX (ts:=[3]) kq mapq (a:=t.id) (m10.ext h15) fun w16 m16 g16=>?_
  have f16:Fr (fun b=>b=mb) w15 w16:=zaR g16 fun a ha=>by cases ha; rfl
  have q16:=((q8.ext h10).ext h15).fr f16 fun b hb h=>mfY (h▸hb)
  have t16:=((ht.ext h10).ext h15).fr f16 fun a ha h=>by cases ha; exact tb h
  rw [zaP]
  refine ⟨f16.kept fun b hb=>?_,rfl,net,net,net,_,t16.cellAt (i:=0) rfl,_,t16.cellAt (i:=1) rfl,fun w19 x19=>.inr ⟨t,Y,rfl,?_,hp,hmin,?_⟩⟩
  · obtain rfl:b=b0:=by simpa using hb
    exact ⟨lt15,fun h=>nf b (.inl h) rfl⟩
  · have f19:Fr (fun b=>b=b0) w16 w19:=zbD x19 fun d hd=>.inl (by simpa using hd)
    have hY:∀ k,zit mb qb p Y k->zit mb qb p H k:=fun k hk=>by
      rcases hk with h|h|h|⟨u,hu,h⟩
      · exact .inl h
      · exact .inr (.inl h)
      · exact .inr (.inr (.inl h))
      · exact .inr (.inr (.inr ⟨u,hp.mem_iff.1 (List.mem_cons_of_mem _ hu),h⟩))
    exact QQ.fr ⟨q16,m16,hh,q.mB,mfY⟩ f19 fun k hk h=>nf k (hY k hk) h
  · have f16':Fr (zit mb qb p H) w w16:=(((((zac h4).tr (zac h7)).tr (f8.mono fun b hb=>.inr hb)).tr (zac h10)).tr (zac h15)).tr (f16.mono fun b hb=>.inl hb)
    refine f16'.trans (zbD (S:=fun b=>b=b0) x19 fun d hd=>.inl (by simpa using hd)) fun b hb=>.inr (by omega)
end
def Far (n:Nat) (w:World) (X:World->Prop):Prop:=∀ S:Nat->Prop,(∀ b,S b->b<n)->∀ w'',Fr S w w''->X w''
theorem Far.at {n:Nat} {w:World} {X:World->Prop} (h:Far n w X):X w:=h (fun _=>False) (fun _ h=>h.elim) w (Fr.refl _ w)
structure AR where
  t:AT
  p:Option Addr
  c:Nat
abbrev zFV (x:AR):List Value:=zog x.t x.p x.c
theorem zJM {w:World} {t:AT} {q:Option Addr} {d:Nat} {L:List AR} (hm:L.map (·.t)=t.xs) (hle:t.xs.length<=d) (hR:zgJ 5 zFV w q L) (hT:∀ x∈L,IsT w x.t x.p x.c):IsT w t q d:=by
  rw [AT.eta t]
  unfold IsT
  refine ⟨hle,IsL.of fun j x hx=>?_⟩
  rw [<- hm,List.getElem?_map] at hx
  obtain ⟨r,hr,rfl⟩:=Option.map_eq_some_iff.1 hx
  exact ⟨r.p,r.c,fun m u hu=>by rw [Nat.zero_add]; exact hR j r hr m u hu,hT r (List.mem_of_getElem? hr)⟩
def AOut (w:World) (t:AT) (v:Value) (w':World):Prop:=Ext w w'/\∃ q d,v=av t q d/\Far w.heap.size w' fun w''=>IsT w'' t q d
theorem zGH:∀ (t:AT) (p:Option Addr) (c:Nat) (w:World),IsT w t p c->zeL t=0->FnP Tryz.prog ze4 #[av t p c] w (AOut w t):=by
  intro t
  induction t using AT.ind with
  |h k key val n xs ih =>
    intro p c w hT hE
    have hEx:=(zgU hE).2
    have h2:xs.length<=2:=by
      have:=zsq (zgU hE).1
      have h3:zfP k<=2:=by unfold zfP; split<;>(try split)<;>omega
      show xs.length<=2
      have h4:xs.length=zfP k:=this
      omega
    refine zqJ k key val n p xs.length c w _ fun b0 hb0 b1 hb1=>?_
    refine ⟨fun l ll lc k' w'=>Ext w w'/\0<=k'/\k'<=xs.length/\ll=k'.toNat/\(∀ b∈[b0,b1],∀ y,l=some y->y.block≠b)/\∃ L:List AR,L.map (·.t)=xs.take k'.toNat/\Own w.heap.size w' zdB 5 l ll lc (L.flatMap zFV) /\
        ∀ x∈L,∀ w'',Fr (fun b=>b<w.heap.size\/b=b0\/b=b1\/∃ a,l=some a/\a.block=b) w' w''->IsT w'' x.t x.p x.c,
      fun _ _ _ k' _=>(xs.length-k').toNat,⟨Ext.refl _,by omega,by omega,rfl,fun b _ y hy=>(by cases hy),[],rfl,Own.nil,fun x hx=>(by cases hx)⟩,?_⟩
    rintro l ll lc k' w5 ⟨x5,hk0,hk1,rfl,hbl,L,hL,oL,hTL⟩
    have hLl:L.length=k'.toNat:=by have:=congrArg List.length hL; rw [List.length_map,List.length_take] at this; omega
    refine ⟨fun hlt=>?_,fun hge w6 x6=>?_⟩
    · have hT5:=hT.ext x5 _ _ _
      obtain ⟨x,p',c',hx,hmem,hIx,a1,a2,g0,g1,g2,g3,g4⟩:=hT5.at hk0 (by exact hlt)
      refine ⟨a1,hk0,hlt,a2,_,g0,_,g1,_,g2,_,g3,_,_,_,g4,fun b13 hb13 w14 x14=>?_⟩
      have h14:=zaa x14
      have hw14:=x5.trans h14
      refine (ih x hmem p' c' w14 (hIx.ext h14 _ _ _) (hEx x hmem)).mono fun v w15 ⟨e15,q,d,hv,hF⟩=>⟨e15,x.k,x.key,x.val,x.n,q,x.xs.length,d,hv,?_⟩
      have h515:=h14.trans e15
      have hw15:=x5.trans h515
      have oL15:=oL.ext h515
      have hns:∀ b∈[b0,b1,b13],∀ y,l=some y->y.block≠b:=fun b hb y hy=>by
        simp only [List.mem_cons,List.not_mem_nil,or_false] at hb
        rcases hb with rfl|rfl|rfl
        · exact hbl _ (by simp) y hy
        · exact hbl _ (by simp) y hy
        · have:=(oL.lt y hy).2; omega
      refine znK (v:=av x q d) zfw (by omega) oL15 hw15.size hns rfl (by intro u hu; simp [Value.cells] at hu; rcases hu with rfl|rfl|rfl|rfl|rfl<;>rfl) (by omega) (by omega) (by omega) fun l' lc' w29 o29 g29 _ hb29=>⟨i64 (by omega),⟨g29.ext hw15 oL15,by omega,by omega,by omega,fun b hb y hy=>hb29 b (by simp at hb ⊢; omega) y hy,L++[⟨x,q,d⟩],?_,?_,?_⟩,by simp only []; omega⟩
      · rw [show (k'+1).toNat=k'.toNat+1 by omega,List.map_append,hL,List.take_add_one]
        have hx':xs[k'.toNat]?=some x:=hx
        rw [hx']; rfl
      · rw [List.flatMap_append]
        simpa [Value.cells,zFV,zog] using o29
      · have step:∀ (w0 w'':World),Ext w0 w15->w0.heap.size<=w15.heap.size->(∀ b,b<w.heap.size\/b=b0\/b=b1\/(∃ a,l=some a/\a.block=b)->True)->Fr (fun b=>b<w.heap.size\/b=b0\/b=b1\/∃ a,l'=some a/\a.block=b) w29 w''->Fr (fun b=>b<w.heap.size\/b=b0\/b=b1\/∃ a,l=some a/\a.block=b) w0 w'':=fun w0 w'' h0 hs _ fw=>by
          have f1:Fr (fun b=>b<w.heap.size\/b=b0\/b=b1\/∃ a,l=some a/\a.block=b) w0 w29:=(zac h0).tr (zaR g29 fun a ha=>.inr (.inr (.inr ⟨a,ha,rfl⟩)))
          refine f1.trans fw fun b hb=>?_
          rcases hb with h|h|h|⟨a2,ha2,hk2⟩
          · exact .inl (.inl h)
          · exact .inl (.inr (.inl h))
          · exact .inl (.inr (.inr (.inl h)))
          rcases g29.new with hn|hn
          · left
            rw [ha2] at hn
            cases hout:l with
            |none => rw [hout] at hn; simp [blk] at hn
            |some y => rw [hout] at hn; simp [blk] at hn; exact .inr (.inr (.inr ⟨y,rfl,by omega⟩))
          · right
            have:=hn a2 ha2
            omega
        intro y hy w'' fw
        rcases List.mem_append.1 hy with hy|hy
        · exact hTL y hy w'' (step w5 w'' h515 h515.size (fun _ _=>trivial) fw)
        · simp at hy; subst hy
          refine hF _ (fun b hb=>?_) w'' (step w15 w'' (Ext.refl _) (Nat.le_refl _) (fun _ _=>trivial) fw)
          rcases hb with h|h|h|⟨a,ha,rfl⟩
          · have:=hw14.size; omega
          · subst h; exact x14.lt _ (by simp)
          · subst h; exact x14.lt _ (by simp)
          · have:=(oL.lt a ha).2; have:=h14.size; omega
    · have hkl:k'.toNat=xs.length:=by omega
      rw [hkl,List.take_length] at hL
      rw [hkl] at oL hLl
      have hx6:Ext w w6:=zar x6 x5 (by intro d hd; simp at hd; omega)
      have f6:Fr (fun b=>b<w.heap.size\/b=b0\/b=b1\/∃ a,l=some a/\a.block=b) w5 w6:=zbD x6 (fun d hd=>by simp at hd; rcases hd with rfl|rfl<;>simp)
      refine ⟨hx6,l,lc,by rw [hkl]; rfl,fun S hS w'' fw=>?_⟩
      have fall:Fr (fun b=>b<w.heap.size\/b=b0\/b=b1\/∃ a,l=some a/\a.block=b) w5 w'':=f6.tr (fw.mono fun b hb=>.inl (hS b hb))
      have ol6:=(oL.but x6.toBut (fun d hd y hy=>hbl d (by simp at hd ⊢; omega) y hy)).fr fw (fun a ha hs=>by
        have:=hS _ hs
        have:=(oL.lt a ha).1
        omega)
      exact zJM (t:=.mk k key val n xs) hL (by show xs.length<=lc; have:=oL.le; omega) (ol6.recs fun _ _=>rfl) fun x hx=>hTL x hx w'' fall
structure St where
  job:Jb
  what:Int
  host:Int
  since:Int
  again:Int
  tries:Int
structure StR where
  s:St
  pa:Option Addr
  ca:Nat
  pf:Option Addr
  cf:Nat
abbrev ztO (r:StR):List Value:=[.string r.s.job.user,.int .i64 r.s.job.prio,.int .i64 r.s.job.nd.c,.int .i64 r.s.job.nd.m,.int .i64 r.s.job.nd.g,.int .i64 r.s.job.ask.k,.string r.s.job.ask.key,.string r.s.job.ask.val,.int .i64 r.s.job.ask.n,.slice r.pa r.s.job.ask.xs.length r.ca,.slice r.pf r.s.job.aft.length r.cf,
  .int .i64 r.s.what,.int .i64 r.s.host,.int .i64 r.s.since,.int .i64 r.s.again,.int .i64 r.s.tries]
abbrev sv (r:StR):Value:=.agg #[.string r.s.job.user,.int .i64 r.s.job.prio,.int .i64 r.s.job.nd.c,.int .i64 r.s.job.nd.m,.int .i64 r.s.job.nd.g,.int .i64 r.s.job.ask.k,.string r.s.job.ask.key,.string r.s.job.ask.val,.int .i64 r.s.job.ask.n,.slice r.pa r.s.job.ask.xs.length r.ca,.slice r.pf r.s.job.aft.length r.cf,
  .int .i64 r.s.what,.int .i64 r.s.host,.int .i64 r.s.since,.int .i64 r.s.again,.int .i64 r.s.tries]
theorem zyZ (r:StR):(ztO r).length=16:=rfl
theorem zsn (r:StR):∀ u∈ztO r,u.oneCell'=true:=by
  intro u hu
  simp only [List.mem_cons,List.not_mem_nil,or_false] at hu
  rcases hu with rfl|rfl|rfl|rfl|rfl|rfl|rfl|rfl|rfl|rfl|rfl|rfl|rfl|rfl|rfl|rfl<;>rfl
theorem zE5 (q:Option Addr) (c:Nat) (D:List Int) (h60:D.length<=1000) (w:World) (hD:zd9 .i64 w q D) :
    FnP Tryz.prog zcz #[.slice q D.length c] w fun v w'=>Ext w w'/\∃ p' c',v=.slice p' D.length c'/\Own w.heap.size w' zfr 1 p' D.length c' (D.map (.int .i64)):=by
  refine zhR q D.length c w _ ⟨fun hn w0 h0=>?_,fun hn=>?_⟩
  · cases D with
    |nil => exact ⟨h0,none,0,rfl,Own.nil⟩
    |cons x r => exact absurd hn fun hq => zak (zd9.idx hD (i:=0) (by omega) (by simp)) (zah.2 hq)
  · exact zoW (Q:=fun v w'=>Ext w w'/\∃ p' c',v=.slice p' D.length c'/\Own w.heap.size w' zfr 1 p' D.length c' (D.map (.int .i64))) zfx (by omega) hD (by simp) (by intro u hu; simp at hu; obtain ⟨x,_,rfl⟩:=hu; rfl) (by omega) (by omega) hn fun p' c' w' hx o=>⟨hx,p',c',rfl,o⟩
def SOut (w:World) (s:St) (v:Value) (w':World):Prop:=Ext w w'/\∃ r:StR,v=sv r/\r.s=s/\Far w.heap.size w' fun w''=>IsJ w'' s.job r.pa r.ca r.pf
theorem zzw (r:StR) (w:World) (hJ:IsJ w r.s.job r.pa r.ca r.pf) (hE:zeL r.s.job.ask=0) (h8:r.s.job.aft.length<=8):FnP Tryz.prog zjr #[sv r] w (SOut w r.s):=by
  refine zxz r.s.job.user r.s.job.prio r.s.job.nd.c r.s.job.nd.m r.s.job.nd.g r.s.job.ask.k r.s.job.ask.key r.s.job.ask.val r.s.job.ask.n r.pa r.s.job.ask.xs.length r.ca r.pf r.s.job.aft.length r.cf r.s.what r.s.host r.s.since r.s.again r.s.tries w _ fun b0 hb0 b1 hb1 w2 x2=>?_
  have h2:=zaa x2
  refine (zE5 r.pf r.cf r.s.job.aft (by omega) w2 (hJ.2.ext h2)).mono fun v w3 ⟨e3,pf,cf,hv,oF⟩=>⟨e3,pf,_,cf,hv,fun w7 x7=>?_⟩
  have h7:Ext w w7:=zar x7 (h2.trans e3) (by intro d hd; simp at hd; omega)
  have oF7:=oF.but x7.toBut (fun d hd y hy=>by simp at hd; subst hd; have:=(oF.lt y hy).1; have:=x2.lt d (by simp); omega)
  refine (zGH r.s.job.ask r.pa r.ca w7 (hJ.1.ext h7 _ _ _) hE).mono fun v w8 ⟨e8,pa,ca,hv,hF⟩=>⟨e8,_,_,_,_,pa,_,ca,hv,fun w16 x16=>?_⟩
  have h16:Ext w w16:=zar x16 (h7.trans e8) (by intro d hd; simp at hd; omega)
  refine ⟨h16,⟨r.s,pa,ca,pf,cf⟩,rfl,rfl,fun S hS w'' fw=>?_⟩
  have f816:Fr (fun b=>b=b0\/b=b1) w8 w16:=zbD x16 (fun d hd=>by simp at hd; rcases hd with rfl|rfl<;>simp)
  have fall:Fr (fun b=>b<w.heap.size\/b=b0\/b=b1) w8 w'':=(f816.mono fun b hb=>.inr hb).tr (fw.mono fun b hb=>.inl (hS b hb))
  have hb0':b0<w2.heap.size:=x2.lt b0 (by simp)
  have hb1':b1<w2.heap.size:=x2.lt b1 (by simp)
  have h27:w2.heap.size<=w7.heap.size:=Nat.le_trans e3.size x7.size
  refine ⟨hF _ (fun b hb=>?_) w'' fall,?_⟩
  · rcases hb with h|rfl|rfl
    · have:=h2.size; omega
    · omega
    · omega
  · exact ((oF7.ext e8).fr fall (fun a ha hs=>by
      have:=(oF.lt a ha).1
      have:=h2.size
      omega)).cells
theorem zH9 (p:Option Addr) (c:Nat) (L:List Ht) (h30:L.length<=30) (h8:∀ h∈L,h.labels.length<=8) (w:World) (hL:zjv w p L) :
    FnP Tryz.prog zdI #[.slice p L.length c] w fun v w'=>Ext w w'/\∃ p' c',∃ M:List Hm,v=.slice p' L.length c'/\M.map (·.h)=L/\Own w.heap.size w' zdM 8 p' L.length c' (M.flatMap zjz)/\(∀ m∈M,LbA w' p' m)/\∀ m∈M,LbN w.heap.size m:=by
  refine znW p L.length c w _ fun w0 h0=>?_
  obtain ⟨M0,hM0,hR0,hl0⟩:=hs_ms (hL.ext h0)
  have hlen0:M0.length=L.length:=by rw [<- hM0]; simp
  rw [<- hlen0]
  refine (zr4 p c M0 (by omega) w0 hR0).mono fun v w1 ⟨e1,p',c',hv,o1⟩=>⟨e1,p',M0.length,c',hv,?_⟩
  have lt0:∀ m∈M0,LbA w1 p' m:=fun m hm=>⟨(hl0 m hm).ext e1,by
    cases hlb:m.h.labels with
    |nil => exact .inl rfl
    |cons x r =>
      refine .inr fun a b ha hb=>?_
      have:=(hl0 m hm).lt (x:=x) (by rw [hlb]; exact List.mem_cons_self ..) (by simp) a ha
      have:=(o1.lt b hb).1
      omega⟩
  refine ⟨fun k w'=>Ext w w'/\0<=k/\k<=M0.length/\∃ M:List Hm,M.map (·.h)=L/\Own w0.heap.size w' zdM 8 p' M0.length c' (M.flatMap zjz)/\(∀ m∈M,LbA w' p' m)/\∀ j,j<k.toNat->∀ m,M[j]?=some m->LbN w.heap.size m,fun k _=>(M0.length-k).toNat,⟨h0.trans e1,by omega,by omega,M0,hM0,o1,lt0,fun j hj=>by simp at hj⟩,?_⟩
  rintro k w7 ⟨x7,hk0,hk1,M,hM,o7,hA7,hN7⟩
  have hlen:M.length=M0.length:=by rw [hlen0,<- hM]; simp
  refine ⟨fun hlt=>?_,fun hge w8 h8=>⟨x7.trans h8,p',c',M,rfl,hM,(o7.ext h8).weak h0.size,fun m hm=>⟨(hA7 m hm).1.ext h8,(hA7 m hm).2⟩,fun m hm=>by
    obtain ⟨j,hj⟩:=List.mem_iff_getElem?.1 hm
    have hjl:=(List.getElem?_eq_some_iff.1 hj).1
    exact hN7 j (by omega) m hj⟩⟩
  have r7:zgJ 8 zjz w7 p' M:=o7.recs fun _ _=>rfl
  have g:=r7.idx default hk0 (by omega) (j:=1) rfl
  have hp':=o7.ne1 (by omega) (by omega)
  have hm:=zan M default (i:=k.toNat) (by omega)
  generalize hmd:M.getD k.toNat default=m at g hm
  have hml:m.h∈L:=by rw [<- hM]; exact List.mem_map_of_mem hm
  refine ⟨hp',hk0,hlt,fun hq=>hp' (zah.1 hq),m.q,m.h.labels.length,m.d,by rw [zal]; exact g,fun w11 h11=>?_⟩
  refine (zyr m.q m.d m.h.labels (h8 _ hml) w11 ((hA7 m hm).1.ext h11)).mono fun v w12 ⟨e12,q',d',hv,hl',hn'⟩=>⟨e12,q',_,d',hv,hp',hk0,hlt,fun hq=>hp' (zah.1 hq),?_⟩
  have x12:=h11.trans e12
  have o12:=o7.ext x12
  refine zaW o12 zot (by rw [zfc zf8]; simp; omega) (by simp) (by intro v hv; simp at hv; subst hv; rfl) (by simp) fun w16 o16 g16=>?_
  rw [zlM zf8 M k.toNat 1 [.slice q' m.h.labels.length d'] ⟨m.h,q',d'⟩ default (by omega) (by simp) (by rw [hmd]; rfl)] at o16
  have hmap:(M.set k.toNat ⟨m.h,q',d'⟩).map (·.h)=L:=by
    rw [List.map_set,hM]
    have hk:k.toNat<L.length:=by omega
    have:L[k.toNat]=m.h:=by
      have h1:(M.map (·.h)).getD k.toNat default=m.h:=by
        rw [<- hmd,List.getD_eq_getElem?_getD,List.getD_eq_getElem?_getD,List.getElem?_map,List.getElem?_eq_getElem (by omega:k.toNat<M.length)]; rfl
      rw [hM] at h1
      simpa [List.getD_eq_getElem?_getD,hk] using h1
    rw [<- this,List.set_getElem_self]
  refine ⟨i64 (by omega),⟨?_,by omega,by omega,_,hmap,o16,fun m' hm'=>?_,fun j hj m' hm'=>?_⟩,by simp only []; omega⟩
  · exact g16.ext (x7.trans x12) (o12.weak (by have:=h0.size; omega))
  · rcases List.mem_or_eq_of_mem_set hm' with hm'|rfl
    · exact ⟨zjC ((hA7 m' hm').1.ext x12) (hA7 m' hm').2 g16,(hA7 m' hm').2⟩
    · have ha:zbP q' p':=fun a b ha hb=>by
        have:=hn' a ha
        have:=(o7.lt b hb).2
        have:=h11.size
        omega
      exact ⟨zjC hl' (.inr ha) g16,.inr ha⟩
  · by_cases hjk:j=k.toNat
    · subst hjk
      rw [List.getElem?_set_self (by omega)] at hm'
      obtain rfl:=Option.some.inj hm'
      exact .inr fun a ha=>(by have:=hn' a ha; have:=x7.size; have:=h11.size; omega)
    · rw [List.getElem?_set_ne (by omega)] at hm'
      exact hN7 j (by omega) m' hm'
theorem ze9:zfR Tryz.prog zAc=some (ziL,16,184,.agg #[.string ⟨#[]⟩,.int .i64 0,.int .i64 0,.int .i64 0,.int .i64 0,.int .i64 0,.string ⟨#[]⟩,.string ⟨#[]⟩,.int .i64 0,.slice none 0 0,.slice none 0 0,.int .i64 0,.int .i64 0,.int .i64 0,.int .i64 0,.int .i64 0]):=by kernel_rfl
structure Pol where
  first:Int
  times:Int
  most:Int
  tries:Int
structure Fm where
  hosts:List Ht
  pol:Pol
  now:Int
  jobs:List St
structure Pl where
  hp:Option Addr
  hc:Nat
  jp:Option Addr
  jc:Nat
  R:List StR
instance:Inhabited St:=⟨⟨zdt,0,0,0,0,0⟩⟩
instance:Inhabited StR:=⟨⟨default,none,0,none,0⟩⟩
def ft (fb:Nat) (jp:Option Addr) (b:Nat):Prop:=b=fb\/∃ a,jp=some a/\a.block=b
def ftO (O:Nat->Prop) (fb:Nat) (jp:Option Addr) (b:Nat):Prop:=O b\/ft fb jp b
abbrev fcs (P:Pl) (F:Fm):List Value:=[.slice P.hp F.hosts.length P.hc,.int .i64 F.pol.first,.int .i64 F.pol.times,.int .i64 F.pol.most,.int .i64 F.pol.tries,.int .i64 F.now,.slice P.jp P.R.length P.jc]
structure FXO (O:Nat->Prop) (B:Nat) (w:World) (fb:Nat) (P:Pl) (F:Fm):Prop where
  slot:Own B w zcK 7 (ptr fb) 1 1 (fcs P F)
  arr:Own B w ziL 16 P.jp P.R.length P.jc (P.R.flatMap ztO)
  map:P.R.map (·.s)=F.jobs
  hs:∀ w'',Fr (ftO O fb P.jp) w w''->zjv w'' P.hp F.hosts
  js:∀ r∈P.R,∀ w'',Fr (ftO O fb P.jp) w w''->IsJ w'' r.s.job r.pa r.ca r.pf
  ap:∀ a,P.jp=some a->a.block≠fb
  hO:F.hosts.length<=30/\∀ h∈F.hosts,zwf h
  jO:F.jobs.length<=60/\∀ s∈F.jobs,okJ s.job/\WfJ s.job
  olt:∀ b,O b->b<w.heap.size
  odis:∀ b,O b->¬ ft fb P.jp b
abbrev FX (B:Nat):=FXO (fun b=>b<B) B
section
variable {O:Nat->Prop} {B fb:Nat} {w:World} {P:Pl} {F:Fm}
theorem FXO.len (x:FXO O B w fb P F):P.R.length=F.jobs.length:=by have:=congrArg List.length x.map; simpa using this
theorem FXO.foot (x:FXO O B w fb P F) {b:Nat} (h:ft fb P.jp b):B<=b/\b<w.heap.size:=by
  rcases h with rfl|⟨a,ha,rfl⟩
  · exact x.slot.lt _ rfl
  · exact x.arr.lt a ha
theorem FXO.fr {S:Nat->Prop} {w':World} (x:FXO O B w fb P F) (f:Fr S w w') (hS:∀ b,S b->O b):FXO O B w' fb P F :=
  ⟨x.slot.fr f fun a ha hs=>x.odis _ (hS _ hs) (.inl (by cases ha; rfl)),x.arr.fr f fun a ha hs=>x.odis _ (hS _ hs) (.inr ⟨a,ha,rfl⟩),x.map,
    fun w'' k=>x.hs w'' ((f.mono fun b hb=>.inl (hS b hb)).tr k),fun r hr w'' k=>x.js r hr w'' ((f.mono fun b hb=>.inl (hS b hb)).tr k),x.ap,x.hO,x.jO,fun b hb=>Nat.lt_of_lt_of_le (x.olt b hb) f.size,x.odis⟩
theorem FXO.ext {w':World} (x:FXO O B w fb P F) (e:Ext w w'):FXO O B w' fb P F:=x.fr (zac (S:=fun _=>False) e) fun _ h=>h.elim
theorem FXO.recs (x:FXO O B w fb P F):zgJ 16 ztO w P.jp P.R:=x.arr.recs fun _ _=>rfl
theorem FXO.cell (x:FXO O B w fb P F) {i:Nat} {v:Value} (h:(fcs P F)[i]?=some v):Go.Sx.cell w (pAdd (ptr fb) i) 0=some v:=by rw [zal]; exact x.slot.cells i v h
theorem FXO.st (x:FXO O B w fb P F) {k:Int} (h0:0<=k) (h1:k<F.jobs.length):∃ r,P.R[k.toNat]?=some r/\F.jobs[k.toNat]?=some r.s/\P.jp≠none/\pIdx P.jp k 16≠none/\(∀ (m:Nat) u,(ztO r)[m]?=some u->Go.Sx.cell w (pIdx P.jp k 16) m=some u)/\(∀ (m:Nat) u,(ztO r)[m]?=some u->Go.Sx.cell w (pAdd (pIdx P.jp k 16) m) 0=some u)/\IsJ w r.s.job r.pa r.ca r.pf/\okJ r.s.job/\WfJ r.s.job:=by
  have hl:=x.len
  obtain ⟨r,hr⟩:∃ r,P.R[k.toNat]?=some r:=⟨_,List.getElem?_eq_getElem (by omega)⟩
  have hm:=List.mem_of_getElem? hr
  have g:∀ (m:Nat) u,(ztO r)[m]?=some u->Go.Sx.cell w (pIdx P.jp k 16) m=some u:=fun m u hu=>x.recs.at h0 hr hu
  have g0:=g 0 _ rfl
  have hF:F.jobs[k.toNat]?=some r.s:=by rw [<- x.map,List.getElem?_map,hr]; rfl
  have hj:=x.jO.2 r.s (List.mem_of_getElem? hF)
  exact ⟨r,hr,hF,fun h=>zak g0 (zah.2 h),zak g0,g,fun m u hu=>by rw [zal]; exact g m u hu,x.js r hm w (Fr.refl _ w),hj.1,hj.2⟩
theorem FXO.slot_to {w':World} {F':Fm} {P':Pl} (x:FXO O B w fb P F) (o:Own B w' zcK 7 (ptr fb) 1 1 (fcs P' F')) (g:zcv w w' (ptr fb) (ptr fb)) (hj:F'.jobs=F.jobs) (hR:P'.R=P.R) (hjp:P'.jp=P.jp) (hjc:P'.jc=P.jc)
    (hs:∀ w'',Fr (ftO O fb P.jp) w' w''->zjv w'' P'.hp F'.hosts) (hO:F'.hosts.length<=30/\∀ h∈F'.hosts,zwf h):FXO O B w' fb P' F'/\Fr (ft fb P.jp) w w':=by
  have f:Fr (ft fb P.jp) w w':=zaR g fun a ha=>by cases ha; exact .inl rfl
  refine ⟨⟨o,?_,by rw [hR,hj]; exact x.map,by rw [hjp]; exact hs,fun r hr w'' k=>?_,by rw [hjp]; exact x.ap,hO,by rw [hj]; exact x.jO,fun b hb=>Nat.lt_of_lt_of_le (x.olt b hb) f.size,by rw [hjp]; exact x.odis⟩,f⟩
  · rw [hjp,hR,hjc]
    exact x.arr.st (fun u v hu hv=>by cases hv; exact x.ap u hu) g
  · rw [hR] at hr
    rw [hjp] at k
    exact x.js r hr w'' ((f.mono fun b hb=>.inr hb).tr k)
def zjd (m:Nat) (v:Int) (s:St):St:=match m with
  |11 => { s with what:=v }
  |12 => { s with host:=v }
  |13 => { s with since:=v }
  |14 => { s with again:=v }
  |_ => { s with tries:=v }
def setF (F:Fm) (k:Nat) (s:St):Fm:={ F with jobs:=F.jobs.set k s }
def setP (P:Pl) (k:Nat) (s:St):Pl:={ P with R:=P.R.set k { P.R.getD k default with s:=s } }
theorem zlQ (m:Nat) (v:Int) (s:St):(zjd m v s).job=s.job:=by unfold zjd; split<;>rfl
theorem FXO.set (x:FXO O B w fb P F) {k:Int} (h0:0<=k) (h1:k<F.jobs.length) {m:Nat} (hm:11<=m/\m<=15) (v:Int) {ns:List Nat} (hns:∀ b∈ns,¬ ft fb P.jp b) {K:World->Prop}
    (hk:∀ w',FXO O B w' fb (setP P k.toNat (zjd m v (F.jobs.getD k.toNat default))) (setF F k.toNat (zjd m v (F.jobs.getD k.toNat default)))->Fr (ft fb P.jp) w w'->K w'):zao w (pAdd (pIdx P.jp k 16) m) [.int .i64 v] ns K:=by
  have hl:=x.len
  have hg:(P.R.getD k.toNat default).s=F.jobs.getD k.toNat default:=by
    rw [<- x.map,List.getD_eq_getElem?_getD,List.getD_eq_getElem?_getD,List.getElem?_map,List.getElem?_eq_getElem (by omega:k.toNat<P.R.length)]; rfl
  refine zaW x.arr zot (by rw [zfc zyZ]; simp; omega) (by simp) (by intro u hu; simp at hu; subst hu; rfl) (fun b hb y hy he=>hns b hb (.inr ⟨y,hy,he⟩)) fun w' o g=>?_
  have f:Fr (ft fb P.jp) w w':=zaR g fun a ha=>.inr ⟨a,ha,rfl⟩
  refine hk w' ⟨?_,?_,?_,fun w'' kf=>?_,fun r hr w'' kf=>?_,x.ap,x.hO,?_,fun b hb=>Nat.lt_of_lt_of_le (x.olt b hb) f.size,x.odis⟩ f
  · have:=x.slot.st (fun u y hu hy=>by cases hu; exact fun h=>x.ap y hy h.symm) g
    show Own B w' zcK 7 (ptr fb) 1 1 [_,_,_,_,_,_,.slice P.jp (P.R.set _ _).length P.jc]
    rw [List.length_set]
    exact this
  · rw [zlM zyZ P.R k.toNat m [.int .i64 v] { P.R.getD k.toNat default with s:=zjd m v (F.jobs.getD k.toNat default) } default (by omega) (by simp; omega) (by
      rw [<- hg]
      have:m=11\/m=12\/m=13\/m=14\/m=15:=by omega
      rcases this with rfl|rfl|rfl|rfl|rfl<;>rfl)] at o
    show Own B w' ziL 16 P.jp (P.R.set _ _).length P.jc _
    rw [List.length_set]
    exact o
  · show (P.R.set _ _).map (·.s)=F.jobs.set _ _
    rw [List.map_set,x.map]
  · exact x.hs w'' ((f.mono fun b hb=>.inr hb).tr kf)
  · have hr:r∈P.R.set k.toNat { P.R.getD k.toNat default with s:=zjd m v (F.jobs.getD k.toNat default) }:=hr
    rcases List.mem_or_eq_of_mem_set hr with hr|rfl
    · exact x.js r hr w'' ((f.mono fun b hb=>.inr hb).tr kf)
    · have:=x.js _ (zan P.R default (i:=k.toNat) (by omega)) w'' ((f.mono fun b hb=>.inr hb).tr kf)
      rw [hg] at this
      show IsJ w'' (zjd m v (F.jobs.getD k.toNat default)).job _ _ _
      rw [zlQ]
      exact this
  · refine ⟨by show (F.jobs.set _ _).length<=60; rw [List.length_set]; exact x.jO.1,fun s hs=>?_⟩
    have hs:s∈F.jobs.set k.toNat (zjd m v (F.jobs.getD k.toNat default)):=hs
    rcases List.mem_or_eq_of_mem_set hs with hs|rfl
    · exact x.jO.2 s hs
    · rw [zlQ]
      exact x.jO.2 _ (zan F.jobs default (i:=k.toNat) (by omega))
theorem zBZ (x:FXO O B w fb P F) (id:Int) (hid:InR .i64 id):FnP Tryz.prog zbc #[.pointer (ptr fb),.int .i64 id] w fun v w'=>Ext w w'/\((¬ (1<=id/\id<=F.jobs.length)/\v=.pointer none)\/(1<=id/\id<=F.jobs.length/\v=.pointer (pIdx P.jp (id-1) 16))):=by
  have hl:=x.len
  have hj:=x.jO.1
  have ne:=zaG fb
  refine zpG (ptr fb) id w _ ⟨fun _=>ne,fun _=>ne,fun h w0 h0=>⟨h0,.inl ⟨by omega,rfl⟩⟩,fun h=>⟨_,_,_,x.cell (i:=6) rfl,fun h2 w3 h3=>⟨h3,.inl ⟨by omega,rfl⟩⟩,fun h2=>⟨ne,ne,_,_,_,x.cell (i:=6) rfl,i64 (by omega),?_,by omega,by omega,fun w6 h6=>⟨h6,.inr ⟨h,by omega,rfl⟩⟩⟩⟩⟩
  obtain ⟨r,_,_,hp,_⟩:=x.st (k:=id-1) (by omega) (by omega)
  exact hp
theorem zJ7 (x:FXO O B w fb P F):FnP Tryz.prog zbx #[.pointer (ptr fb)] w fun v w'=>Ext w w'/\v=.int .i64 F.now :=
  znV (ptr fb) w _ ⟨zaG fb,zaG fb,_,x.cell (i:=5) rfl,fun w1 h1=>⟨h1,rfl⟩⟩
def zk6 (F:Fm):Prop:=∀ (i:Nat) s,F.jobs[i]?=some s->∀ y∈s.job.aft,1<=y/\y<=i
def zaU (F:Fm) (id:Int):Int:=(F.jobs.getD (id-1).toNat default).what
theorem ziP (x:FXO O B w fb P F) {id:Int} (h:1<=id/\id<=F.jobs.length) {w':World} (e:Ext w w'):∃ q,pIdx P.jp (id-1) 16=q/\q≠none/\Go.Sx.cell w' (pAdd q 11) 0=some (.int .i64 (zaU F id)):=by
  obtain ⟨r,hr,hF,_,hne,_,g,_⟩:=(x.ext e).st (k:=id-1) (by omega) (by omega)
  refine ⟨_,rfl,hne,?_⟩
  have:=g 11 _ rfl
  unfold zaU
  rw [List.getD_eq_getElem?_getD,hF]
  exact this
theorem zGQ (x:FXO O B w fb P F) {p1:Option Addr} (hc:Go.Sx.cell w p1 0=some (.pointer (ptr fb))) {id:Int} (h:1<=id/\id<=F.jobs.length):FnP Tryz.prog zdm #[.int .i64 id,.pointer p1] w fun v w'=>Ext w w'/\v=.bool (decide (zaU F id≠3)):=by
  have hj:=x.jO.1
  refine zjQ id p1 w _ ⟨_,hc,fun w1 h1=>(zBZ (x.ext h1) id (i64 (by omega))).mono fun v w2 ⟨e2,hv⟩=>?_⟩
  rcases hv with ⟨hno,_⟩|⟨_,_,rfl⟩
  · exact absurd h hno
  · obtain ⟨q,hq,hne,hg⟩:=ziP x h (h1.trans e2)
    exact ⟨e2,_,rfl,by rw [hq]; exact hne,by rw [hq]; exact hne,_,by rw [hq]; exact hg,fun w5 h5=>⟨(h1.trans e2).trans h5,rfl⟩⟩
theorem zJZ (x:FXO O B w fb P F) {p1:Option Addr} (hc:Go.Sx.cell w p1 0=some (.pointer (ptr fb))) {id:Int} (h:1<=id/\id<=F.jobs.length):FnP Tryz.prog zdH #[.int .i64 id,.pointer p1] w fun v w'=>Ext w w'/\v=.bool (decide (zaU F id=4)||decide (zaU F id=5)):=by
  have hj:=x.jO.1
  refine zkG id p1 w _ ⟨_,hc,fun w1 h1=>(zBZ (x.ext h1) id (i64 (by omega))).mono fun v w2 ⟨e2,hv⟩=>?_⟩
  rcases hv with ⟨hno,_⟩|⟨_,_,rfl⟩
  · exact absurd h hno
  · obtain ⟨q,hq,hne,hg⟩:=ziP x h (h1.trans e2)
    exact ⟨e2,_,rfl,by rw [hq]; exact hne,by rw [hq]; exact hne,_,by rw [hq]; exact hg,fun w5 h5=>⟨(h1.trans e2).trans h5,rfl⟩⟩
def zdA (F:Fm) (s:St):Bool:=decide (s.what=1)&&decide (s.again<=F.now)&&s.job.aft.all fun y=>decide (zaU F y=3)
theorem zKh (x:FXO O B w fb P F) (ha:zk6 F) {k:Int} (h0:0<=k) (h1:k<F.jobs.length):FnP Tryz.prog zec #[.pointer (ptr fb),.pointer (pIdx P.jp k 16)] w fun v w'=>Ext w w'/\v=.bool (zdA F (F.jobs.getD k.toNat default)):=by
  refine zlG (ptr fb) (pIdx P.jp k 16) w _ fun w0 e0=>zbE (by simp [Value.oneCell']) fun w1 o1 e1=>?_
  have e01:=e0.trans e1
  have x1:=x.ext e01
  obtain ⟨r,hr,hF,_,hne,_,g,hJ,hok,hwf⟩:=x1.st h0 h1
  have hg:F.jobs.getD k.toNat default=r.s:=by rw [List.getD_eq_getElem?_getD,hF]; rfl
  rw [hg]
  have c1:Go.Sx.cell w1 (some ⟨w0.heap.size,0,none⟩) 0=some (.pointer (ptr fb)):=(o1 0 (Nat.zero_le _)).cells 0 _ rfl
  have ne:=zaG fb
  refine ⟨hne,hne,_,g 11 _ rfl,fun _=>hne,fun _=>hne,fun hw=>⟨_,g 14 _ rfl,_,c1,ne,ne,_,x1.cell (i:=5) rfl,fun _=>hne,fun _=>hne,fun _=>by rw [zaP]; exact hne,fun hn=>⟨_,_,_,by rw [zaP]; exact g 10 _ rfl,fun w9 h9=>?_⟩,fun hn w6 h6=>⟨e01.trans h6,?_⟩⟩,fun hw w3 h3=>⟨e01.trans h3,?_⟩⟩
  · have hin:∀ y∈r.s.job.aft,1<=y/\y<=F.jobs.length:=fun y hy=>by have:=ha _ _ hF y hy; omega
    have hlen:=hok.len
    refine (zoI r.pf r.cf r.s.job.aft (by omega) _ (fun y=>decide (zaU F y≠3)) w9 (hJ.2.ext h9) fun y hy w' hw'=>⟨zdm,#[.pointer (some ⟨w0.heap.size,0,none⟩)],rfl,zGQ (x1.ext (h9.trans hw')) (zaJ (h9.trans hw') c1) (hin y hy)⟩).mono fun v w10 ⟨e10,b,hv,hb⟩=>⟨e10,b,hv,fun w12 h12=>⟨e01.trans h12,?_⟩⟩
    unfold zdA
    have h1:decide (r.s.what=1)=true:=decide_eq_true hw
    have h2:decide (r.s.again<=F.now)=true:=decide_eq_true hn
    rw [h1,h2]
    simp only [Bool.true_and]
    congr 1
    cases b with
    |true =>
      obtain ⟨y,hy,h3⟩:=hb.1 rfl
      have:(r.s.job.aft.all fun y=>decide (zaU F y=3))=false:=by
        rw [List.all_eq_false]
        exact ⟨y,hy,by simpa using h3⟩
      rw [this]; rfl
    |false =>
      have:(r.s.job.aft.all fun y=>decide (zaU F y=3))=true:=by
        rw [List.all_eq_true]
        intro y hy
        by_cases h:zaU F y=3
        · simp [h]
        · exact absurd (hb.2 ⟨y,hy,by simpa using h⟩) (by simp)
      rw [this]; rfl
  · unfold zdA
    have:decide (r.s.again<=F.now)=false:=decide_eq_false (by omega)
    rw [this]; simp
  · unfold zdA
    have:decide (r.s.what=1)=false:=decide_eq_false hw
    rw [this]; simp
end
def okP (p0 p1 p2 p3:Int):Prop:=1<=p0/\p0<=1000000000/\1<=p1/\p1<=10/\p0<=p2/\p2<=1000000000/\0<=p3/\p3<=50
def dl (p0 p1 p2:Int):Nat->Int
  |0 => p0
  |k+1 => min (dl p0 p1 p2 k*p1) p2
theorem zH2 {a b:Int} (ha:0<=a) (hb:1<=b):a<=a*b:=by
  have:=Int.mul_le_mul_of_nonneg_left hb ha
  omega
theorem zGv {a b:Int} (ha:0<=a) (hb:b<=10):a*b<=a*10:=Int.mul_le_mul_of_nonneg_left hb ha
theorem zgT {p0 p1 p2 p3:Int} (h:okP p0 p1 p2 p3):∀ k,p0<=dl p0 p1 p2 k/\dl p0 p1 p2 k<=p2
  |0 => by unfold okP at h; simp only [dl]; omega
  |k+1 => by
    have ih:=zgT h k
    unfold okP at h
    have:=zH2 (a:=dl p0 p1 p2 k) (b:=p1) (by omega) (by omega)
    simp only [dl]
    omega
theorem zxb {x:Int} (h:-9223372036854775808<=x/\x<=9223372036854775807):InR .i64 x:=h
theorem zhF {x:Int} (h:InR .i64 x):-9223372036854775808<=x/\x<=9223372036854775807:=h
theorem ztd (p0 p1 p2 p3:Int) (w:World):FnP Tryz.prog zdJ #[.agg #[.int .i64 p0,.int .i64 p1,.int .i64 p2,.int .i64 p3]] w fun v w'=>Ext w w'/\∃ e,v=.int .i64 e/\(okP p0 p1 p2 p3->e=0)/\(¬ okP p0 p1 p2 p3->e=4):=by
  refine zqS _ _ _ _ w _ ?_
  intro b0 hb
  refine ⟨fun h w1 he=>⟨he,4,rfl,fun hk=>?_,fun _=>rfl⟩,fun h w1 he=>⟨he,0,rfl,fun _=>rfl,fun hn=>?_⟩⟩<;>unfold okP at *<;>omega
def errD (p0 p1 p2 p3 n e:Int):Prop:=(¬ okP p0 p1 p2 p3->e=4)/\(okP p0 p1 p2 p3->(n<1\/p3<n)->e=5)/\(okP p0 p1 p2 p3->(1<=n/\n<=p3)->e=0)
theorem zCp (p0 p1 p2 p3 n:Int) (hn:InR .i64 n) (w:World):FnP Tryz.prog zdK #[.agg #[.int .i64 p0,.int .i64 p1,.int .i64 p2,.int .i64 p3],.int .i64 n] w fun v w' =>
    Ext w w'/\∃ a e,v=.tuple #[.int .i64 a,.int .i64 e]/\errD p0 p1 p2 p3 n e/\(e≠0->a=0)/\(e=0->a=dl p0 p1 p2 (n-1).toNat):=by
  refine zqT _ _ _ _ _ w _ ?_
  have hn:=zhF hn
  intro b0 hb w1 h1
  refine (ztd _ _ _ _ w1).mono fun v w2 ⟨h2,e,he,ho,hno⟩=>⟨h2,e,he,fun hne w4 h4=>⟨h4,0,e,rfl,?_,fun _=>rfl,fun h0=>absurd h0 hne⟩,fun he0=>?_⟩
  · have:¬ okP p0 p1 p2 p3:=fun h=>hne (ho h)
    exact ⟨hno,fun h=>absurd h this,fun h=>absurd h this⟩
  · have hok:okP p0 p1 p2 p3:=by
      by_cases h:okP p0 p1 p2 p3
      · exact h
      · have:=hno h; omega
    refine ⟨fun hr w4 h4=>⟨h4,0,5,rfl,⟨fun h=>absurd hok h,fun _ _=>rfl,fun _ h=>by omega⟩,fun _=>rfl,fun h=>by omega⟩,fun hr=>⟨zxb (by omega),?_⟩⟩
    refine ⟨fun d k w'=>Ext w w'/\0<=k/\k<=n-1/\d=dl p0 p1 p2 k.toNat,fun d k _=>(n-1-k).toNat,⟨Ext.refl w,by omega,by omega,rfl⟩,?_⟩
    rintro d k w7 ⟨hw,hk0,hk1,rfl⟩
    have hd:=zgT hok k.toNat
    have hm1:=zGv (a:=dl p0 p1 p2 k.toNat) (b:=p1) (by unfold okP at hok; omega) (by unfold okP at hok; omega)
    have hm2:=zH2 (a:=dl p0 p1 p2 k.toNat) (b:=p1) (by unfold okP at hok; omega) (by unfold okP at hok; omega)
    unfold okP at hok
    refine ⟨fun hlt=>⟨zxb (by omega),zxb (by omega),⟨hw,by omega,by omega,?_⟩,by simp only []; omega⟩,fun hge w8 h8=>⟨hw.trans h8,_,0,rfl,⟨fun h=>absurd hok h,fun _ h=>by omega,fun _ _=>rfl⟩,fun h=>absurd rfl h,fun _=>?_⟩⟩
    · rw [show (k+1).toNat=k.toNat+1 by omega]; rfl
    · rw [show k=n-1 by omega]
abbrev zi4 (p:Pol):Prop:=okP p.first p.times p.most p.tries
def ze0 (p:Pol) (n:Int):Int:=dl p.first p.times p.most (n-1).toNat
def stF (F:Fm) (k m:Nat) (v:Int):Fm:=setF F k (zjd m v (F.jobs.getD k default))
def zad (F:Fm) (k:Nat):St:=F.jobs.getD k default
theorem zbK (F:Fm) (k m:Nat) (v:Int):(stF F k m v).jobs.length=F.jobs.length:=by simp [stF,setF]
theorem zjI (F:Fm) (k m:Nat) (v:Int):(stF F k m v).hosts=F.hosts:=rfl
theorem zjT (F:Fm) {k m:Nat} (v:Int) (hk:k<F.jobs.length) (i:Nat):zad (stF F k m v) i=if i=k then zjd m v (zad F k) else zad F i:=by
  unfold zad stF setF
  simp only [List.getD_eq_getElem?_getD,List.getElem?_set]
  by_cases h:k=i
  · subst h; simp [hk]
  · have h':¬ i=k:=fun h2=>h h2.symm
    simp [h,h']
theorem ztm (F:Fm) {k m:Nat} (v:Int) (hk:k<F.jobs.length):(stF F k m v).jobs.map (·.job)=F.jobs.map (·.job):=by
  unfold stF setF
  rw [List.map_set,zlQ]
  refine List.ext_getElem? fun i=>?_
  rw [List.getElem?_set]
  by_cases h:k=i
  · subst h
    simp [List.getD_eq_getElem?_getD,hk]
  · simp [h]
theorem zFk {F G:Fm} (h:G.jobs.map (·.job)=F.jobs.map (·.job)) (ha:zk6 F):zk6 G:=by
  intro i s hs y hy
  have h1:(G.jobs.map (·.job))[i]?=some s.job:=by rw [List.getElem?_map,hs]; rfl
  rw [h,List.getElem?_map] at h1
  obtain ⟨s',hs',e⟩:=Option.map_eq_some_iff.1 h1
  exact ha i s' hs' y (by rw [e]; exact hy)
theorem zro {F:Fm} {k m:Nat} {v:Int} (hk:k<F.jobs.length) (ha:zk6 F):zk6 (stF F k m v):=zFk (ztm F v hk) ha
theorem zAF {F:Fm} {k:Nat} (h:k<F.jobs.length):F.jobs[k]?=some (zad F k):=by simp [zad,List.getD_eq_getElem?_getD,h]
theorem zhG {F:Fm} {k:Nat} {s:St} (h:F.jobs[k]?=some s):zad F k=s:=by simp [zad,List.getD_eq_getElem?_getD,h]
section
variable {O:Nat->Prop} {B fb:Nat} {w:World} {P:Pl} {F:Fm}
theorem zEs (x:FXO O B w fb P F) (hn0:0<=F.now/\F.now<=1099511627776) (n:Int):FnP Tryz.prog zcm #[.pointer (ptr fb),.int .i64 n] w fun v w'=>∃ e:Int,v=.int .i64 e /\
    ((e≠0/\e=4/\Ext w w')\/(e=0/\(0<=n/\n<=1000000000/\F.now+n<=1099511627776)/\FXO O B w' fb P { F with now:=F.now+n }/\Fr (ft fb P.jp) w w'))/\(e=0↔(0<=n/\n<=1000000000/\F.now+n<=1099511627776)):=by
  have ne:=zaG fb
  refine zmP (ptr fb) n w _ ⟨fun _=>ne,fun _=>ne,fun h w0 h0=>⟨4,rfl,.inl ⟨by decide,rfl,h0⟩,by omega⟩,fun h=>⟨_,x.cell (i:=5) rfl,i64 (by omega),fun h2 w1 h1=>⟨4,rfl,.inl ⟨by decide,rfl,h1⟩,by omega⟩,fun h2=>⟨ne,ne,_,x.cell (i:=5) rfl,i64 (by omega),ne,ne,?_⟩⟩⟩
  refine zaW (off:=5) x.slot rfl (by simp) (by simp) (by intro u hu; simp at hu; subst hu; rfl) (by simp) fun w2 o2 g2 w3 h3=>?_
  obtain ⟨y,f⟩:=x.slot_to (F':={ F with now:=F.now+n }) (P':=P) o2 g2 rfl rfl rfl rfl (fun w'' k=>x.hs w'' (((zaR g2 fun a ha=>by cases ha; exact .inr (.inl rfl))).tr k)) x.hO
  exact ⟨0,rfl,.inr ⟨rfl,⟨h.1,h.2,h2⟩,y.ext h3,f.tr (zac h3)⟩,by omega⟩
def zKS (F:Fm) (s:St):Bool:=s.job.aft.any fun y=>decide (zaU F y=4)||decide (zaU F y=5)
def zbT (F:Fm) (k:Nat):Fm:=if (zad F k).what=1/\zKS F (zad F k)=true then stF F k 11 5 else F
def lostTo (F:Fm):Nat->Fm
  |0 => F
  |n+1 => zbT (lostTo F n) n
def zmy (F:Fm):Fm:=lostTo F F.jobs.length
theorem zuN (F:Fm) (k:Nat):(zbT F k).jobs.length=F.jobs.length:=by unfold zbT; split<;>simp [zbK]
theorem zgZ (F:Fm):∀ n,(lostTo F n).jobs.length=F.jobs.length
  |0 => rfl
  |n+1 => by rw [lostTo,zuN,zgZ F n]
theorem zrI {F:Fm} (ha:zk6 F):∀ n,n<=F.jobs.length->zk6 (lostTo F n)
  |0,_ => ha
  |n+1,h => by
    have ih:=zrI ha n (by omega)
    rw [lostTo,zbT]
    split
    · exact zro (by rw [zgZ]; omega) ih
    · exact ih
theorem FXO.put (x:FXO O B w fb P F) {k:Int} (h0:0<=k) (h1:k<F.jobs.length) {m:Nat} (hm:11<=m/\m<=15) (v:Int) {ns:List Nat} (hns:∀ b∈ns,¬ ft fb P.jp b) {K:World->Prop}
    (hk:∀ w' P',P'.jp=P.jp->FXO O B w' fb P' (stF F k.toNat m v)->Fr (ft fb P.jp) w w'->K w'):zao w (pAdd (pIdx P.jp k 16) m) [.int .i64 v] ns K:=x.set h0 h1 hm v hns fun w' y f=>hk w' (setP P k.toNat (zjd m v (F.jobs.getD k.toNat default))) rfl y f
theorem zHZ (x:FXO O B w fb P F) (ha:zk6 F):FnP Tryz.prog zaD #[.pointer (ptr fb)] w fun v w'=>v=.tuple #[]/\∃ P',P'.jp=P.jp/\FXO O B w' fb P' (zmy F)/\Fr (ft fb P.jp) w w':=by
  have ne:=zaG fb
  refine zmQ (ptr fb) w _ fun w0 e0=>zbE (by simp [Value.oneCell']) fun w1 o1 e1=>?_
  have e01:=e0.trans e1
  have x1:=x.ext e01
  generalize hp1:(some ⟨w0.heap.size,0,none⟩:Option Addr)=p1
  rw [hp1] at o1
  have o1':=o1 w0.heap.size (Nat.le_refl _)
  have c1:Go.Sx.cell w1 p1 0=some (.pointer (ptr fb)):=o1'.cells 0 _ rfl
  have np:∀ a,p1=some a->¬ ft fb P.jp a.block:=fun a ha hf=>by
    have:=(x.foot hf).2
    have:=(o1'.lt a ha).1
    have:=e0.size
    omega
  have hl0:=x.jO.1
  refine ⟨_,c1,ne,ne,_,_,_,x1.cell (i:=6) rfl,?_⟩
  rw [x1.len]
  refine ⟨fun k w'=>0<=k/\k<=F.jobs.length/\Fr (ft fb P.jp) w1 w'/\∃ P',P'.jp=P.jp/\FXO O B w' fb P' (lostTo F k.toNat),fun k _=>(F.jobs.length-k).toNat,⟨by omega,by omega,Fr.refl _ _,P,rfl,x1⟩,?_⟩
  rintro k w8 ⟨hk0,hk1,f8,P',hP,x8⟩
  have ll:=zgZ F k.toNat
  refine ⟨fun hlt=>?_,fun hge w9 h9=>⟨rfl,P',hP,?_,((zac e01).tr f8).tr (zac h9)⟩⟩
  · have c8:Go.Sx.cell w8 p1 0=some (.pointer (ptr fb)):=zdN c1 f8 np
    obtain ⟨r,hr,hF,hjp,hne,_,g,hJ,hok,hwf⟩:=x8.st hk0 (by omega)
    have hja:zad (lostTo F k.toNat) k.toNat=r.s:=zhG hF
    have nxt:∀ {w},FXO O B w fb P' (zbT (lostTo F k.toNat) k.toNat)->FXO O B w fb P' (lostTo F (k+1).toNat):=fun h=>by rw [show (k+1).toNat=k.toNat+1 by omega]; exact h
    have same:¬ (r.s.what=1/\zKS (lostTo F k.toNat) r.s=true)->lostTo F (k+1).toNat=lostTo F k.toNat:=fun h=>by
      rw [show (k+1).toNat=k.toNat+1 by omega,lostTo,zbT,hja,if_neg h]
    refine ⟨_,c8,ne,ne,_,_,_,x8.cell (i:=6) rfl,hjp,hk0,by rw [x8.len]; omega,hne,hne,_,g 11 _ rfl,fun _=>hne,fun _=>hne,fun _=>by rw [zaP]; exact hne,fun hw=>?_,fun hw=>⟨i64 (by omega),⟨by omega,by omega,f8,P',hP,by rw [same fun h=>hw h.1]; exact x8⟩,by simp only []; omega⟩⟩
    refine ⟨_,_,_,by rw [zaP]; exact g 10 _ rfl,fun w17 h17=>?_⟩
    have hin:∀ y∈r.s.job.aft,1<=y/\y<=(lostTo F k.toNat).jobs.length:=fun y hy=>by have:=zrI ha k.toNat (by omega) _ _ hF y hy; omega
    have hlen:=hok.len
    refine (zoI r.pf r.cf r.s.job.aft (by omega) _ (fun y=>decide (zaU (lostTo F k.toNat) y=4)||decide (zaU (lostTo F k.toNat) y=5)) w17 (hJ.2.ext h17) fun y hy w' hw'=>⟨zdH,#[.pointer p1],rfl,zJZ (x8.ext (h17.trans hw')) (zaJ (h17.trans hw') c8) (hin y hy)⟩).mono fun v w18 ⟨e18,b,hv,hb⟩=>⟨e18,b,hv,fun hbt=>⟨hne,hne,?_⟩,fun hbf=>⟨i64 (by omega),⟨by omega,by omega,f8,P',hP,?_⟩,by simp only []; omega⟩⟩
    · have hbad:zKS (lostTo F k.toNat) r.s=true:=by
        obtain ⟨y,hy,h3⟩:=hb.1 hbt
        exact List.any_eq_true.2 ⟨y,hy,h3⟩
      refine x8.put hk0 (by omega) (by omega) 5 (by simp) fun w20 P'' hP'' x20 f20=>⟨i64 (by omega),⟨by omega,by omega,f8.tr (by rw [hP] at f20; exact f20),P'',hP''.trans hP,?_⟩,by simp only []; omega⟩
      rw [show (k+1).toNat=k.toNat+1 by omega,lostTo,zbT,hja,if_pos ⟨hw,hbad⟩]
      exact x20
    · rw [same fun h=>?_]
      · exact x8
      · obtain ⟨y,hy,h3⟩:=List.any_eq_true.1 h.2
        have:=hb.2 ⟨y,hy,h3⟩
        rw [hbf] at this; cases this
  · have:k.toNat=F.jobs.length:=by omega
    rw [this] at x8
    exact x8.ext h9
def LvOk (F:Fm) (k:Nat):Prop:=zkB F.hosts/\0<=(zad F k).host/\(zad F k).host<F.hosts.length/\zj1 (zad F k).job.nd (F.hosts.getD (zad F k).host.toNat default).used
def zkt (F:Fm) (k:Nat):Fm:={ F with hosts:=F.hosts.set (zad F k).host.toNat (zfS (F.hosts.getD (zad F k).host.toNat default) (zin (F.hosts.getD (zad F k).host.toNat default).used (zad F k).job.nd)) }
def zdy (F:Fm) (k:Nat):Fm:=stF (stF (zkt F k) k 12 0) k 13 0
theorem zC9 (x:FXO O B w fb P F) {k:Int} (h0:0<=k) (h1:k<F.jobs.length) (hv:LvOk F k.toNat):FnP Tryz.prog zbZ #[.pointer (ptr fb),.pointer (pIdx P.jp k 16)] w fun v w'=>v=.tuple #[]/\∃ P',P'.jp=P.jp/\FXO O B w' fb P' (zdy F k.toNat)/\Fr (ft fb P.jp) w w':=by
  have ne:=zaG fb
  obtain ⟨r,hr,hF,hjp,hne,_,g,hJ,hok,hwf⟩:=x.st h0 h1
  have hja:zad F k.toNat=r.s:=zhG hF
  unfold LvOk at hv
  rw [hja] at hv
  refine zlF (ptr fb) (pIdx P.jp k 16) w _ ⟨ne,ne,_,_,_,x.cell (i:=0) rfl,hne,hne,_,g 12 _ rfl,hne,hne,by rw [zaP]; exact hne,by rw [zaP]; exact fun h=>hne (zdj.1 h),_,by rw [zaP]; exact g 2 _ rfl,_,by rw [zaP,zal]; have:=g 3 _ rfl; rw [zal] at this; exact this,_,by rw [zaP,zal]; have:=g 4 _ rfl; rw [zal] at this; exact this,fun w7 h7=>?_⟩
  have x7:=x.ext h7
  have hO:=x.hO
  refine (Give_k P.hp P.hc F.hosts (by omega) hO.2 r.s.host r.s.job.nd w7 (x7.hs w7 (Fr.refl _ _))).mono fun v w8 ⟨e8,p',n',c',e,hv',hcase⟩=>⟨e8,p',n',c',e,hv',ne,ne,?_⟩
  rcases hcase with ⟨_,_,hno⟩|⟨_,_,_,_,rfl,_,hS⟩
  · exact absurd ⟨hok.nd,hv.2.2.2⟩ (hno hv.1 hv.2.1 hv.2.2.1)
  have x8:=x7.ext e8
  refine zaW (off:=0) x8.slot rfl (by simp) (by simp) (by intro u hu; simp at hu; subst hu; rfl) (by simp) fun w13 o13 g13=>⟨hne,hne,?_⟩
  have hG:zkt F k.toNat={ F with hosts:=F.hosts.set r.s.host.toNat (zfS (F.hosts.getD r.s.host.toNat default) (zin (F.hosts.getD r.s.host.toNat default).used r.s.job.nd)) }:=by unfold zkt; rw [hja]
  have fg:Fr (ft fb P.jp) w8 w13:=zaR g13 fun a ha=>by cases ha; exact .inl rfl
  obtain ⟨y,f13⟩:=x8.slot_to (F':=zkt F k.toNat) (P':={ P with hp:=p',hc:=c' }) (by
    rw [hG]
    show Own B w13 zcK 7 (ptr fb) 1 1 [.slice p' (F.hosts.set _ _).length c',_,_,_,_,_,_]
    rw [List.length_set]; exact o13) g13 rfl rfl rfl rfl (fun w'' kf=>by
      rw [hG]
      exact hS (ftO O fb P.jp) (fun b hb=>by
        rcases hb with hb|hb
        · exact x7.olt b hb
        · exact (x7.foot hb).2) w'' ((fg.mono fun b hb=>.inr hb).tr kf)) (by
    rw [hG]
    refine ⟨by show (F.hosts.set _ _).length<=30; rw [List.length_set]; exact hO.1,fun h hh=>?_⟩
    have hh:h∈F.hosts.set r.s.host.toNat (zfS (F.hosts.getD r.s.host.toNat default) (zin (F.hosts.getD r.s.host.toNat default).used r.s.job.nd)):=hh
    rcases List.mem_or_eq_of_mem_set hh with hh|rfl
    · exact hO.2 h hh
    · have:=hO.2 _ (zan F.hosts default (i:=r.s.host.toNat) (by omega))
      exact ⟨this.1,this.2.1,this.2.2⟩)
  refine y.put (k:=k) h0 h1 (by omega) 0 (by simp) fun w14 P1 hP1 y14 f14=>⟨hne,hne,?_⟩
  have hP1:P1.jp=P.jp:=hP1
  have:=y14.put (k:=k) (m:=13) h0 (by rw [zbK]; exact h1) (by omega) 0 (ns:=[]) (by simp) (K:=fun w15=>∀ w16,Ext w15 w16->Value.tuple #[]=.tuple #[]/\∃ P',P'.jp=P.jp/\FXO O B w16 fb P' (zdy F k.toNat)/\Fr (ft fb P.jp) w w16) fun w15 P2 hP2 y15 f15 w16 h16=>⟨rfl,P2,hP2.trans hP1,y15.ext h16,?_⟩
  · rw [hP1] at this; exact this
  · rw [hP1] at f15
    exact (((((zac h7).tr (zac e8)).tr f13).tr f14).tr f15).tr (zac h16)
end
def zpt (j:Jb):St:=⟨j,1,0,0,0,0⟩
def zn3 (F:Fm) (j:Jb):Fm:={ F with jobs:=F.jobs++[zpt j] }
def zqC (F:Fm) (j:Jb):Prop:=okJ j/\F.jobs.length≠60/\∀ y∈j.aft,y<=F.jobs.length/\zaU F y≠4/\zaU F y≠5
structure Pre (F:Fm):Prop where
  aft:zk6 F
  pol:zi4 F.pol
  now:0<=F.now/\F.now<=1099511627776
  run:∀ k,k<F.jobs.length->(zad F k).what=2->LvOk F k
  tries:∀ k,k<F.jobs.length->0<=(zad F k).tries/\(zad F k).tries<=100
def zCQ (w:World) (fb:Nat) (jp jp':Option Addr):Prop:=∀ b,ft fb jp' b->ft fb jp b\/w.heap.size<=b
def inJ (F:Fm) (id:Int):Prop:=1<=id/\id<=F.jobs.length
def zHu (F:Fm) (j:Jb) (e:Int):Prop:=(zrw j≠0/\e=zrw j)\/(zrw j=0/\((F.jobs.length=60/\e=7)\/(F.jobs.length≠60/\(((∃ y∈j.aft,¬ (1<=y/\y<=F.jobs.length))/\e=5)\/((∀ y∈j.aft,1<=y/\y<=F.jobs.length) /\
  (((∃ y∈j.aft,zaU F y=4\/zaU F y=5)/\e=9)\/((∀ y∈j.aft,zaU F y≠4/\zaU F y≠5)/\e=0)))))))
def ztL (F:Fm) (id e:Int):Prop:=(¬ inJ F id/\e=5)\/(inJ F id/\e=9)
section
variable {O:Nat->Prop} {B fb:Nat} {w:World} {P:Pl} {F:Fm}
theorem zb7 (F:Fm) (k:Nat):(zdy F k).jobs.length=F.jobs.length:=by unfold zdy; rw [zbK,zbK]; rfl
theorem zjD {F:Fm} {k:Nat} (hk:k<F.jobs.length) (i:Nat):zad (zdy F k) i=if i=k then { zad F k with host:=0,since:=0 } else zad F i:=by
  unfold zdy
  have hk':k<(zkt F k).jobs.length:=hk
  rw [zjT _ _ (by rw [zbK]; exact hk'),zjT _ _ hk',if_pos rfl]
  split
  · rfl
  · rename_i h
    rw [zjT _ _ hk',if_neg h]; rfl
theorem ztY {F:Fm} {k:Nat} (hk:k<F.jobs.length) (ha:zk6 F):zk6 (zdy F k):=by
  unfold zdy
  have hk':k<(zkt F k).jobs.length:=hk
  exact zro (by rw [zbK]; exact hk') (zro hk' ha)
def zcP (F:Fm) (k:Nat):Fm:=stF (zdy F k) k 15 ((zad F k).tries+1)
def zgA (F:Fm) (k:Nat) (ok:Bool):Fm :=
  if ok=true then stF (zdy F k) k 11 3
  else if (zad F k).tries+1<=F.pol.tries then stF (stF (zcP F k) k 11 1) k 14 (F.now+ze0 F.pol ((zad F k).tries+1))
  else zmy (stF (zcP F k) k 11 4)
def zAk (F:Fm) (k:Nat):Fm:=zmy (stF (if (zad F k).what=2 then zdy F k else F) k 11 5)
theorem FXO.at_ (x:FXO O B w fb P F) {id:Int} (h:inJ F id):pIdx P.jp (id-1) 16≠none/\(∀ (m:Nat) u,(ztO ⟨zad F (id-1).toNat,none,0,none,0⟩)[m]?=some u->11<=m->Go.Sx.cell w (pAdd (pIdx P.jp (id-1) 16) m) 0=some u):=by
  obtain ⟨r,hr,hF,_,hne,_,g,_⟩:=x.st (k:=id-1) (by have:=h.1; omega) (by have:=h.2; omega)
  refine ⟨hne,fun m u hu hm=>g m u ?_⟩
  rw [zhG hF] at hu
  match m,hm with
  |m+11,_ =>
    rw [<- hu]
    rfl
theorem zox (x:FXO O B w fb P F) (hp:Pre F) (id:Int) (hid:InR .i64 id) (ok:Bool) :
    FnP Tryz.prog zaS #[.pointer (ptr fb),.int .i64 id,.bool ok] w fun v w'=>∃ e:Int,v=.int .i64 e/\(e=0↔inJ F id/\(zad F (id-1).toNat).what=2)/\((e≠0/\ztL F id e/\Ext w w')\/(e=0/\∃ P',P'.jp=P.jp/\FXO O B w' fb P' (zgA F (id-1).toNat ok)/\Fr (ft fb P.jp) w w')):=by
  have ne:=zaG fb
  refine zkF (ptr fb) id ok w _ fun w0 h0=>(zBZ (x.ext h0) id hid).mono fun v w1 ⟨e1,hv⟩=>⟨e1,?_⟩
  have h1:=h0.trans e1
  rcases hv with ⟨hno,rfl⟩|⟨hi0,hi1,rfl⟩
  · exact ⟨_,rfl,fun _ w3 h3=>⟨5,rfl,⟨fun h=>(by cases h),fun h=>absurd h.1 hno⟩,.inl ⟨by decide,.inl ⟨hno,rfl⟩,h1.trans h3⟩⟩,fun h=>absurd rfl h⟩
  have hin:inJ F id:=⟨hi0,hi1⟩
  have x1:=x.ext h1
  obtain ⟨hne,g⟩:=x1.at_ hin
  have hk:(id-1).toNat<F.jobs.length:=by omega
  refine ⟨_,rfl,fun h=>absurd h hne,fun _=>⟨hne,hne,_,g 11 _ rfl (by omega),fun hw w4 h4=>⟨9,rfl,⟨fun h=>(by cases h),fun h=>absurd h.2 hw⟩,.inl ⟨by decide,.inr ⟨hin,rfl⟩,h1.trans h4⟩⟩,fun hw w4 h4=>?_⟩⟩
  have hiff:(0:Int)=0↔inJ F id/\(zad F (id-1).toNat).what=2:=⟨fun _=>⟨hin,hw⟩,fun _=>rfl⟩
  refine (zC9 (x1.ext h4) (k:=id-1) (by omega) (by omega) (hp.run _ hk hw)).mono fun v w5 ⟨hv,P1,hP1,y5,f5⟩=>⟨hv,fun hok=>⟨hne,hne,?_⟩,fun hok=>?_⟩
  · have hin5:inJ (zdy F (id-1).toNat) id:=⟨hi0,by rw [zb7]; exact hi1⟩
    have:=y5.put (k:=id-1) (m:=11) (by omega) (by rw [zb7]; omega) (by omega) 3 (ns:=[]) (by simp) (K:=fun w6=>∀ w7,Ext w6 w7->∃ e:Int,Value.int .i64 0=.int .i64 e/\(e=0↔inJ F id/\(zad F (id-1).toNat).what=2)/\((e≠0/\ztL F id e/\Ext w w7)\/(e=0/\∃ P',P'.jp=P.jp/\FXO O B w7 fb P' (zgA F (id-1).toNat ok)/\Fr (ft fb P.jp) w w7))) fun w6 P2 hP2 y6 f6 w7 h7=>⟨0,rfl,hiff,.inr ⟨rfl,P2,hP2.trans hP1,?_,?_⟩⟩
    · rw [hP1] at this; exact this
    · unfold zgA; rw [if_pos hok]; exact y6.ext h7
    · rw [hP1] at f6
      exact ((((zac h1).tr (zac h4)).tr f5).tr f6).tr (zac h7)
  have hkl:(id-1).toNat<(zdy F (id-1).toNat).jobs.length:=by rw [zb7]; exact hk
  have hin5:inJ (zdy F (id-1).toNat) id:=⟨hi0,by rw [zb7]; exact hi1⟩
  obtain ⟨_,g5⟩:=y5.at_ hin5
  rw [hP1,zjD hk,if_pos rfl] at g5
  have htr:=hp.tries _ hk
  refine ⟨hne,hne,_,g5 15 _ rfl (by omega),i64 (by simp only []; omega),hne,hne,?_⟩
  have goal:∀ {w7:World} {P2:Pl},P2.jp=P.jp->FXO O B w7 fb P2 (zcP F (id-1).toNat)->Fr (ft fb P.jp) w w7->(ptr fb≠none/\ptr fb≠none/\(pAdd (ptr fb) 1)≠none /\
      ∃ t8:Int,Go.Sx.cell w7 (pAdd (ptr fb) 1) 0=some (.int .i64 t8)/\∃ t9:Int,Go.Sx.cell w7 (pAdd (ptr fb) 1) 1=some (.int .i64 t9)/\∃ t10:Int,Go.Sx.cell w7 (pAdd (ptr fb) 1) 2=some (.int .i64 t10)/\∃ t11:Int,Go.Sx.cell w7 (pAdd (ptr fb) 1) 3=some (.int .i64 t11) /\
      (pIdx P.jp (id-1) 16)≠none/\(pIdx P.jp (id-1) 16)≠none/\∃ t12:Int,Go.Sx.cell w7 (pAdd (pIdx P.jp (id-1) 16) 15) 0=some (.int .i64 t12) /\
      ∀ w13,Ext w7 w13->FnP Tryz.prog zdK #[(.agg #[(.int .i64 t8),(.int .i64 t9),(.int .i64 t10),(.int .i64 t11)]),(.int .i64 t12)] w13 fun v14 w14=>Ext w13 w14/\∃ t15:Int,∃ t16:Int,v14=(.tuple #[(.int .i64 t15),(.int .i64 t16)]) /\
        (((t16≠0)->(pIdx P.jp (id-1) 16)≠none/\(pIdx P.jp (id-1) 16)≠none/\zao w7 (pAdd (pIdx P.jp (id-1) 16) 11) [(.int .i64 4)] [] fun w17=>∀ w18,Ext w17 w18 ->
           FnP Tryz.prog zaD #[(.pointer (ptr fb))] w18 fun v19 w19=>v19=(.tuple #[])/\∀ w20,Ext w19 w20->∃ e:Int,Value.int .i64 0=.int .i64 e/\(e=0↔inJ F id/\(zad F (id-1).toNat).what=2)/\((e≠0/\ztL F id e/\Ext w w20)\/(e=0/\∃ P',P'.jp=P.jp/\FXO O B w20 fb P' (zgA F (id-1).toNat ok)/\Fr (ft fb P.jp) w w20)))) /\
        ((t16=0)->ptr fb≠none/\ptr fb≠none/\∃ t17:Int,Go.Sx.cell w7 (pAdd (ptr fb) 5) 0=some (.int .i64 t17)/\InR .i64 (t17+t15)/\(pIdx P.jp (id-1) 16)≠none/\(pIdx P.jp (id-1) 16)≠none /\
          zao w7 (pAdd (pIdx P.jp (id-1) 16) 11) [(.int .i64 1)] [] fun w18=>(pIdx P.jp (id-1) 16)≠none/\(pIdx P.jp (id-1) 16)≠none/\zao w18 (pAdd (pIdx P.jp (id-1) 16) 14) [(.int .i64 (t17+t15))] [] fun w19=>∀ w20,Ext w19 w20 ->
            ∃ e:Int,Value.int .i64 0=.int .i64 e/\(e=0↔inJ F id/\(zad F (id-1).toNat).what=2)/\((e≠0/\ztL F id e/\Ext w w20)\/(e=0/\∃ P',P'.jp=P.jp/\FXO O B w20 fb P' (zgA F (id-1).toNat ok)/\Fr (ft fb P.jp) w w20)))):=by
    intro w7 P2 hP2 y7 f7
    have hin7:inJ (zcP F (id-1).toNat) id:=⟨hi0,by unfold zcP; rw [zbK,zb7]; exact hi1⟩
    obtain ⟨_,g7⟩:=y7.at_ hin7
    have hat7:zad (zcP F (id-1).toNat) (id-1).toNat={ zad F (id-1).toNat with host:=0,since:=0,tries:=(zad F (id-1).toNat).tries+1 }:=by
      unfold zcP
      rw [zjT _ _ hkl,if_pos rfl,zjD hk,if_pos rfl]; rfl
    rw [hP2,hat7] at g7
    have hlt:(zcP F (id-1).toNat).jobs.length=F.jobs.length:=by unfold zcP; rw [zbK,zb7]
    have hpl:(zcP F (id-1).toNat).pol=F.pol:=rfl
    have hnw:(zcP F (id-1).toNat).now=F.now:=rfl
    have pc:∀ (i:Nat) (v:Value),(fcs P2 (zcP F (id-1).toNat))[1+i]?=some v->Go.Sx.cell w7 (pAdd (ptr fb) 1) i=some v:=fun i v hv=>by
      have:=y7.cell hv
      rw [zal] at this ⊢
      exact this
    have hdly:1<=(zad F (id-1).toNat).tries+1:=by omega
    refine ⟨ne,ne,(fun h=>ne (zdj.1 h)),_,pc 0 _ rfl,_,pc 1 _ rfl,_,pc 2 _ rfl,_,pc 3 _ rfl,hne,hne,_,g7 15 _ rfl (by omega),fun w13 h13=>?_⟩
    refine (zCp F.pol.first F.pol.times F.pol.most F.pol.tries _ (i64 (by simp only []; omega)) w13).mono fun v w14 ⟨e14,d,e,hv,herr,_,hd⟩=>⟨e14,d,e,hv,fun hne'=>⟨hne,hne,?_⟩,fun hz=>⟨ne,ne,_,y7.cell (i:=5) rfl,?_,hne,hne,?_⟩⟩
    · have hgt:¬ (zad F (id-1).toNat).tries+1<=F.pol.tries:=fun h=>hne' (herr.2.2 hp.pol ⟨hdly,h⟩)
      have:=y7.put (k:=id-1) (m:=11) (by omega) (by rw [hlt]; omega) (by omega) 4 (ns:=[]) (by simp) (K:=fun w17=>∀ w18,Ext w17 w18 ->
           FnP Tryz.prog zaD #[(.pointer (ptr fb))] w18 fun v19 w19=>v19=(.tuple #[])/\∀ w20,Ext w19 w20->∃ e:Int,Value.int .i64 0=.int .i64 e/\(e=0↔inJ F id/\(zad F (id-1).toNat).what=2)/\((e≠0/\ztL F id e/\Ext w w20)\/(e=0/\∃ P',P'.jp=P.jp/\FXO O B w20 fb P' (zgA F (id-1).toNat ok)/\Fr (ft fb P.jp) w w20))) fun w17 P3 hP3 y17 f17 w18 h18=>(zHZ (y17.ext h18) (zro (by rw [hlt]; exact hk) (zro hkl (ztY hk hp.aft)))).mono fun v w19 ⟨hv,P4,hP4,y19,f19⟩=>⟨hv,fun w20 h20=>⟨0,rfl,hiff,.inr ⟨rfl,P4,hP4.trans (hP3.trans hP2),?_,?_⟩⟩⟩
      · rw [hP2] at this; exact this
      · unfold zgA; rw [if_neg (by rw [hok]; simp),if_neg hgt]; exact y19.ext h20
      · rw [hP3,hP2] at f19
        rw [hP2] at f17
        exact (((f7.tr f17).tr (zac h18)).tr f19).tr (zac h20)
    · have hle:(zad F (id-1).toNat).tries+1<=F.pol.tries:=by
        by_cases h:(zad F (id-1).toNat).tries+1<=F.pol.tries
        · exact h
        · have:=herr.2.1 hp.pol (.inr (by simp only []; omega)); omega
      have hdb:=zgT hp.pol ((zad F (id-1).toNat).tries+1-1).toNat
      have hd':d=dl F.pol.first F.pol.times F.pol.most ((zad F (id-1).toNat).tries+1-1).toNat:=hd hz
      have hpp:=hp.pol
      have hnn:=hp.now
      unfold zi4 okP at hpp
      rw [hnw]
      exact i64 (by omega)
    · have hle:(zad F (id-1).toNat).tries+1<=F.pol.tries:=by
        by_cases h:(zad F (id-1).toNat).tries+1<=F.pol.tries
        · exact h
        · have:=herr.2.1 hp.pol (.inr (by simp only []; omega)); omega
      have hd':d=ze0 F.pol ((zad F (id-1).toNat).tries+1):=hd hz
      have:=y7.put (k:=id-1) (m:=11) (by omega) (by rw [hlt]; omega) (by omega) 1 (ns:=[]) (by simp) (K:=fun w18=>(pIdx P.jp (id-1) 16)≠none/\(pIdx P.jp (id-1) 16)≠none/\zao w18 (pAdd (pIdx P.jp (id-1) 16) 14) [(.int .i64 (F.now+d))] [] fun w19=>∀ w20,Ext w19 w20 ->
            ∃ e:Int,Value.int .i64 0=.int .i64 e/\(e=0↔inJ F id/\(zad F (id-1).toNat).what=2)/\((e≠0/\ztL F id e/\Ext w w20)\/(e=0/\∃ P',P'.jp=P.jp/\FXO O B w20 fb P' (zgA F (id-1).toNat ok)/\Fr (ft fb P.jp) w w20))) fun w18 P3 hP3 y18 f18=>⟨hne,hne,?_⟩
      · rw [hP2] at this; exact this
      have hP3:=hP3.trans hP2
      have:=y18.put (k:=id-1) (m:=14) (by omega) (by rw [zbK,hlt]; omega) (by omega) (F.now+d) (ns:=[]) (by simp) (K:=fun w19=>∀ w20,Ext w19 w20 ->
            ∃ e:Int,Value.int .i64 0=.int .i64 e/\(e=0↔inJ F id/\(zad F (id-1).toNat).what=2)/\((e≠0/\ztL F id e/\Ext w w20)\/(e=0/\∃ P',P'.jp=P.jp/\FXO O B w20 fb P' (zgA F (id-1).toNat ok)/\Fr (ft fb P.jp) w w20))) fun w19 P4 hP4 y19 f19 w20 h20=>⟨0,rfl,hiff,.inr ⟨rfl,P4,hP4.trans hP3,?_,?_⟩⟩
      · rw [hP3] at this; exact this
      · unfold zgA; rw [if_neg (by rw [hok]; simp),if_pos hle,<- hd']; exact y19.ext h20
      · rw [hP3] at f19
        rw [hP2] at f18
        exact ((f7.tr f18).tr f19).tr (zac h20)
  have:=y5.put (k:=id-1) (m:=15) (by omega) (by rw [zb7]; omega) (by omega) ((zad F (id-1).toNat).tries+1) (ns:=[]) (by simp) fun w7 P2 hP2 y7 f7=>goal (hP2.trans hP1) y7 (by
    rw [hP1] at f7
    exact (((zac h1).tr (zac h4)).tr f5).tr f7)
  rw [hP1] at this
  exact this
theorem zyM (x:FXO O B w fb P F) (hp:Pre F) (id:Int) (hid:InR .i64 id) :
    FnP Tryz.prog zcE #[.pointer (ptr fb),.int .i64 id] w fun v w'=>∃ e:Int,v=.int .i64 e/\(e=0↔inJ F id/\((zad F (id-1).toNat).what=1\/(zad F (id-1).toNat).what=2))/\((e≠0/\ztL F id e/\Ext w w')\/(e=0/\∃ P',P'.jp=P.jp/\FXO O B w' fb P' (zAk F (id-1).toNat)/\Fr (ft fb P.jp) w w')):=by
  have ne:=zaG fb
  refine zkE (ptr fb) id w _ fun w0 h0=>(zBZ (x.ext h0) id hid).mono fun v w1 ⟨e1,hv⟩=>⟨e1,?_⟩
  have h1:=h0.trans e1
  rcases hv with ⟨hno,rfl⟩|⟨hi0,hi1,rfl⟩
  · exact ⟨_,rfl,fun _ w3 h3=>⟨5,rfl,⟨fun h=>(by cases h),fun h=>absurd h.1 hno⟩,.inl ⟨by decide,.inl ⟨hno,rfl⟩,h1.trans h3⟩⟩,fun h=>absurd rfl h⟩
  have hin:inJ F id:=⟨hi0,hi1⟩
  have x1:=x.ext h1
  obtain ⟨hne,g⟩:=x1.at_ hin
  have hk:(id-1).toNat<F.jobs.length:=by omega
  have g11:=g 11 _ rfl (by omega)
  have fin:∀ {w6:World} {P1:Pl} {G:Fm},P1.jp=P.jp->FXO O B w6 fb P1 G->G.jobs.length=F.jobs.length->zk6 G->Fr (ft fb P.jp) w w6->zAk F (id-1).toNat=zmy (stF G (id-1).toNat 11 5)->((zad F (id-1).toNat).what=1\/(zad F (id-1).toNat).what=2) ->
      zao w6 (pAdd (pIdx P.jp (id-1) 16) 11) [(.int .i64 5)] [] fun w7=>∀ w8,Ext w7 w8->FnP Tryz.prog zaD #[(.pointer (ptr fb))] w8 fun v9 w9=>v9=(.tuple #[])/\∀ w10,Ext w9 w10 ->
        ∃ e:Int,Value.int .i64 0=.int .i64 e/\(e=0↔inJ F id/\((zad F (id-1).toNat).what=1\/(zad F (id-1).toNat).what=2))/\((e≠0/\ztL F id e/\Ext w w10)\/(e=0/\∃ P',P'.jp=P.jp/\FXO O B w10 fb P' (zAk F (id-1).toNat)/\Fr (ft fb P.jp) w w10)):=by
    intro w6 P1 G hP1 y6 hGl hGa f6 hc hw
    have:=y6.put (k:=id-1) (m:=11) (by omega) (by omega) (by omega) 5 (ns:=[]) (by simp) (K:=fun w7=>∀ w8,Ext w7 w8->FnP Tryz.prog zaD #[(.pointer (ptr fb))] w8 fun v9 w9=>v9=(.tuple #[])/\∀ w10,Ext w9 w10 ->
        ∃ e:Int,Value.int .i64 0=.int .i64 e/\(e=0↔inJ F id/\((zad F (id-1).toNat).what=1\/(zad F (id-1).toNat).what=2))/\((e≠0/\ztL F id e/\Ext w w10)\/(e=0/\∃ P',P'.jp=P.jp/\FXO O B w10 fb P' (zAk F (id-1).toNat)/\Fr (ft fb P.jp) w w10))) fun w7 P2 hP2 y7 f7 w8 h8=>(zHZ (y7.ext h8) (zro (by omega) hGa)).mono fun v w9 ⟨hv,P3,hP3,y9,f9⟩=>⟨hv,fun w10 h10=>⟨0,rfl,⟨fun _=>⟨hin,hw⟩,fun _=>rfl⟩,.inr ⟨rfl,P3,hP3.trans (hP2.trans hP1),?_,?_⟩⟩⟩
    · rw [hP1] at this; exact this
    · rw [hc]; exact y9.ext h10
    · rw [hP2,hP1] at f9
      rw [hP1] at f7
      exact (((f6.tr f7).tr (zac h8)).tr f9).tr (zac h10)
  refine ⟨_,rfl,fun h=>absurd h hne,fun _=>⟨hne,hne,_,g11,fun _=>hne,fun _=>hne,fun hw1=>⟨_,g11,fun hw2 w5 h5=>⟨9,rfl,⟨fun h=>(by cases h),fun h=>(h.2.elim (fun h=>hw1 h) (fun h=>hw2 h)).elim⟩,.inl ⟨by decide,.inr ⟨hin,rfl⟩,h1.trans h5⟩⟩,fun hw2=>⟨hne,hne,_,g11,fun _ w6 h6=>?_,fun h=>absurd hw2 h⟩⟩,fun hw1=>⟨hne,hne,_,g11,fun h=>by omega,fun hw2=>⟨hne,hne,?_⟩⟩⟩⟩
  · refine (zC9 (x1.ext h6) (k:=id-1) (by omega) (by omega) (hp.run _ hk hw2)).mono fun v w7 ⟨hv,P1,hP1,y7,f7⟩=>⟨hv,hne,hne,?_⟩
    exact fin hP1 y7 (zb7 _ _) (ztY hk hp.aft) (((zac h1).tr (zac h6)).tr f7) (by unfold zAk; rw [if_pos hw2]) (.inr hw2)
  · exact fin rfl x1 rfl hp.aft (zac h1) (by unfold zAk; rw [if_neg hw2]) (.inl hw1)
end
def zpN (F:Fm) (id:Int):Int:=(zad F (id-1).toNat).job.prio
def zb6 (F:Fm) (a b:Int):Prop:=zpN F b<zpN F a\/zpN F a=zpN F b/\a<b
def zg6 (F:Fm):Nat->List Int
  |0 => []
  |k+1 => if zdA F (zad F k)=true then zg6 F k++[(k:Int)+1] else zg6 F k
abbrev rdy (F:Fm):List Int:=zg6 F F.jobs.length
theorem zfB {F:Fm} {x:Int}:∀ {k:Nat},x∈zg6 F k↔1<=x/\x<=k/\zdA F (zad F (x-1).toNat)=true
  |0 => by simp [zg6]; omega
  |k+1 => by
    have ih:=zfB (F:=F) (x:=x) (k:=k)
    unfold zg6
    split
    · rename_i h
      rw [List.mem_append,ih]
      constructor
      · rintro (⟨h1,h2,h3⟩|h1)
        · exact ⟨h1,by omega,h3⟩
        · simp at h1; subst h1
          exact ⟨by omega,by omega,by rw [show ((k:Int)+1-1).toNat=k by omega]; exact h⟩
      · rintro ⟨h1,h2,h3⟩
        by_cases h4:x<=k
        · exact .inl ⟨h1,h4,h3⟩
        · exact .inr (by simp; omega)
    · rename_i h
      rw [ih]
      constructor
      · rintro ⟨h1,h2,h3⟩; exact ⟨h1,by omega,h3⟩
      · rintro ⟨h1,h2,h3⟩
        refine ⟨h1,?_,h3⟩
        by_cases h4:x<=k
        · exact h4
        · have:(x-1).toNat=k:=by omega
          rw [this] at h3
          exact absurd h3 h
theorem zhT (F:Fm):∀ k,(zg6 F k).Nodup
  |0 => by simp [zg6]
  |k+1 => by
    unfold zg6
    split
    · refine List.nodup_append.2 ⟨zhT F k,by simp,fun a ha b hb=>?_⟩
      simp at hb; subst hb
      have:=(zfB.1 ha).2.1
      omega
    · exact zhT F k
theorem zpO (F:Fm):∀ k,(zg6 F k).length<=k
  |0 => by simp [zg6]
  |k+1 => by
    have:=zpO F k
    unfold zg6
    split
    · rw [List.length_append]; simp; omega
    · omega
def zpe (F:Fm) (k:Int):Ht:=F.hosts.getD k.toNat default
def zkN (G:Fm) (k0:Nat) (k:Int):Fm:={ G with hosts:=G.hosts.set k.toNat (zfS (zpe G k) (zwj (zpe G k).used (zad G k0).job.nd)) }
def ze2 (G:Fm) (k0:Nat) (k:Int):Fm:=stF (stF (stF (zkN G k0 k) k0 11 2) k0 12 k) k0 13 G.now
theorem zhV (G:Fm) (k0:Nat) (k:Int):(ze2 G k0 k).jobs.length=G.jobs.length:=by unfold ze2; rw [zbK,zbK,zbK]; rfl
theorem zrW {G:Fm} {k0:Nat} (hk:k0<G.jobs.length) (k:Int) (i:Nat):zad (ze2 G k0 k) i=if i=k0 then { zad G k0 with what:=2,host:=k,since:=G.now } else zad G i:=by
  unfold ze2
  have hk':k0<(zkN G k0 k).jobs.length:=hk
  rw [zjT _ _ (by rw [zbK,zbK]; exact hk'),zjT _ _ (by rw [zbK]; exact hk'),zjT _ _ hk',if_pos rfl,if_pos rfl]
  split
  · rfl
  · rename_i h
    rw [zjT _ _ (by rw [zbK]; exact hk'),if_neg h,zjT _ _ hk',if_neg h]; rfl
theorem zG0 {G:Fm} {k0:Nat} (hk:k0<G.jobs.length) (k:Int):(ze2 G k0 k).jobs.map (·.job)=G.jobs.map (·.job):=by
  unfold ze2
  have hk':k0<(zkN G k0 k).jobs.length:=hk
  rw [ztm _ _ (by rw [zbK,zbK]; exact hk'),ztm _ _ (by rw [zbK]; exact hk'),ztm _ _ hk']; rfl
theorem zJ9 {a b c:Nd} (ha:okN a) (hb:okN b) (hc:okN c) (h:zj1 a (zin c b)):okN (zwj b a)/\zj1 (zwj b a) c:=by
  unfold okN zj1 zin zwj at *
  simp only at *
  omega
theorem zuZ {L:List Ht} {i:Nat} (h:zkB L) (hi:i<L.length) {s:Nd} (h1:okN s) (h2:zj1 s (L.getD i default).has):zkB (L.set i (zfS (L.getD i default) s)):=by
  have hm:=zan L default (i:=i) hi
  refine ⟨by rw [List.length_set]; exact h.1,fun x hx=>?_,?_⟩
  · rcases List.mem_or_eq_of_mem_set hx with hx|rfl
    · exact h.2.1 x hx
    · obtain ⟨a,b,c,d,_,_⟩:=h.2.1 _ hm
      exact ⟨a,b,c,d,h1,h2⟩
  · have:(L.set i (zfS (L.getD i default) s)).map (·.name)=L.map (·.name):=by
      rw [List.map_set]
      refine List.ext_getElem? fun j=>?_
      rw [List.getElem?_set]
      by_cases hj:i=j
      · subst hj
        simp [List.getD_eq_getElem?_getD,hi,zfS]
      · simp [hj]
    rw [this]
    exact h.2.2
theorem zuY {G:Fm} {k0:Nat} {k:Int} (h:zkB G.hosts) (h0:0<=k) (h1:k<G.hosts.length) (ha:okN (zad G k0).job.nd) (hf:zj1 (zad G k0).job.nd (zin (zpe G k).has (zpe G k).used)):zkB (zkN G k0 k).hosts:=by
  have hm:=zan G.hosts default (i:=k.toNat) (by omega)
  obtain ⟨_,_,_,c,d,_⟩:=h.2.1 _ hm
  obtain ⟨a1,a2⟩:=zJ9 ha d c hf
  exact zuZ h (by omega) a1 a2
abbrev zui (G:Fm) (id:Int):List Int:=zbB G.hosts (zad G (id-1).toNat).job.ask (zad G (id-1).toNat).job.nd G.hosts.length
inductive zqi:Fm->List Int->Fm->List (Int×Int)->Prop
  |nil (F:Fm):zqi F [] F []
  |skip {F F':Fm} {id:Int} {ids:List Int} {out:List (Int×Int)}:zui F id=[]->zqi F ids F' out->zqi F (id::ids) F' out
  |run {F F':Fm} {id k:Int} {ids:List Int} {out:List (Int×Int)}:zfW F.hosts (zad F (id-1).toNat).job.ask (zad F (id-1).toNat).job.nd k->zqi (ze2 F (id-1).toNat k) ids F' out->zqi F (id::ids) F' ((id,k)::out)
theorem zqi.snoc_skip {F F':Fm} {id:Int} {ids:List Int} {out:List (Int×Int)} (h:zqi F ids F' out) (hs:zui F' id=[]):zqi F (ids++[id]) F' out:=by
  induction h with
  |nil F => exact .skip hs (.nil F)
  |skip h1 _ ih => exact .skip h1 (ih hs)
  |run h1 _ ih => exact .run h1 (ih hs)
theorem zqi.snoc_run {F F':Fm} {id k:Int} {ids:List Int} {out:List (Int×Int)} (h:zqi F ids F' out) (hs:zfW F'.hosts (zad F' (id-1).toNat).job.ask (zad F' (id-1).toNat).job.nd k):zqi F (ids++[id]) (ze2 F' (id-1).toNat k) (out++[(id,k)]):=by
  induction h with
  |nil F => exact .run hs (.nil _)
  |skip h1 _ ih => exact .skip h1 (ih hs)
  |run h1 _ ih => exact .run h1 (ih hs)
theorem zqi.one {F F1:Fm} {ids:List Int} {o1:List (Int×Int)} (h:zqi F ids F1 o1):∀ {F2:Fm} {o2:List (Int×Int)},zqi F ids F2 o2->F1=F2/\o1=o2:=by
  induction h with
  |nil F => intro F2 o2 g; cases g; exact ⟨rfl,rfl⟩
  |skip h1 _ ih =>
    intro F2 o2 g
    cases g with
    |skip _ g2 => exact ih g2
    |run g1 _ => have:=g1.1; unfold zui at h1; rw [h1] at this; cases this
  |run h1 _ ih =>
    intro F2 o2 g
    cases g with
    |skip g1 _ => have:=h1.1; unfold zui at g1; rw [g1] at this; cases this
    |run g1 g2 =>
      obtain rfl:=zFr h1 g1
      obtain ⟨rfl,rfl⟩:=ih g2
      exact ⟨rfl,rfl⟩
def zIs (F:Fm) (T:List Int):Prop:=T.Perm (rdy F)/\T.Pairwise (zb6 F)
theorem zt0 {F:Fm} {a b:Int} (h:zb6 F a b):¬ zb6 F b a:=by unfold zb6 at *; omega
theorem zDB {F:Fm}:∀ {T U:List Int},T.Perm U->T.Pairwise (zb6 F)->U.Pairwise (zb6 F)->T=U
  |[],U,hp,_,_ => by have:=hp.length_eq; simp at this; exact (List.eq_nil_of_length_eq_zero this.symm).symm
  |t::T,[],hp,_,_ => by have:=hp.length_eq; simp at this
  |t::T,u::U,hp,h1,h2 => by
    rw [List.pairwise_cons] at h1 h2
    have htu:t=u:=by
      rcases List.mem_cons.1 (hp.mem_iff.1 (List.mem_cons_self ..)) with h|h
      · exact h
      rcases List.mem_cons.1 (hp.mem_iff.2 (List.mem_cons_self ..)) with g|g
      · exact g.symm
      exact absurd (h1.1 u g) (zt0 (h2.1 t h))
    subst htu
    rw [zDB (List.Perm.cons_inv hp) h1.2 h2.2]
def zdc (F G:Fm) (out:List (Int×Int)):Prop:=∃ T,zIs F T/\zqi F T G out
theorem zkI {F G1 G2:Fm} {o1 o2:List (Int×Int)} (h:zdc F G1 o1) (g:zdc F G2 o2):G1=G2/\o1=o2:=by
  obtain ⟨T,⟨a1,a2⟩,a3⟩:=h
  obtain ⟨U,⟨b1,b2⟩,b3⟩:=g
  obtain rfl:=zDB (a1.trans b1.symm) a2 b2
  exact a3.one b3
def encO (x:Int×Int):List Value:=[.int .i64 x.1,.int .i64 x.2]
structure QS (n:Nat) (Sq:Nat->Prop) (F:Fm) (qb:Nat) (w':World) (H:List Th):Prop where
  ex:∃ mb born p c m,QQ n w' qb mb born p c H m/\Rel H m/\∀ b,zit mb qb p H b->Sq b
  ids:Ids H
  pr:∀ t∈H,t.prio=zpN F t.id
  bo:∀ t∈H,∀ u∈H,t.id<u.id->t.born<u.born
theorem QS.ext {n:Nat} {Sq:Nat->Prop} {F:Fm} {qb:Nat} {w w':World} {H:List Th} (q:QS n Sq F qb w H) (e:Ext w w'):QS n Sq F qb w' H:=by
  obtain ⟨mb,born,p,c,m,h1,h2,h3⟩:=q.ex
  exact ⟨⟨mb,born,p,c,m,h1.ext e,h2,h3⟩,q.ids,q.pr,q.bo⟩
theorem QS.fr {n:Nat} {Sq S:Nat->Prop} {F:Fm} {qb:Nat} {w w':World} {H:List Th} (q:QS n Sq F qb w H) (f:Fr S w w') (hS:∀ b,Sq b->¬ S b):QS n Sq F qb w' H:=by
  obtain ⟨mb,born,p,c,m,h1,h2,h3⟩:=q.ex
  exact ⟨⟨mb,born,p,c,m,h1.fr f fun b hb=>hS b (h3 b hb),h2,h3⟩,q.ids,q.pr,q.bo⟩
def zGN (qb:Nat) (w:World):Nat:=match Go.Sx.cell w (ptr qb) 0 with|some (.slice _ n _)=>n|_=>0
theorem QS.len {n:Nat} {Sq:Nat->Prop} {F:Fm} {qb:Nat} {w:World} {H:List Th} (q:QS n Sq F qb w H):zGN qb w=H.length:=by
  obtain ⟨mb,born,p,c,m,h1,_⟩:=q.ex
  have:Go.Sx.cell w (ptr qb) 0=some (.slice p H.length c):=h1.qi.slot.cells 0 _ rfl
  unfold zGN; rw [this]
def OQ (O Sq:Nat->Prop) (out:Option Addr) (b:Nat):Prop:=O b\/Sq b\/∃ a,out=some a/\a.block=b
structure PS (O:Nat->Prop) (B fb:Nat) (w:World) (P:Pl) (F:Fm) (Sq:Nat->Prop) (w':World) (G:Fm) (outs:List (Int×Int)) (T Rm:List Int) (out:Option Addr) (outc:Nat):Prop where
  fx:∃ PP,PP.jp=P.jp/\FXO (OQ O Sq out) B w' fb PP G
  fr:Fr (ft fb P.jp) w w'
  run:zqi F T G outs
  hs:zkB G.hosts
  job:G.jobs.map (·.job)=F.jobs.map (·.job)
  own:Own w.heap.size w' zBD 2 out outs.length outc (outs.flatMap encO)
  ap:∀ a,out=some a->¬ Sq a.block
  perm:(T++Rm).Perm (rdy F)
  pw:T.Pairwise (zb6 F)
  lt:∀ a∈T,∀ b∈Rm,zb6 F a b
  len:outs.length<=T.length
section
variable {O Sq:Nat->Prop} {B fb qb:Nat} {w:World} {P:Pl} {F G:Fm} {outs:List (Int×Int)} {T Rm:List Int} {out:Option Addr} {outc:Nat}
theorem PS.fr' {w1 w2:World} (s:PS O B fb w P F Sq w1 G outs T Rm out outc) (f:Fr Sq w1 w2) (hq:∀ b,Sq b->w.heap.size<=b):PS O B fb w P F Sq w2 G outs T Rm out outc:=by
  obtain ⟨PP,h1,h2⟩:=s.fx
  exact ⟨⟨PP,h1,h2.fr f fun b hb=>.inr (.inl hb)⟩,s.fr.trans f fun b hb=>.inr (hq b hb),s.run,s.hs,s.job,s.own.fr f s.ap,s.ap,s.perm,s.pw,s.lt,s.len⟩
theorem PS.ext {w1 w2:World} (s:PS O B fb w P F Sq w1 G outs T Rm out outc) (e:Ext w1 w2):PS O B fb w P F Sq w2 G outs T Rm out outc:=by
  obtain ⟨PP,h1,h2⟩:=s.fx
  exact ⟨⟨PP,h1,h2.ext e⟩,s.fr.tr (zac e),s.run,s.hs,s.job,s.own.ext e,s.ap,s.perm,s.pw,s.lt,s.len⟩
theorem PS.shift {w1:World} {Rm':List Int} (s:PS O B fb w P F Sq w1 G outs T Rm out outc) (h:Rm'.Perm Rm):PS O B fb w P F Sq w1 G outs T Rm' out outc :=
  ⟨s.fx,s.fr,s.run,s.hs,s.job,s.own,s.ap,(List.Perm.append_left T h).trans s.perm,s.pw,fun a ha b hb=>s.lt a ha b (h.mem_iff.1 hb),s.len⟩
theorem zIh {n:Nat} {w1:World} {H:List Th} (q:QS n Sq F qb w1 H) (hn:H.length<=60) :
    FnP Tryz.prog za5 #[.pointer (ptr qb)] w1 fun v w2=>∃ (a b:Int) (is:Bool) (Y:List Th),v=.tuple #[.agg #[.int .i64 a,.int .i64 b],.bool is]/\QS n Sq F qb w2 Y/\Fr Sq w1 w2 /\
      ((is=false/\H=[]/\Y=[])\/(is=true/\Y.length<H.length/\(∀ u∈Y,zb6 F b u.id)/\(b::Y.map (·.id)).Perm (H.map (·.id)))):=by
  obtain ⟨mb,born,p,c,m,h1,h2,h3⟩:=q.ex
  refine (zKg h1 (by omega)).mono fun v w2 hr=>?_
  rcases hr with ⟨rfl,hv,e⟩|⟨t,Y,hv,q2,hp,hmin,f⟩
  · exact ⟨0,0,false,[],hv,q.ext e,zac e,.inl ⟨rfl,rfl,rfl⟩⟩
  · have f':Fr Sq w1 w2:=f.mono h3
    obtain ⟨hrel,hids⟩:=zKi h2 h1.mp.nodup q.ids hp
    have hY:∀ u∈Y,u∈H:=fun u hu=>hp.mem_iff.1 (List.mem_cons_of_mem _ hu)
    have ht:t∈H:=hp.mem_iff.1 (List.mem_cons_self ..)
    have hnd:t.id∉Y.map (·.id):=by
      have:((t::Y).map (·.id)).Nodup:=((hp.map _).nodup_iff).2 q.ids
      simp only [List.map_cons,List.nodup_cons] at this
      exact this.1
    have hb:∀ u∈Y,zb6 F t.id u.id:=fun u hu=>by
      have h4:=hmin u (hY u hu)
      have h5:=q.pr t ht
      have h6:=q.pr u (hY u hu)
      have h7:t.id≠u.id:=fun h=>hnd (by rw [h]; exact List.mem_map_of_mem hu)
      unfold ahead at h4
      unfold zb6
      rw [<- h5,<- h6]
      by_cases h8:u.id<t.id
      · have:=q.bo u (hY u hu) t ht h8; omega
      · omega
    have hperm:(t.id::Y.map (·.id)).Perm (H.map (·.id)):=by
      have:=hp.map (·.id)
      simpa using this
    refine ⟨t.prio,t.id,true,Y,hv,⟨⟨mb,born,p,c,_,q2,hrel,fun b hb=>h3 b ?_⟩,hids,fun u hu=>q.pr u (hY u hu),fun u hu v hv=>q.bo u (hY u hu) v (hY v hv)⟩,f',.inr ⟨rfl,by have:=hp.length_eq; simp at this; omega,hb,hperm⟩⟩
    rcases hb with rfl|rfl|⟨a,ha,rfl⟩|⟨u,hu,rfl⟩
    · exact .inl rfl
    · exact .inr (.inl rfl)
    · exact .inr (.inr (.inl ⟨a,ha,rfl⟩))
    · exact .inr (.inr (.inr ⟨u,hY u hu,rfl⟩))
theorem FXO.go {O' S:Nat->Prop} {w9:World} (x:FXO O B w fb P F) (f:Fr S w w9) (hS:∀ b,S b->O b) (h:∀ b,O' b->O b\/(w.heap.size<=b/\b<w9.heap.size)):FXO O' B w9 fb P F:=by
  have f':=f.mono hS
  have up:∀ {w''},Fr (ftO O' fb P.jp) w9 w''->Fr (ftO O fb P.jp) w w'':=fun k=>(f'.mono fun b hb=>.inl hb).trans k fun b hb=>by
    rcases hb with hb|hb
    · rcases h b hb with h|h
      · exact .inl (.inl h)
      · exact .inr h.1
    · exact .inl (.inr hb)
  have x9:=x.fr f hS
  exact ⟨x9.slot,x9.arr,x.map,fun w'' k=>x.hs w'' (up k),fun r hr w'' k=>x.js r hr w'' (up k),x.ap,x.hO,x.jO,fun b hb=>by
    rcases h b hb with h|h
    · have:=x.olt b h; have:=f.size; omega
    · exact h.2,fun b hb hf=>by
    rcases h b hb with h|h
    · exact x.odis b h hf
    · have:=(x.foot hf).2; omega⟩
theorem FXO.more {O':Nat->Prop} {w9:World} (x:FXO O B w fb P F) (e:Ext w w9) (h:∀ b,O' b->O b\/(w.heap.size<=b/\b<w9.heap.size)):FXO O' B w9 fb P F :=
  x.go (zac (S:=fun _=>False) e) (fun _ h=>h.elim) h
theorem FXO.less {O':Nat->Prop} (x:FXO O' B w fb P F) (h:∀ b,O b->O' b):FXO O B w fb P F:=by
  have up:∀ {w''},Fr (ftO O fb P.jp) w w''->Fr (ftO O' fb P.jp) w w'':=fun k=>k.mono fun b hb=>hb.elim (fun g=>.inl (h b g)) .inr
  exact ⟨x.slot,x.arr,x.map,fun w'' k=>x.hs w'' (up k),fun r hr w'' k=>x.js r hr w'' (up k),x.ap,x.hO,x.jO,fun b hb=>x.olt b (h b hb),fun b hb=>x.odis b (h b hb)⟩
def HQ (F:Fm) (k:Nat) (born:Int) (H:List Th):Prop:=(H.map (·.id)).Perm (zg6 F k)/\(∀ t∈H,t.prio=zpN F t.id/\t.born<=born)/\(∀ t∈H,∀ u∈H,t.id<u.id->t.born<u.born)/\0<=born/\born<=k
theorem hq_put {k:Nat} {born:Int} {H Y:List Th} {b:Nat} (h:HQ F k born H) (hr:zdA F (zad F k)=true) (hp:Y.Perm (⟨b,(zad F k).job.prio,(k:Int)+1,born+1⟩::H)):HQ F (k+1) (born+1) Y:=by
  obtain ⟨h1,h2,h3,h4,h5⟩:=h
  have idk:∀ t∈H,t.id<=k:=fun t ht=>(zfB.1 (h1.mem_iff.1 (List.mem_map_of_mem ht))).2.1
  have mem:∀ t∈Y,t=⟨b,(zad F k).job.prio,(k:Int)+1,born+1⟩\/t∈H:=fun t ht=>List.mem_cons.1 (hp.mem_iff.1 ht)
  refine ⟨?_,fun t ht=>?_,fun t ht u hu hlt=>?_,by omega,by omega⟩
  · unfold zg6
    rw [if_pos hr]
    have:=hp.map (·.id)
    refine this.trans ?_
    rw [List.map_cons]
    exact ((h1.cons _).trans (List.perm_append_singleton _ _).symm)
  · rcases mem t ht with rfl|ht
    · refine ⟨?_,Int.le_refl _⟩
      unfold zpN
      rw [show ((k:Int)+1-1).toNat=k by omega]
    · have:=h2 t ht
      exact ⟨this.1,by omega⟩
  · rcases mem t ht with rfl|ht<;>rcases mem u hu with rfl|hu
    · exact absurd hlt (by simp)
    · have:=idk u hu; simp only at hlt; omega
    · have:=(h2 t ht).2; simp only; omega
    · exact h3 t ht u hu hlt
end
def zIt (O:Nat->Prop) (B fb:Nat) (w:World) (P:Pl) (F:Fm) (v:Value) (w':World):Prop:=∃ (G:Fm) (outs:List (Int×Int)) (out:Option Addr) (outc:Nat) (P':Pl),
  v=.tuple #[.slice out outs.length outc,.int .i64 0]/\zdc F G outs/\zkB G.hosts/\G.jobs.map (·.job)=F.jobs.map (·.job)/\P'.jp=P.jp/\FXO O B w' fb P' G/\Fr (ft fb P.jp) w w'/\Own w.heap.size w' zBD 2 out outs.length outc (outs.flatMap encO)/\outs.length<=60
structure XC (fb:Nat) (jp:Option Addr) (Sq:Nat->Prop) (out x:Option Addr) (w:World) (a b:Int):Prop where
  own:Own 0 w zHw 2 x 1 1 [.int .i64 a,.int .i64 b]
  ap:∀ c,x=some c->¬ ft fb jp c.block/\¬ Sq c.block/\∀ o,out=some o->o.block≠c.block
theorem XC.ext {fb:Nat} {jp:Option Addr} {Sq:Nat->Prop} {out x:Option Addr} {w w':World} {a b:Int} (h:XC fb jp Sq out x w a b) (e:Ext w w'):XC fb jp Sq out x w' a b:=⟨h.own.ext e,h.ap⟩
theorem XC.c0 {fb:Nat} {jp:Option Addr} {Sq:Nat->Prop} {out x:Option Addr} {w:World} {a b:Int} (h:XC fb jp Sq out x w a b):x≠none/\Go.Sx.cell w x 0=some (.int .i64 a)/\Go.Sx.cell w x 1=some (.int .i64 b)/\Go.Sx.cell w (pAdd x 1) 0=some (.int .i64 b) :=
  ⟨h.own.ne1 (by omega) (by omega),h.own.cells 0 _ rfl,h.own.cells 1 _ rfl,by rw [zal]; exact h.own.cells 1 _ rfl⟩
def PI (O:Nat->Prop) (B fb qb:Nat) (w:World) (P:Pl) (F:Fm) (Sq:Nat->Prop) (out:Option Addr) (outl outc:Nat) (x:Option Addr) (is:Bool) (w':World):Prop:=∃ (G:Fm) (outs:List (Int×Int)) (T:List Int) (H:List Th),outl=outs.length/\QS w.heap.size Sq F qb w' H/\H.length<=60 /\
  ((is=false/\PS O B fb w P F Sq w' G outs T [] out outc)\/(is=true/\∃ a b,XC fb P.jp Sq out x w' a b/\(∀ u∈H,zb6 F b u.id)/\PS O B fb w P F Sq w' G outs T (b::H.map (·.id)) out outc))
def PM (qb:Nat) (is:Bool) (w':World):Nat:=if is=true then zGN qb w'+1 else 0
section
variable {O Sq:Nat->Prop} {B fb qb:Nat} {w:World} {P:Pl} {F G:Fm} {outs:List (Int×Int)} {T:List Int} {out:Option Addr} {outc:Nat}
theorem zIa {w':World} {Rm:List Int} (s:PS O B fb w P F Sq w' G outs T Rm out outc) (hF:F.jobs.length<=60):outs.length<=60/\T.length+Rm.length<=60:=by
  have h1:=s.perm.length_eq
  rw [List.length_append] at h1
  have h2:=zpO F F.jobs.length
  have h3:=s.len
  unfold rdy at h1
  omega
theorem zvw {w24:World} {H:List Th} {m0 n9:Nat} (h9:n9<=w24.heap.size) (q:QS w.heap.size Sq F qb w24 H) (hn:H.length<=60) (s:PS O B fb w P F Sq w24 G outs T (H.map (·.id)) out outc) (hq:∀ b,Sq b->w.heap.size<=b/\b<w24.heap.size) (hm:m0=H.length+1) (c1 c2:Int) :
    ∀ w45,Ext w24 w45->New w45 zHw [.int .i64 0,.int .i64 0] fun p46 w46=>zao w46 p46 [.int .i64 c1,.int .i64 c2] [] fun w47=>∀ w48,Ext w47 w48 ->
      FnP Tryz.prog za5 #[.pointer (ptr qb)] w48 fun v49 w49=>∃ a b:Int,∃ is:Bool,v49=.tuple #[.agg #[.int .i64 a,.int .i64 b],.bool is]/\zao w49 p46 [.int .i64 a,.int .i64 b] [] fun w53 =>
        (n9<=w53.heap.size/\PI O B fb qb w P F Sq out outs.length outc p46 is w53)/\PM qb is w53<m0:=by
  intro w45 e45
  refine zbE (by intro v hv; simp at hv; subst hv; rfl) fun w46 o46 e46=>?_
  refine zaW (off:=0) (o46 w45.heap.size (Nat.le_refl _)) (zfa _) (by simp) (by simp) (by intro v hv; simp at hv; rcases hv with rfl|rfl<;>rfl) (by simp) fun w47 o47 g47 w48 e48=>?_
  have h4548:Ext w45 w48:=(g47.ext e46 (o46 w45.heap.size (Nat.le_refl _))).trans e48
  have h2448:=e45.trans h4548
  refine (zIh (q.ext h2448) hn).mono fun v w49 ⟨a,b,is,Y,hv,q49,f49,hcase⟩=>⟨a,b,is,hv,?_⟩
  have hsz:=e45.size
  have hps:∀ c,(some ⟨w45.heap.size,0,none⟩:Option Addr)=some c->¬ Sq c.block:=fun c hc hs=>by cases hc; have:=(hq _ hs).2; simp only at this; omega
  have o49:=(o47.ext e48).fr f49 hps
  refine zaW (off:=0) o49 (zfa _) (by simp [zdE]) (by simp) (by intro v hv; simp at hv; rcases hv with rfl|rfl<;>rfl) (by simp) fun w53 o53 g53=>?_
  have f53:Fr (fun c=>c=w45.heap.size) w49 w53:=zaR g53 fun c hc=>by cases hc; rfl
  have fall:Fr Sq w24 w53:=((zac h2448).tr f49).trans f53 fun c hc=>.inr (by subst hc; exact hsz)
  have q53:QS w.heap.size Sq F qb w53 Y:=q49.fr f53 fun c hc h=>by have:=(hq _ hc).2; omega
  have s53:=s.fr' fall fun c hc=>(hq c hc).1
  have hxap:∀ c,(some ⟨w45.heap.size,0,none⟩:Option Addr)=some c->¬ ft fb P.jp c.block/\¬ Sq c.block/\∀ o,out=some o->o.block≠c.block:=fun c hc=>by
    refine ⟨fun hf=>?_,hps c hc,fun o ho h=>?_⟩
    · obtain ⟨PP,h1,x⟩:=s.fx
      rw [<- h1] at hf
      have:=(x.foot hf).2
      cases hc
      simp only at this; omega
    · have:=(s.own.lt o ho).2
      cases hc
      simp only at h; omega
  have h953:n9<=w53.heap.size:=by have:=fall.size; omega
  rcases hcase with ⟨rfl,rfl,rfl⟩|⟨rfl,hlt,hbef,hperm⟩
  · exact ⟨⟨h953,G,outs,T,[],rfl,q53,by simp,.inl ⟨rfl,s53⟩⟩,by unfold PM; simp; omega⟩
  · refine ⟨⟨h953,G,outs,T,Y,rfl,q53,by omega,.inr ⟨rfl,a,b,⟨o53.weak (Nat.zero_le _),hxap⟩,hbef,s53.shift hperm⟩⟩,?_⟩
    unfold PM
    rw [q53.len]
    simp; omega
theorem FXO.put2 (x:FXO O B w fb P F) {jp:Option Addr} (hj:P.jp=jp) {k:Int} (h0:0<=k) (h1:k<F.jobs.length) {m:Nat} (hm:11<=m/\m<=15) (v:Int) {ns:List Nat} (hns:∀ b∈ns,¬ ft fb jp b) {K:World->Prop}
    (hk:∀ w' P',P'.jp=jp->FXO O B w' fb P' (stF F k.toNat m v)->Fr (ft fb jp) w w'->K w'):zao w (pAdd (pIdx jp k 16) m) [.int .i64 v] ns K:=by
  subst hj
  exact x.put h0 h1 hm v hns hk
theorem zKf {A B C:List Int} {x:Int} (h:(A++(x::B)).Perm C):x∈C:=h.mem_iff.1 (by simp)
theorem zrG {F G:Fm} (h:G.jobs.map (·.job)=F.jobs.map (·.job)):G.jobs.length=F.jobs.length:=by have:=congrArg List.length h; simpa using this
theorem zvv (x:FXO O B w fb P F) (ha:zk6 F) (hh:zkB F.hosts):FnP Tryz.prog zbn #[.pointer (ptr fb)] w (zIt O B fb w P F):=by
  have ne:=zaG fb
  have hl0:=x.jO.1
  refine zmO (ptr fb) w _ fun w0 h0=>qnew_k.mono fun v w1 ⟨e1,qb,mb,hv,hqb,hQ⟩=>⟨e1,_,hv,ne,ne,?_⟩
  have e01:=h0.trans e1
  have x1:=x.ext e01
  refine ⟨_,_,_,x1.cell (i:=6) rfl,?_⟩
  rw [x1.len]
  refine ⟨fun k w'=>0<=k/\k<=F.jobs.length/\Fr (ft fb P.jp) w w'/\∃ (born:Int) (p:Option Addr) (c:Nat) (m:List (Int×Value)) (H:List Th) (P':Pl),P'.jp=P.jp/\QQ w.heap.size w' qb mb born p c H m/\Rel H m/\HQ F k.toNat born H/\FXO (fun b=>O b\/zit mb qb p H b) B w' fb P' F,fun k _=>(F.jobs.length-k).toNat,⟨by omega,by omega,zac e01,0,none,0,[],[],P,rfl,hQ _ h0.size,⟨by simp,fun id v h=>by simp [ziw] at h⟩,⟨by simp [zg6],by simp,by simp,by omega,by omega⟩,?_⟩,?_⟩
  · exact x.more e01 fun b hb=>hb.imp id fun h=>(hQ _ h0.size).foot h
  rintro k w8 ⟨hk0,hk1,f8,born,p,c,m,H,P8,hP8,q8,r8,hq8,x8⟩
  have hkn:((k.toNat:Nat):Int)=k:=by omega
  have hk1n:(k+1).toNat=k.toNat+1:=by omega
  have hHl:H.length<=60:=by
    have:=hq8.1.length_eq
    have:=zpO F k.toNat
    simp at *; omega
  refine ⟨fun hlt=>⟨ne,ne,_,_,_,x8.cell (i:=6) rfl,?_⟩,fun hge w9 h9=>?_⟩
  · obtain ⟨r,hr,hF,hjp,hne,_,g,hJ,hok,hwf⟩:=x8.st hk0 (by omega)
    have hja:zad F k.toNat=r.s:=zhG hF
    refine ⟨hjp,hk0,by rw [x8.len]; omega,fun w12 h12=>(zKh (x8.ext h12) ha hk0 (by omega)).mono fun v w13 ⟨e13,hv⟩=>⟨e13,_,hv,fun hb=>⟨hne,hne,by rw [zaP]; exact hne,_,by rw [zaP]; exact g 1 _ rfl,i64 (by omega),fun w16 h16=>?_⟩,fun hb=>⟨i64 (by omega),⟨by omega,by omega,f8,born,p,c,m,H,P8,hP8,q8,r8,?_,x8⟩,by simp only []; omega⟩⟩⟩
    · obtain ⟨hq1,hq2,hq3,hq4,hq5⟩:=hq8
      have hidk:∀ t∈H,t.id≠k+1:=fun t ht h=>by
        have:=(zfB.1 (hq1.mem_iff.1 (List.mem_map_of_mem ht))).2.1
        omega
      refine (qput_k (q8.ext h16) r8 (by omega) (by omega) (Nat.le_trans f8.size h16.size) r.s.job.prio (k+1)).mono fun v w17 ⟨e,hv,hbad,hgood⟩=>⟨e,hv,i64 (by omega),?_⟩
      have he:e=0:=by
        by_cases h:e=0
        · exact h
        · rcases (hbad h).2 with ⟨⟨t,ht,hid⟩,_⟩|⟨h200,_⟩
          · exact absurd hid (hidk t ht)
          · omega
      obtain ⟨_,_,b,p',c',Y,qY,hp,f17,hgrow⟩:=hgood he
      have r17:=zKj r8 (t:=⟨b,r.s.job.prio,k+1,born+1⟩) hidk hp
      have hq17:=hq_put (k:=k.toNat) (b:=b) ⟨hq1,hq2,hq3,hq4,hq5⟩ (by rw [hja]; unfold zad at hja; rw [hja] at hb; exact hb) (Y:=Y) (by
        rw [hja,hkn]; exact hp)
      have fall:Fr (zit mb qb p H) w8 w17:=(zac h16).tr f17
      refine ⟨⟨by omega,by omega,f8.trans fall fun b hb=>.inr ((q8.foot hb).1),born+1,p',c',_,Y,P8,hP8,qY,r17,?_,?_⟩,by simp only []; omega⟩
      · rw [hk1n]; exact hq17
      · refine x8.go fall (fun b hb=>.inr hb) fun b hb=>?_
        rcases hb with hb|hb
        · exact .inl (.inl hb)
        · rcases hgrow b hb with h|h
          · exact .inl (.inr h)
          · exact .inr ⟨Nat.le_trans h16.size h,(qY.foot hb).2⟩
    · rw [hk1n]
      obtain ⟨hq1,hq2,hq3,hq4,hq5⟩:=hq8
      refine ⟨?_,hq2,hq3,hq4,by omega⟩
      unfold zg6
      rw [if_neg (by rw [hja]; unfold zad at hja; rw [hja] at hb; rw [hb]; simp)]
      exact hq1
  have hkl:k.toNat=F.jobs.length:=by omega
  rw [hkl] at hq8
  obtain ⟨hq1,hq2,hq3,hq4,hq5⟩:=hq8
  let Sq:Nat->Prop:=zit mb qb p H
  have hSq:∀ b,Sq b->w.heap.size<=b/\b<w8.heap.size:=fun b hb=>q8.foot hb
  have Q8:QS w.heap.size Sq F qb w8 H:=⟨⟨mb,born,p,c,m,q8,r8,fun b hb=>hb⟩,by
    have:(H.map (·.id)).Nodup:=(hq1.nodup_iff).2 (zhT F _)
    exact this,fun t ht=>(hq2 t ht).1,hq3⟩
  have S8:PS O B fb w P F Sq w8 F [] [] (H.map (·.id)) none 0:=⟨⟨P8,hP8,x8.less fun b hb=>by
    rcases hb with hb|hb|⟨a,ha,_⟩
    · exact .inl hb
    · exact .inr hb
    · cases ha⟩,f8,.nil F,hh,rfl,Own.nil,fun a ha=>(by cases ha),hq1,List.Pairwise.nil,by simp,by simp⟩
  refine (zIh (Q8.ext h9) hHl).mono fun v w10 ⟨a,b,is,Y,hv,Q10,f10,hcase⟩=>⟨a,b,is,hv,fun w14 h14=>?_⟩
  have s10:=(S8.ext h9).fr' f10 fun c hc=>(hSq c hc).1
  have s14:=s10.ext h14
  have Q14:=Q10.ext h14
  refine zbE (by intro v hv; simp at hv; subst hv; rfl) fun w15 o15 e15=>?_
  refine zaW (off:=0) (o15 w14.heap.size (Nat.le_refl _)) (zfa _) (by simp) (by simp) (by intro v hv; simp at hv; rcases hv with rfl|rfl<;>rfl) (by simp) fun w16 o16 g16=>?_
  have e16:Ext w14 w16:=g16.ext e15 (o15 w14.heap.size (Nat.le_refl _))
  have s16:=s14.ext e16
  have Q16:=Q14.ext e16
  have hsz14:w8.heap.size<=w14.heap.size:=Nat.le_trans (Nat.le_trans h9.size f10.size) h14.size
  refine ⟨fun out outl outc x is w'=>w14.heap.size<=w'.heap.size/\PI O B fb qb w P F Sq out outl outc x is w',fun out outl outc x is w'=>PM qb is w',⟨e16.size,?_⟩,?_⟩
  · rcases hcase with ⟨rfl,rfl,rfl⟩|⟨rfl,hlt,hbef,hperm⟩
    · exact ⟨F,[],[],[],rfl,Q16,by simp,.inl ⟨rfl,s16⟩⟩
    · refine ⟨F,[],[],Y,rfl,Q16,by omega,.inr ⟨rfl,a,b,⟨o16.weak (Nat.zero_le _),fun c hc=>⟨fun hf=>?_,fun hs=>?_,fun o ho=>by cases ho⟩⟩,hbef,s16.shift hperm⟩⟩
      · obtain ⟨PP,h1,x14⟩:=s14.fx
        rw [<- h1] at hf
        have:=(x14.foot hf).2
        cases hc
        simp only at this; omega
      · have:=(hSq _ hs).2
        cases hc
        simp only at this; omega
  rintro out outl outc xp is w21 ⟨hsz21,G,outs,T,H,rfl,Q21,hH,hc⟩
  refine ⟨fun his=>?_,fun his w22 h22=>?_⟩
  · rcases hc with ⟨h,_⟩|⟨_,a,b,xc,hbef,s21⟩
    · rw [his] at h; cases h
    have hsq21:∀ b,Sq b->w.heap.size<=b/\b<w21.heap.size:=fun b hb=>by have:=hSq b hb; omega
    obtain ⟨xn,_,_,xb⟩:=xc.c0
    obtain ⟨PP,hPP,x21⟩:=s21.fx
    have hbin:=zfB.1 (zKf s21.perm)
    have hGl:=zrG s21.job
    have hin:inJ G b:=⟨hbin.1,by rw [hGl]; exact hbin.2.1⟩
    have hk:(b-1).toNat<G.jobs.length:=by have:=hin.1; have:=hin.2; omega
    have hls:=zIa s21 hl0
    refine ⟨xn,b,xb,fun w23 h23=>(zBZ (x21.ext h23) b (i64 (by have:=hin.1; have:=hin.2; omega))).mono fun v w24 ⟨e24,hv⟩=>⟨e24,?_⟩⟩
    rcases hv with ⟨hno,_⟩|⟨_,_,rfl⟩
    · exact absurd hin hno
    have e2124:=h23.trans e24
    have x24:=x21.ext e2124
    have s24:=s21.ext e2124
    have Q24:=Q21.ext e2124
    have xc24:=xc.ext e2124
    have hsq24:∀ b,Sq b->w.heap.size<=b/\b<w24.heap.size:=fun b hb=>by have:=hsq21 b hb; have:=e2124.size; omega
    obtain ⟨r,hr,hF,hjp,hne,g',g,hJ,hok,hwf⟩:=x24.st (k:=b-1) (by have:=hin.1; omega) (by have:=hin.2; omega)
    have hja:zad G (b-1).toNat=r.s:=zhG hF
    have c5:∀ (j:Nat) (v:Value),(ztO r)[5+j]?=some v->Go.Sx.cell w24 (pAdd (pAdd (pIdx PP.jp (b-1) 16) 0) 5) j=some v:=fun j v hv=>by
      rw [zaP,zal]; exact g' _ _ hv
    have c2:∀ (j:Nat) (v:Value),(ztO r)[2+j]?=some v->Go.Sx.cell w24 (pAdd (pAdd (pIdx PP.jp (b-1) 16) 0) 2) j=some v:=fun j v hv=>by
      rw [zaP,zal]; exact g' _ _ hv
    have n0:pAdd (pIdx PP.jp (b-1) 16) 0≠none:=by rw [zaP]; exact hne
    have n5:pAdd (pAdd (pIdx PP.jp (b-1) 16) 0) 5≠none:=fun h=>n0 (zdj.1 h)
    have n2:pAdd (pAdd (pIdx PP.jp (b-1) 16) 0) 2≠none:=fun h=>n0 (zdj.1 h)
    have hO:=x24.hO
    refine ⟨_,rfl,ne,ne,_,_,_,x24.cell (i:=0) rfl,hne,hne,n0,n5,_,c5 0 _ rfl,_,c5 1 _ rfl,_,c5 2 _ rfl,_,c5 3 _ rfl,_,_,_,c5 4 _ rfl,hne,hne,n0,n2,_,c2 0 _ rfl,_,c2 1 _ rfl,_,c2 2 _ rfl,fun w39 h39=>?_⟩
    refine (zBs PP.hp PP.hc G.hosts (by omega) hO.2 r.s.job.ask r.pa r.ca hwf.ask r.s.job.nd w39 ((x24.ext h39).hs w39 (Fr.refl _ _)) (hJ.1.ext h39)).mono fun v w40 ⟨e40,k,e,hv,hres⟩=>⟨e40,k,e,hv,?_⟩
    have hall:zxp G.hosts r.s.job.ask r.s.job.nd:=⟨s24.hs,hok.ask,hok.nd⟩
    have hm:PM qb is w21=H.length+1:=by unfold PM; rw [his,if_pos rfl,Q21.len]
    refine ⟨fun he=>?_,fun he=>?_⟩
    · have hsk:zui G b=[]:=by
        rcases hres with ⟨_,_,_,h⟩|⟨h,_⟩
        · have:=h hall
          unfold zui
          rw [hja]
          exact this
        · exact absurd h he
      obtain ⟨_,x0,x1,_⟩:=xc24.c0
      have s':PS O B fb w P F Sq w24 G outs (T++[b]) (H.map (·.id)) out outc:=⟨s24.fx,s24.fr,s24.run.snoc_skip hsk,s24.hs,s24.job,s24.own,s24.ap,by simpa using s24.perm,List.pairwise_append.2 ⟨s24.pw,by simp,fun y hy z hz=>by simp at hz; subst hz; exact s24.lt y hy _ (by simp)⟩,fun y hy z hz=>by
        rcases List.mem_append.1 hy with hy|hy
        · exact s24.lt y hy z (List.mem_cons_of_mem _ hz)
        · simp at hy; subst hy
          obtain ⟨u,hu,rfl⟩:=List.mem_map.1 hz
          exact hbef u hu,by rw [List.length_append]; have:=s24.len; simp; omega⟩
      exact ⟨xn,_,x0,_,x1,zvw (by have:=e2124.size; omega) Q24 hH s' hsq24 hm a b⟩
    · obtain ⟨_,_,hbest⟩:e=0/\zxp G.hosts r.s.job.ask r.s.job.nd/\zfW G.hosts r.s.job.ask r.s.job.nd k:=by
        rcases hres with ⟨h,_⟩|h
        · exact absurd he h
        · exact h
      obtain ⟨hk0,hk1,hfit⟩:=zom.1 hbest.1
      have hkI:InR .i64 k:=i64 (by omega)
      refine ⟨ne,ne,_,_,_,x24.cell (i:=0) rfl,hne,hne,n0,n2,_,c2 0 _ rfl,_,c2 1 _ rfl,_,c2 2 _ rfl,fun w49 h49=>?_⟩
      have x49:=x24.ext h49
      refine (Take_k PP.hp PP.hc G.hosts (by omega) hO.2 k r.s.job.nd w49 (x49.hs w49 (Fr.refl _ _))).mono fun v w50 ⟨e50,p',n',c',e',hv,htk⟩=>⟨e50,p',n',c',e',hv,ne,ne,?_⟩
      have hfN:zj1 r.s.job.nd (zin (G.hosts.getD k.toNat default).has (G.hosts.getD k.toNat default).used):=by
        unfold zF6 at hfit
        rw [Bool.and_eq_true,decide_eq_true_iff] at hfit
        exact hfit.2
      rcases htk with ⟨_,_,hno⟩|⟨_,_,_,_,rfl,_,_,_,hS⟩
      · exact absurd ⟨hok.nd,hfN⟩ (hno s24.hs hk0 hk1)
      have x50:=x49.ext e50
      refine zaW (off:=0) x50.slot rfl (by simp) (by simp) (by intro u hu; simp at hu; subst hu; rfl) (by simp) fun w55 o55 g55=>⟨ne,ne,?_⟩
      have hG:zkN G (b-1).toNat k={ G with hosts:=G.hosts.set k.toNat (zfS (G.hosts.getD k.toNat default) (zwj (G.hosts.getD k.toNat default).used r.s.job.nd)) }:=by unfold zkN zpe; rw [hja]
      have fg:Fr (ft fb PP.jp) w50 w55:=zaR g55 fun a ha=>by cases ha; exact .inl rfl
      obtain ⟨y55,f55⟩:=x50.slot_to (F':=zkN G (b-1).toNat k) (P':={ PP with hp:=p',hc:=c' }) (by
        rw [hG]
        show Own B w55 zcK 7 (ptr fb) 1 1 [.slice p' (G.hosts.set _ _).length c',_,_,_,_,_,_]
        rw [List.length_set]; exact o55) g55 rfl rfl rfl rfl (fun w'' kf=>by
          rw [hG]
          exact hS (ftO (OQ O Sq out) fb PP.jp) (fun b hb=>by
            rcases hb with hb|hb
            · exact x49.olt b hb
            · exact (x49.foot hb).2) w'' ((fg.mono fun b hb=>.inr hb).tr kf)) (by
        rw [hG]
        refine ⟨by show (G.hosts.set _ _).length<=30; rw [List.length_set]; exact hO.1,fun h hh=>?_⟩
        have hh:h∈G.hosts.set k.toNat (zfS (G.hosts.getD k.toNat default) (zwj (G.hosts.getD k.toNat default).used r.s.job.nd)):=hh
        rcases List.mem_or_eq_of_mem_set hh with hh|rfl
        · exact hO.2 h hh
        · have:=hO.2 _ (zan G.hosts default (i:=k.toNat) (by omega))
          exact this)
      refine ⟨G.now,y55.cell (i:=5) rfl,hne,hne,?_⟩
      refine y55.put2 (jp:=PP.jp) rfl (k:=b-1) (by have:=hin.1; omega) (by have:=hin.2; exact (by omega:b-1<(G.jobs.length:Int))) (by omega) 2 (by simp) fun w57 P1 hP1 y57 f57=>⟨hne,hne,?_⟩
      refine y57.put2 hP1 (k:=b-1) (by have:=hin.1; omega) (by rw [zbK]; have:=hin.2; exact (by omega:b-1<(G.jobs.length:Int))) (by omega) k (by simp) fun w58 P2 hP2 y58 f58=>⟨hne,hne,?_⟩
      refine y58.put2 hP2 (k:=b-1) (by have:=hin.1; omega) (by rw [zbK,zbK]; have:=hin.2; exact (by omega:b-1<(G.jobs.length:Int))) (by omega) G.now (by simp) fun w59 P3 hP3 y59 f59=>⟨xn,?_⟩
      have y59:FXO (OQ O Sq out) B w59 fb P3 (ze2 G (b-1).toNat k):=y59
      have f2459:Fr (ft fb PP.jp) w24 w59:=((((zac (h49.trans e50)).tr f55).tr f57).tr f58).tr f59
      have hdis:∀ c,OQ O Sq out c->¬ ft fb PP.jp c:=x24.odis
      have hxd:∀ c,xp=some c->¬ ft fb PP.jp c.block:=fun c hc=>by rw [hPP]; exact (xc24.ap c hc).1
      obtain ⟨_,x0,x1,_⟩:=xc24.c0
      have x1':=zdN x1 f2459 hxd
      refine ⟨b,by rw [zal]; exact x1',?_⟩
      have o59:=s24.own.fr f2459 fun c hc=>hdis _ (.inr (.inr ⟨c,hc,rfl⟩))
      have hsz24:w.heap.size<=w24.heap.size:=s24.fr.size
      have hsz59:w.heap.size<=w59.heap.size:=Nat.le_trans hsz24 f2459.size
      refine push (v:=.agg #[.int .i64 b,.int .i64 k]) zsl (by omega) o59 hsz59 rfl (by intro u hu; simp [Value.cells] at hu; rcases hu with rfl|rfl<;>rfl) (by omega) (by omega) (by omega) fun out' outc' w67 o67 g67 hne67=>⟨xn,?_⟩
      have f67:Fr (fun c=>∃ o,out=some o/\o.block=c) w59 w67:=zaR g67 fun a ha=>⟨a,ha,rfl⟩
      have hout':∀ a,out'=some a->(∃ o,out=some o/\o.block=a.block)\/(w59.heap.size<=a.block/\a.block<w67.heap.size):=fun a ha=>by
        rcases g67.new with hn|hn
        · left
          rw [ha] at hn
          cases ho:out with
          |none => rw [ho] at hn; simp [blk] at hn
          |some y => rw [ho] at hn; simp [blk] at hn; exact ⟨y,rfl,by omega⟩
        · exact .inr ⟨hn a ha,(o67.lt a ha).2⟩
      have hxo:∀ c,xp=some c->¬ ∃ o,out=some o/\o.block=c.block:=fun c hc ⟨o,ho,hk⟩=>(xc24.ap c hc).2.2 o ho hk
      refine ⟨a,zdN (zdN x0 f2459 hxd) f67 hxo,b,zdN x1' f67 hxo,?_⟩
      have f2467:Fr (fun c=>ft fb P.jp c\/∃ o,out=some o/\o.block=c) w24 w67:=by
        rw [hPP] at f2459
        exact (f2459.mono fun c hc=>.inl hc).tr (f67.mono fun c hc=>.inr hc)
      have Q67:QS w.heap.size Sq F qb w67 H:=Q24.fr f2467 fun c hc h=>by
        rcases h with h|⟨o,ho,rfl⟩
        · rw [<- hPP] at h; exact hdis c (.inr (.inl hc)) h
        · exact s24.ap o ho hc
      have hsz67:=f2467.size
      have s67:PS O B fb w P F Sq w67 (ze2 G (b-1).toNat k) (outs++[(b,k)]) (T++[b]) (H.map (·.id)) out' outc':=by
        refine ⟨⟨P3,hP3.trans hPP,y59.go f67 (fun c hc=>.inr (.inr hc)) fun c hc=>?_⟩,s24.fr.trans f2467 fun c hc=>?_,s24.run.snoc_run (by rw [hja]; exact hbest),?_,(zG0 hk k).trans s24.job,?_,fun c hc hs=>?_,by simpa using s24.perm,List.pairwise_append.2 ⟨s24.pw,by simp,fun y hy z hz=>by simp at hz; subst hz; exact s24.lt y hy _ (by simp)⟩,fun y hy z hz=>?_,by rw [List.length_append,List.length_append]; have:=s24.len; simp; omega⟩
        · rcases hc with hc|hc|⟨c,hc,rfl⟩
          · exact .inl (.inl hc)
          · exact .inl (.inr (.inl hc))
          · rcases hout' c hc with h|h
            · exact .inl (.inr (.inr h))
            · exact .inr h
        · rcases hc with hc|⟨o,ho,rfl⟩
          · exact .inl hc
          · exact .inr (s24.own.lt o ho).1
        · exact zuY s24.hs hk0 hk1 (by rw [hja]; exact hok.nd) (by rw [hja]; exact hfN)
        · rw [List.flatMap_append,List.length_append]
          simpa [Value.cells,encO] using o67
        · rcases hout' c hc with ⟨o,ho,hk⟩|h
          · rw [<- hk] at hs; exact s24.ap o ho hs
          · have:=(hsq24 _ hs).2; have:=f2459.size; omega
        · rcases List.mem_append.1 hy with hy|hy
          · exact s24.lt y hy z (List.mem_cons_of_mem _ hz)
          · simp at hy; subst hy
            obtain ⟨u,hu,rfl⟩:=List.mem_map.1 hz
            exact hbef u hu
      have:=zvw (n9:=w14.heap.size) (by have:=e2124.size; omega) Q67 hH s67 (fun c hc=>by have:=hsq24 c hc; omega) hm a b
      rw [List.length_append] at this
      exact this
  · rcases hc with ⟨_,s21⟩|⟨h,_⟩
    · have s22:=s21.ext h22
      obtain ⟨PP,h1,x22⟩:=s22.fx
      refine ⟨G,outs,out,outc,PP,rfl,⟨T,⟨by simpa using s22.perm,s22.pw⟩,s22.run⟩,s22.hs,s22.job,h1,x22.less fun b hb=>.inl hb,s22.fr,s22.own,(zIa s22 hl0).1⟩
    · rw [his] at h; cases h
end
theorem neN_k {a b:Nd} {w:World} {K:Value->World->Prop} (hk:K (.bool (!decide (a=b))) w):Run Tryz.prog (.eq .neq zii false false (nv a) (nv b)) w K :=
  zKo (n:=3) (k:=.i64) (by kernel_rfl) (by kernel_rfl) (by kernel_rfl) (by kernel_rfl) [a.c,a.m,a.g] [b.c,b.m,b.g] rfl rfl (by
    have:decide (a=b)=decide ([a.c,a.m,a.g]=[b.c,b.m,b.g]):=decide_eq_decide.2 zJ4
    rwa [this] at hk)
theorem New1_k (h:Ht) (q:Option Addr) (d:Nat) (w:World):FnP Tryz.prog zeA #[.agg #[.string h.name,.slice q h.labels.length d,.int .i64 h.has.c,.int .i64 h.has.m,.int .i64 h.has.g,.int .i64 h.used.c,.int .i64 h.used.m,.int .i64 h.used.g]] w fun v w'=>Ext w w'/\v=.bool (!decide (h.used=za3)):=by
  refine zs0 h.name q h.labels.length d h.has.c h.has.m h.has.g h.used.c h.used.m h.used.g w _ fun b0 hb0 w1 h1=>?_
  refine neN_k (a:=h.used) (b:=za3) ⟨Ext.refl _,_,rfl,fun w4 h4=>⟨h4,rfl⟩⟩
theorem zFa (p:Option Addr) (c:Nat) (L:List Ht) (h63:(L.length:Int)<=9223372036854775807) (w:World) (hL:zjv w p L) :
    FnP Tryz.prog zap #[.slice p L.length c,.func (.func zeA) #[] #[]] w fun v w'=>Ext w w'/\∃ t,v=.int .i64 t/\(0<=t↔∃ x∈L,x.used≠za3):=by
  refine zbq p L.length c _ w _ ?_
  refine ⟨fun k w'=>w'=w/\0<=k/\k<=L.length/\∀ j:Nat,(j:Int)<k->(L.getD j default).used=za3,fun k _=>(L.length-k).toNat,⟨rfl,by omega,by omega,fun j hj=>by omega⟩,?_⟩
  rintro k w ⟨rfl,hk0,hk1,hno⟩
  refine ⟨fun hlt=>?_,fun hge w4 h4=>⟨h4,_,rfl,?_⟩⟩
  · obtain ⟨q,d,n1,n2,g,_⟩:=hL.at hk0 hlt
    refine ⟨n1,hk0,hlt,n2,_,g 0 _ rfl,_,_,_,g 1 _ rfl,_,g 2 _ rfl,_,g 3 _ rfl,_,g 4 _ rfl,_,g 5 _ rfl,_,g 6 _ rfl,_,g 7 _ rfl,fun w4 h4=>?_⟩
    refine ⟨zeA,#[],rfl,(New1_k (L.getD k.toNat default) q d w4).mono fun v w5 ⟨e5,hv⟩=>⟨e5,_,hv,fun hyes w9 h9=>⟨h9,_,rfl,fun _=>⟨_,zan L default (i:=k.toNat) (by omega),by simpa using hyes⟩,fun _=>hk0⟩,fun hn=>⟨i64 (by omega),⟨rfl,by omega,by omega,fun j hj=>?_⟩,by simp only []; omega⟩⟩⟩
    by_cases hjk:(j:Int)<k
    · exact hno j hjk
    · obtain rfl:j=k.toNat:=by omega
      simpa using hn
  · constructor
    · intro h; omega
    · rintro ⟨x,hm,hx⟩
      obtain ⟨j,hj,rfl⟩:=List.getElem_of_mem hm
      have:=hno j (by omega)
      rw [show L.getD j default=L[j] by simp [List.getD_eq_getElem?_getD,hj]] at this
      exact absurd this hx
theorem zwo (p:Option Addr) (c:Nat) (L:List Ht) (h63:(L.length:Int)<=9223372036854775807) (w:World) (hL:zjv w p L) :
    FnP Tryz.prog zaN #[.slice p L.length c,.func (.func zeA) #[] #[]] w fun v w'=>Ext w w'/\∃ b:Bool,v=.bool b/\(b=true↔∃ x∈L,x.used≠za3):=by
  refine zcG p L.length c _ w _ fun w1 h1=>?_
  refine (zFa p c L h63 w1 (hL.ext h1)).mono fun v w2 ⟨e2,t,hv,ht⟩=>⟨e2,t,hv,fun w4 h4=>⟨h4,_,rfl,?_⟩⟩
  rw [decide_eq_true_iff]; exact ht
def zu0 (L:List Ht) (pol:Pol):Prop:=zkB L/\(∀ x∈L,x.used=za3)/\zi4 pol
def zky (L:List Ht) (pol:Pol):Fm:=⟨L,pol,0,[]⟩
theorem zCG (p:Option Addr) (c:Nat) (L:List Ht) (h63:(L.length:Int)<=9223372036854775807) (hO:∀ h∈L,zwf h) (pol:Pol) (w:World) (hL:zjv w p L) :
    FnP Tryz.prog zcW #[.agg #[.slice p L.length c,.int .i64 pol.first,.int .i64 pol.times,.int .i64 pol.most,.int .i64 pol.tries]] w fun v w'=>Ext w w'/\∃ (q:Option Addr) (e:Int),v=.tuple #[.pointer q,.int .i64 e]/\(e=0↔zu0 L pol)/\(e≠0->q=none) /\
      (e=0->∃ fb P,q=ptr fb/\FX w.heap.size w' fb P (zky L pol)):=by
  refine zxy p L.length c pol.first pol.times pol.most pol.tries w _ fun b0 hb0 w1 h1=>(zss p c L h63 hO w1 (hL.ext h1)).mono fun v w2 ⟨e2,e,hv,he,_⟩=>⟨e2,e,hv,fun hne w4 h4=>⟨h4,none,e,rfl,⟨fun h=>absurd h hne,fun h=>absurd (he.2 h.1) hne⟩,fun _=>rfl,fun h=>absurd h hne⟩,fun hz w4 h4=>?_⟩
  have hok:=he.1 hz
  refine (zwo p c L h63 w4 (hL.ext h4)).mono fun v w5 ⟨e5,b,hv,hb⟩=>⟨e5,b,hv,fun hbt w7 h7=>⟨h7,none,9,rfl,⟨fun h=>(by cases h),fun h=>?_⟩,fun _=>rfl,fun h=>(by cases h)⟩,fun hbf w7 h7=>?_⟩
  · obtain ⟨x,hx,hu⟩:=hb.1 hbt
    exact absurd (h.2.1 x hx) hu
  have hu:∀ x∈L,x.used=za3:=fun x hx=>by
    by_cases h:x.used=za3
    · exact h
    · have:=hb.2 ⟨x,hx,h⟩; rw [hbf] at this; cases this
  refine (ztd pol.first pol.times pol.most pol.tries w7).mono fun v w8 ⟨e8,e,hv,hy,hn⟩=>⟨e8,e,hv,fun hne w10 h10=>⟨h10,none,e,rfl,⟨fun h=>absurd h hne,fun h=>absurd (hy h.2.2) hne⟩,fun _=>rfl,fun h=>absurd h hne⟩,fun hz w10 x10=>?_⟩
  have hp:zi4 pol:=by
    by_cases h:zi4 pol
    · exact h
    · have:=hn h; omega
  have h10:=zaa x10
  refine (zH9 p c L hok.1 (fun h hh=>(hok.2.1 h hh).2.1) w10 (hL.ext h10)).mono fun v w11 ⟨e11,p',c',M,hv,hM,o11,hA,hN⟩=>⟨e11,p',_,c',hv,fun w15 x15=>?_⟩
  have h15:=zaa x15
  refine zbE (by intro v hv; simp at hv; rcases hv with rfl|rfl|rfl|rfl|rfl|rfl|rfl<;>rfl) fun w16 o16 e16 w17 e17=>?_
  have h1117:=(h15.trans e16).trans e17
  have hall:Ext w w17:=(h10.trans e11).trans h1117
  have hs15:w.heap.size<=w15.heap.size:=Nat.le_trans h10.size (Nat.le_trans e11.size h15.size)
  have hs11:w11.heap.size<=w15.heap.size:=h15.size
  refine ⟨hall,_,0,rfl,⟨fun _=>⟨hok,hu,hp⟩,fun _=>rfl⟩,fun h=>absurd rfl h,fun _=>⟨w15.heap.size,⟨p',c',none,0,[]⟩,rfl,?_⟩⟩
  have hS:=(zCU o11 (fun m hm=>(hA m hm).1) hN).weak h10.size
  rw [hM] at hS
  refine ⟨((o16 _ hs15).ext e17),Own.nil,rfl,fun w'' k=>?_,fun r hr=>(by cases hr),fun a ha=>(by cases ha),⟨hok.1,hO⟩,⟨by simp [zky],fun s hs=>by simp [zky] at hs⟩,fun b hb=>Nat.lt_of_lt_of_le hb hall.size,fun b hb hf=>?_⟩
  · refine hS (fun b=>b<w.heap.size) (fun b hb=>hb) w'' ((zac h1117).trans k fun b hb=>?_)
    rcases hb with hb|hb|⟨a,ha,_⟩
    · exact .inl hb
    · subst hb; exact .inr hs11
    · cases ha
  · rcases hf with hf|⟨a,ha,_⟩
    · subst hf; have:w15.heap.size<w.heap.size:=hb; omega
    · cases ha
section
variable {O:Nat->Prop} {B fb:Nat} {w:World} {P:Pl} {F:Fm}
end
theorem zGx (a b:Nd) (p:Nat):zcd (zwj a b) p=zcd a p+zcd b p:=by unfold zcd zwj; split<;>rfl
theorem zGz (a b:Nd) (p:Nat):zcd (zin a b) p=zcd a p-zcd b p:=by unfold zcd zin; split<;>rfl
theorem zJA {a b:Nd}:zj1 a b↔∀ p,p<3->zcd a p<=zcd b p:=by
  constructor
  · rintro ⟨h1,h2,h3⟩ i hi
    match i,hi with
    |0,_ => exact h1
    |1,_ => exact h2
    |2,_ => exact h3
  · intro h
    exact ⟨h 0 (by omega),h 1 (by omega),h 2 (by omega)⟩
theorem zGy {a b:Nd} (h:∀ p,p<3->zcd a p=zcd b p):a=b:=by
  have h0:=h 0 (by omega); have h1:=h 1 (by omega); have h2:=h 2 (by omega)
  cases a; cases b
  simp only [zcd] at h0 h1 h2
  simp [h0,h1,h2]
def zep (s:St) (i:Int) (p:Nat):Int:=if s.what=2/\s.host=i then zcd s.job.nd p else 0
def use (F:Fm) (i:Int) (p:Nat):Nat->Int
  |0 => 0
  |n+1 => use F i p n+zep (zad F n) i p
theorem zzT {s:St} (h:okN s.job.nd) (i:Int) {p:Nat} (hp:p<3):0<=zep s i p:=by
  unfold zep
  split
  · exact (zpw.1 h p hp).1
  · omega
theorem zIl {F:Fm} (h:∀ k,k<F.jobs.length->okN (zad F k).job.nd) (i:Int) {p:Nat} (hp:p<3):∀ {n:Nat},n<=F.jobs.length->0<=use F i p n
  |0,_ => by simp [use]
  |n+1,hn => by
    have:=zIl h i hp (n:=n) (by omega)
    have:=zzT (h n (by omega)) i hp
    unfold use; omega
theorem zIk {F:Fm} (h:∀ k,k<F.jobs.length->okN (zad F k).job.nd) (i:Int) {p:Nat} (hp:p<3) {k:Nat}:∀ {n:Nat},n<=F.jobs.length->k<n->zep (zad F k) i p<=use F i p n
  |0,_,hk => by omega
  |n+1,hn,hk => by
    unfold use
    by_cases hkn:k=n
    · subst hkn
      have:=zIl h i hp (n:=k) (by omega)
      omega
    · have:=zIk h i hp (n:=n) (by omega) (by omega:k<n)
      have:=zzT (h n (by omega)) i hp
      omega
structure zk5 (F G:Fm) (k:Nat) (s:St):Prop where
  len:G.jobs.length=F.jobs.length
  pol:G.pol=F.pol
  now:G.now=F.now
  hlen:G.hosts.length=F.hosts.length
  at_:∀ i,zad G i=if i=k then s else zad F i
  job:s.job=(zad F k).job
theorem zk5.self {F G:Fm} {k:Nat} {s:St} (t:zk5 F G k s):zad G k=s:=by rw [t.at_,if_pos rfl]
theorem zk5.other {F G:Fm} {k:Nat} {s:St} (t:zk5 F G k s) {i:Nat} (h:i≠k):zad G i=zad F i:=by rw [t.at_,if_neg h]
theorem zk5.jobs {F G:Fm} {k:Nat} {s:St} (t:zk5 F G k s) (i:Nat):(zad G i).job=(zad F i).job:=by
  rw [t.at_]
  split
  · rename_i h; rw [h]; exact t.job
  · rfl
theorem zz4 {F G:Fm} {k:Nat} {s:St} (t:zk5 F G k s) (i:Int) (p:Nat):∀ n,use G i p n=use F i p n+(if k<n then zep s i p-zep (zad F k) i p else 0)
  |0 => by simp [use]
  |n+1 => by
    unfold use
    rw [zz4 t i p n,t.at_ n]
    by_cases h1:n=k
    · subst h1
      rw [if_pos rfl,if_neg (by omega),if_pos (by omega)]; omega
    · rw [if_neg h1]
      by_cases h2:k<n
      · rw [if_pos h2,if_pos (by omega)]; omega
      · rw [if_neg h2,if_neg (by omega)]; omega
def zeq (p:Pol) (s:St):Prop:=0<=s.tries/\s.tries<=p.tries+1/\(s.what=4->s.tries=p.tries+1)/\(s.what=1\/s.what=2->s.tries<=p.tries)/\(s.what=1->0<s.tries->ze0 p s.tries<=s.again)
def aftJ (F:Fm):Prop:=∀ k,k<F.jobs.length->∀ y∈(zad F k).job.aft,1<=y/\y<=k
theorem zBT {F:Fm}:zk6 F↔aftJ F:=by
  constructor
  · intro h k hk y hy
    exact h k _ (zAF hk) y hy
  · intro h i s hs y hy
    have hi:i<F.jobs.length:=(List.getElem?_eq_some_iff.1 hs).1
    rw [<- zhG hs] at hy
    exact h i hi y hy
structure zyu (F:Fm):Prop where
  aft:aftJ F
  pol:zi4 F.pol
  now:0<=F.now/\F.now<=1099511627776
  hs:zkB F.hosts
  nd:∀ k,k<F.jobs.length->okN (zad F k).job.nd
  hrun:∀ k,k<F.jobs.length->(zad F k).what=2->0<=(zad F k).host/\(zad F k).host<F.hosts.length
  use:∀ i:Nat,i<F.hosts.length->∀ p,p<3->zcd (F.hosts.getD i default).used p=use F i p F.jobs.length
  ahead:∀ k,k<F.jobs.length->(zad F k).what=2\/(zad F k).what=3->∀ y∈(zad F k).job.aft,zaU F y=3
  tries:∀ k,k<F.jobs.length->zeq F.pol (zad F k)
def zA9 (F:Fm) (n:Nat):Prop:=∀ k,k<n->(zad F k).what=1->∀ y∈(zad F k).job.aft,zaU F y≠4/\zaU F y≠5
structure Inv (F:Fm):Prop where
  i0:zyu F
  wt:zA9 F F.jobs.length
theorem zyu.lv {F:Fm} (I:zyu F) {k:Nat} (hk:k<F.jobs.length) (hw:(zad F k).what=2):LvOk F k:=by
  obtain ⟨h0,h1⟩:=I.hrun k hk hw
  refine ⟨I.hs,h0,h1,zJA.2 fun p hp=>?_⟩
  rw [I.use _ (by omega) p hp]
  have:=zIk I.nd (((zad F k).host.toNat:Nat):Int) hp (k:=k) (n:=F.jobs.length) (Nat.le_refl _) hk
  unfold zep at this
  rw [if_pos ⟨hw,by omega⟩] at this
  exact this
theorem zyu.pre {F:Fm} (I:zyu F):Pre F:=⟨zBT.2 I.aft,I.pol,I.now,fun k hk hw=>I.lv hk hw,fun k hk=>by
  have h:=I.tries k hk
  have hp:=I.pol
  unfold zeq at h
  unfold zi4 okP at hp
  omega⟩
theorem zbO (F:Fm) (y:Int):zaU F y=(zad F (y-1).toNat).what:=rfl
theorem zlo {F G:Fm} {k:Nat} {s:St} (I:zyu F) (t:zk5 F G k s) (hk:k<F.jobs.length) (hhs:zkB G.hosts) (hrun:s.what=2->0<=s.host/\s.host<F.hosts.length)
    (huse:∀ i:Nat,i<F.hosts.length->∀ p,p<3->zcd (G.hosts.getD i default).used p=zcd (F.hosts.getD i default).used p+(zep s i p-zep (zad F k) i p))
    (ha:s.what=2\/s.what=3->∀ y∈s.job.aft,zaU F y=3) (hb:(zad F k).what=3->s.what=3) (ht:zeq F.pol s):zyu G:=by
  have haft:aftJ G:=fun i hi y hy=>by
    rw [t.jobs] at hy
    rw [t.len] at hi
    exact I.aft i hi y hy
  refine ⟨haft,by rw [t.pol]; exact I.pol,by rw [t.now]; exact I.now,hhs,fun i hi=>by rw [t.jobs]; exact I.nd i (by rw [t.len] at hi; exact hi),fun i hi hw=>?_,fun i hi p hp=>?_,fun i hi hw y hy=>?_,fun i hi=>?_⟩
  · rw [t.hlen]
    rw [t.len] at hi
    rw [t.at_] at hw ⊢
    split at hw
    · rename_i h; rw [if_pos h]; exact hrun hw
    · rename_i h; rw [if_neg h]; exact I.hrun i hi hw
  · rw [t.hlen] at hi
    rw [huse i hi p hp,I.use i hi p hp,t.len,zz4 t,if_pos hk]
  · rw [t.len] at hi
    have hy':=hy
    rw [t.jobs] at hy'
    have hle:=I.aft i hi y hy'
    rw [zbO,t.at_]
    by_cases hik:i=k
    · subst hik
      rw [if_neg (by omega),<- zbO]
      rw [t.self] at hw hy
      exact ha hw y hy
    · rw [t.other hik] at hw
      have h3:=I.ahead i hi hw y hy'
      split
      · rename_i h
        rw [zbO,h] at h3
        exact hb h3
      · exact h3
  · rw [t.len] at hi
    rw [t.pol,t.at_]
    split
    · exact ht
    · exact I.tries i hi
theorem zk5.st (F:Fm) {k m:Nat} (v:Int) (hk:k<F.jobs.length):zk5 F (stF F k m v) k (zjd m v (zad F k)):=⟨zbK F k m v,rfl,rfl,rfl,fun i=>zjT F v hk i,zlQ m v _⟩
theorem zFp {F:Fm} {s:St}:zKS F s=true↔∃ y∈s.job.aft,zaU F y=4\/zaU F y=5:=by
  unfold zKS
  rw [List.any_eq_true]
  simp [Bool.or_eq_true]
theorem zDd {F:Fm} (I:zyu F) {n:Nat} (hn:n<F.jobs.length) (hw:zA9 F n):zyu (zbT F n)/\zA9 (zbT F n) (n+1):=by
  unfold zbT
  split
  · rename_i h
    have t:=zk5.st F (m:=11) 5 hn
    have h5:(zjd 11 5 (zad F n)).what=5:=rfl
    refine ⟨zlo I t hn I.hs (fun h2=>by rw [h5] at h2; omega) (fun i hi p hp=>?_) (fun h2=>by rw [h5] at h2; omega) (fun h3=>by rw [h.1] at h3; omega) ?_,fun k hk h1 y hy=>?_⟩
    · have e1:zep (zjd 11 5 (zad F n)) i p=0:=by unfold zep; rw [if_neg (fun h=>by rw [h5] at h; omega)]
      have e2:zep (zad F n) i p=0:=by unfold zep; rw [if_neg (fun g=>by rw [h.1] at g; omega)]
      rw [e1,e2,zjI]; omega
    · have:=I.tries n hn
      unfold zeq at this ⊢
      simp only [zjd]
      omega
    · rw [t.at_] at h1
      rw [t.jobs] at hy
      split at h1
      · rw [h5] at h1; omega
      · rename_i hkn
        have hle:=I.aft k (by omega) y hy
        have:=hw k (by omega) h1 y hy
        rw [zbO,t.other (by omega),<- zbO]
        exact this
  · rename_i h
    refine ⟨I,fun k hk h1 y hy=>?_⟩
    by_cases hkn:k=n
    · subst hkn
      have:zKS F (zad F k)≠true:=fun hb=>h ⟨h1,hb⟩
      rw [Ne,zFp] at this
      exact ⟨fun h=>this ⟨y,hy,.inl h⟩,fun h=>this ⟨y,hy,.inr h⟩⟩
    · exact hw k (by omega) h1 y hy
theorem zzq {F:Fm} (I:zyu F):Inv (zmy F):=by
  have h:∀ n,n<=F.jobs.length->zyu (lostTo F n)/\zA9 (lostTo F n) n:=by
    intro n
    induction n with
    |zero => intro _; exact ⟨I,fun k hk => by omega⟩
    |succ n ih =>
      intro hn
      obtain ⟨a,b⟩:=ih (by omega)
      exact zDd a (by rw [zgZ]; omega) b
  obtain ⟨a,b⟩:=h _ (Nat.le_refl _)
  refine ⟨a,?_⟩
  unfold zmy
  rw [zgZ]
  exact b
theorem zGb {F:Fm} {k:Nat} (i:Nat) (p:Nat) (h0:0<=(zad F k).host) (h1:(zad F k).host<F.hosts.length) (hw:(zad F k).what=2):zcd ((zkt F k).hosts.getD i default).used p=zcd (F.hosts.getD i default).used p-zep (zad F k) i p:=by
  unfold zkt zep
  by_cases hi:(zad F k).host.toNat=i
  · rw [if_pos ⟨hw,by omega⟩]
    subst hi
    simp only [List.getD_eq_getElem?_getD,List.getElem?_set_self (show (zad F k).host.toNat<F.hosts.length by omega)]
    simp only [Option.getD_some,zfS]
    rw [zGz]
  · rw [if_neg (fun h=>by omega)]
    simp only [List.getD_eq_getElem?_getD,List.getElem?_set_ne hi]
    omega
theorem zJG {F:Fm} (I:zyu F) {k:Nat} (hk:k<F.jobs.length) (hw:(zad F k).what=2):zkB (zkt F k).hosts:=by
  obtain ⟨_,h0,h1,hf⟩:=I.lv hk hw
  have hm:=zan F.hosts default (i:=(zad F k).host.toNat) (by omega)
  obtain ⟨_,_,_,c,d,e⟩:=I.hs.2.1 _ hm
  have hn:=I.nd k hk
  refine zuZ I.hs (by omega) ?_ ?_
  · unfold okN zj1 zin at *; simp only; omega
  · unfold okN zj1 zin at *; simp only; omega
theorem zln {F G:Fm} {k:Nat} {s:St} (I:zyu F) (hk:k<F.jobs.length) (hw:(zad F k).what=2) (t:zk5 F G k s) (hG:G.hosts=(zkt F k).hosts) (hs:s.what≠2) (ht:zeq F.pol s):zyu G:=by
  obtain ⟨h0,h1⟩:=I.hrun k hk hw
  refine zlo I t hk (by rw [hG]; exact zJG I hk hw) (fun h=>absurd h hs) (fun i hi p hp=>?_) (fun h y hy=>?_) (fun h=>by omega) ht
  · rw [hG,zGb i p h0 h1 hw]
    have:zep s i p=0:=by unfold zep; rw [if_neg (fun h=>hs h.1)]
    rw [this]; omega
  · rw [t.job] at hy
    exact I.ahead k hk (.inl hw) y hy
theorem zna {F G:Fm} {k:Nat} {s:St} (I:Inv F) (t:zk5 F G k s) (hk:k<F.jobs.length) (hs:s.what≠4/\s.what≠5) (h1:s.what=1->∀ y∈s.job.aft,zaU F y≠4/\zaU F y≠5):zA9 G G.jobs.length:=fun i hi hw y hy=>by
  rw [t.len] at hi
  have hy':=hy
  rw [t.jobs] at hy'
  have hle:=I.i0.aft i hi y hy'
  rw [zbO,t.at_]
  split
  · exact hs
  · rw [<- zbO]
    by_cases hik:i=k
    · subst hik
      rw [t.self] at hw hy
      exact h1 hw y hy
    · rw [t.other hik] at hw
      exact I.wt i hi hw y hy'
theorem zk5.left {F:Fm} {k:Nat} (hk:k<F.jobs.length):zk5 F (zdy F k) k { zad F k with host:=0,since:=0 }:=⟨zb7 F k,rfl,rfl,by unfold zdy; rw [zjI,zjI]; unfold zkt; simp,fun i=>zjD hk i,rfl⟩
theorem zk5.then_ {F G:Fm} {k:Nat} {s:St} (t:zk5 F G k s) (hk:k<F.jobs.length) (m:Nat) (v:Int):zk5 F (stF G k m v) k (zjd m v s):=by
  have u:=zk5.st G (m:=m) v (by rw [t.len]; exact hk)
  refine ⟨u.len.trans t.len,u.pol.trans t.pol,u.now.trans t.now,u.hlen.trans t.hlen,fun i=>?_,(zlQ m v s).trans t.job⟩
  rw [u.at_]
  split
  · rw [t.self]
  · rename_i h; rw [t.other h]
theorem ztf {F:Fm} (I:Inv F) {k:Nat} (hk:k<F.jobs.length) (hw:(zad F k).what=2) (ok:Bool):Inv (zgA F k ok):=by
  have ht:=I.i0.tries k hk
  have hp:=I.i0.pol
  have tl:=zk5.left hk
  have h3:=I.i0.ahead k hk (.inl hw)
  have hn:=I.i0.now
  unfold zgA
  split
  · have t:=tl.then_ hk 11 3
    refine ⟨zln I.i0 hk hw t rfl (by simp [zjd]) ?_,zna I t hk (by simp [zjd]) (by simp [zjd])⟩
    unfold zeq at ht ⊢
    simp only [zjd]
    omega
  have tt:zk5 F (zcP F k) k _:=tl.then_ hk 15 ((zad F k).tries+1)
  split
  · rename_i hle
    have t:=(tt.then_ hk 11 1).then_ hk 14 (F.now+ze0 F.pol ((zad F k).tries+1))
    refine ⟨zln I.i0 hk hw t rfl (by simp [zjd]) ?_,zna I t hk (by simp [zjd]) (fun _ y hy=>?_)⟩
    · unfold zeq at ht ⊢
      simp only [zjd]
      refine ⟨by omega,by omega,by omega,by omega,fun _ _=>by omega⟩
    · have:=h3 y hy
      omega
  · rename_i hgt
    have t:=tt.then_ hk 11 4
    refine zzq (zln I.i0 hk hw t rfl (by simp [zjd]) ?_)
    unfold zeq at ht ⊢
    simp only [zjd]
    omega
theorem zCe {F:Fm} (I:Inv F) {k:Nat} (hk:k<F.jobs.length) (hw:(zad F k).what=1\/(zad F k).what=2):Inv (zAk F k):=by
  have ht:=I.i0.tries k hk
  unfold zAk
  refine zzq ?_
  split
  · rename_i h2
    have t:=(zk5.left hk).then_ hk 11 5
    refine zln I.i0 hk h2 t rfl (by simp [zjd]) ?_
    unfold zeq at ht ⊢
    simp only [zjd]
    omega
  · rename_i h2
    have h1:(zad F k).what=1:=by omega
    have t:=zk5.st F (m:=11) 5 hk
    refine zlo I.i0 t hk I.i0.hs (by simp [zjd]) (fun i hi p hp=>?_) (by simp [zjd]) (fun h=>by omega) ?_
    · have e1:zep (zjd 11 5 (zad F k)) i p=0:=by unfold zep; rw [if_neg (by simp [zjd])]
      have e2:zep (zad F k) i p=0:=by unfold zep; rw [if_neg (by omega)]
      rw [e1,e2,zjI]; omega
    · unfold zeq at ht ⊢
      simp only [zjd]
      omega
theorem zr2 {F:Fm} {j:Jb} (i:Nat):zad (zn3 F j) i=if i<F.jobs.length then zad F i else if i=F.jobs.length then zpt j else default:=by
  unfold zad zn3
  simp only [List.getD_eq_getElem?_getD]
  split
  · rename_i h; rw [List.getElem?_append_left h]
  · rename_i h
    rw [List.getElem?_append_right (by omega)]
    split
    · rename_i h2; rw [h2]; simp
    · rename_i h2
      rw [List.getElem?_eq_none (by simp; omega)]; rfl
theorem zpZ (F:Fm) (j:Jb):(zn3 F j).jobs.length=F.jobs.length+1:=by simp [zn3]
theorem zEA {F:Fm} {j:Jb} (i:Int) (p:Nat):∀ n,n<=F.jobs.length->use (zn3 F j) i p n=use F i p n
  |0,_ => rfl
  |n+1,h => by
    unfold use
    rw [zEA i p n (by omega),zr2,if_pos (by omega)]
theorem upA_ge {l:List Int} (h:upA 0 l):∀ x∈l,1<=x:=fun x hx=>(zfL h x hx).1
theorem ztn {F:Fm} {j:Jb} (I:Inv F) (h:zqC F j):Inv (zn3 F j):=by
  have hup:∀ x∈j.aft,1<=x:=upA_ge h.1.up
  have wh:∀ y:Int,1<=y->y<=F.jobs.length->zaU (zn3 F j) y=zaU F y:=fun y h1 h2=>by rw [zbO,zr2,if_pos (by omega),<- zbO]
  have cs:∀ {k},k<(zn3 F j).jobs.length->k<F.jobs.length/\zad (zn3 F j) k=zad F k\/k=F.jobs.length/\zad (zn3 F j) k=zpt j:=fun {k} hk=>by
    rw [zpZ] at hk
    rw [zr2]
    by_cases h:k<F.jobs.length
    · exact .inl ⟨h,if_pos h⟩
    · exact .inr ⟨by omega,by rw [if_neg h,if_pos (by omega)]⟩
  refine ⟨⟨fun k hk y hy=>?_,I.i0.pol,I.i0.now,I.i0.hs,fun k hk=>?_,fun k hk hw=>?_,fun i hi p hp=>?_,fun k hk hw y hy=>?_,fun k hk=>?_⟩,fun k hk hw y hy=>?_⟩
  · rcases cs hk with ⟨hk,e⟩|⟨hk,e⟩<;>rw [e] at hy
    · exact I.i0.aft k hk y hy
    · have:=(h.2.2 y hy).1
      exact ⟨hup y hy,by omega⟩
  · rcases cs hk with ⟨hk,e⟩|⟨hk,e⟩<;>rw [e]
    · exact I.i0.nd k hk
    · exact h.1.nd
  · rcases cs hk with ⟨hk,e⟩|⟨hk,e⟩<;>rw [e] at hw ⊢
    · exact I.i0.hrun k hk hw
    · simp [zpt] at hw
  · rw [zpZ]
    unfold use
    rw [zEA _ _ _ (Nat.le_refl _),zr2,if_neg (by omega),if_pos rfl]
    have:zep (zpt j) i p=0:=by unfold zep; rw [if_neg (by simp [zpt])]
    rw [this]
    have:=I.i0.use i hi p hp
    show zcd (F.hosts.getD i default).used p=_
    omega
  · rcases cs hk with ⟨hk,e⟩|⟨hk,e⟩<;>rw [e] at hw hy
    · have:=I.i0.aft k hk y hy
      rw [wh y this.1 (by omega)]
      exact I.i0.ahead k hk hw y hy
    · simp [zpt] at hw
  · rcases cs hk with ⟨hk,e⟩|⟨hk,e⟩<;>rw [e]
    · exact I.i0.tries k hk
    · have hp:=I.i0.pol
      unfold zi4 okP at hp
      show zeq F.pol (zpt j)
      unfold zeq zpt
      simp only
      omega
  · rcases cs hk with ⟨hk,e⟩|⟨hk,e⟩<;>rw [e] at hw hy
    · have:=I.i0.aft k hk y hy
      rw [wh y this.1 (by omega)]
      exact I.wt k hk hw y hy
    · have h1:=h.2.2 y hy
      rw [wh y (hup y hy) h1.1]
      exact h1.2
theorem zdW {F:Fm} {s:St}:zdA F s=true↔s.what=1/\s.again<=F.now/\∀ y∈s.job.aft,zaU F y=3:=by
  unfold zdA
  simp [Bool.and_eq_true,List.all_eq_true,and_assoc]
theorem zk5.run {F:Fm} {k0:Nat} {k:Int} (hk:k0<F.jobs.length):zk5 F (ze2 F k0 k) k0 { zad F k0 with what:=2,host:=k,since:=F.now }:=⟨zhV F k0 k,rfl,rfl,by show (zkN F k0 k).hosts.length=_; unfold zkN; simp,fun i=>zrW hk k i,rfl⟩
theorem zlN (F:Fm) (k0:Nat) (k:Int):(ze2 F k0 k).hosts=(zkN F k0 k).hosts:=rfl
theorem zt2 {L:List Ht} {t:AT} {a:Nd} {k:Int} (h:zfW L t a k):0<=k/\k<L.length/\zj1 a (zin (L.getD k.toNat default).has (L.getD k.toNat default).used):=by
  obtain ⟨h0,h1,h2⟩:=zom.1 h.1
  unfold zF6 at h2
  rw [Bool.and_eq_true,decide_eq_true_iff] at h2
  exact ⟨h0,h1,h2.2⟩
theorem zHi {F:Fm} {k0:Nat} {k:Int} (i:Nat) (p:Nat) (h0:0<=k) (h1:k<F.hosts.length):zcd ((zkN F k0 k).hosts.getD i default).used p=zcd (F.hosts.getD i default).used p+(if k=i then zcd (zad F k0).job.nd p else 0):=by
  unfold zkN zpe
  by_cases hi:k.toNat=i
  · rw [if_pos (by omega)]
    subst hi
    simp only [List.getD_eq_getElem?_getD,List.getElem?_set_self (show k.toNat<F.hosts.length by omega)]
    simp only [Option.getD_some,zfS]
    rw [zGx]
  · rw [if_neg (fun h=>by omega)]
    simp only [List.getD_eq_getElem?_getD,List.getElem?_set_ne hi]
    omega
theorem zti {F:Fm} (I:Inv F) {k0:Nat} (hk:k0<F.jobs.length) (hr:zdA F (zad F k0)=true) {k:Int} (hb:zfW F.hosts (zad F k0).job.ask (zad F k0).job.nd k):Inv (ze2 F k0 k):=by
  obtain ⟨h0,h1,hf⟩:=zt2 hb
  obtain ⟨r1,r2,r3⟩:=zdW.1 hr
  have t:=zk5.run (k:=k) hk
  have ht:=I.i0.tries k0 hk
  refine ⟨zlo I.i0 t hk (by rw [zlN]; exact zuY I.i0.hs h0 h1 (I.i0.nd k0 hk) hf) (fun _=>⟨h0,h1⟩) (fun i hi p hp=>?_) (fun _ y hy=>r3 y hy) (fun h=>by omega) ?_,zna I t hk (by simp) (by simp)⟩
  · rw [zlN,zHi i p h0 h1]
    have e2:zep (zad F k0) i p=0:=by unfold zep; rw [if_neg (by omega)]
    rw [e2]
    unfold zep
    simp only [true_and]
    omega
  · unfold zeq at ht ⊢
    simp only
    omega
theorem zqi.ind {Mot:Fm->Prop} (step:∀ F id k,inJ F id->zdA F (zad F (id-1).toNat)=true->zfW F.hosts (zad F (id-1).toNat).job.ask (zad F (id-1).toNat).job.nd k->Mot F->Mot (ze2 F (id-1).toNat k)) :
    ∀ {F G:Fm} {ids:List Int} {outs:List (Int×Int)},zqi F ids G outs->ids.Nodup->(∀ id∈ids,inJ F id/\zdA F (zad F (id-1).toNat)=true)->Mot F->Mot G:=by
  intro F G ids outs h
  induction h with
  |nil F => intro _ _ m; exact m
  |skip h1 _ ih =>
    intro hn hr m
    exact ih (List.nodup_cons.1 hn).2 (fun id h=>hr id (List.mem_cons_of_mem _ h)) m
  |@run F F' id k ids out h1 _ ih =>
    intro hn hr m
    obtain ⟨hin,hrd⟩:=hr id (List.mem_cons_self ..)
    have hk:(id-1).toNat<F.jobs.length:=by have:=hin.1; have:=hin.2; omega
    have t:=zk5.run (k:=k) hk
    refine ih (List.nodup_cons.1 hn).2 (fun id' h=>?_) (step F id k hin hrd h1 m)
    obtain ⟨hin',hrd'⟩:=hr id' (List.mem_cons_of_mem _ h)
    have hne:id'≠id:=fun h2=>(List.nodup_cons.1 hn).1 (h2▸h)
    have hk':(id'-1).toNat≠(id-1).toNat:=by have:=hin.1; have:=hin'.1; omega
    refine ⟨⟨hin'.1,by rw [t.len]; exact hin'.2⟩,?_⟩
    rw [t.other hk']
    rw [zdW] at hrd' hrd ⊢
    refine ⟨hrd'.1,by rw [t.now]; exact hrd'.2.1,fun y hy=>?_⟩
    have:=hrd'.2.2 y hy
    rw [zbO] at this ⊢
    rw [t.at_]
    split
    · rename_i h; rw [h] at this; omega
    · exact this
theorem zvo {F:Fm} {T:List Int} (h:zIs F T):T.Nodup:=(h.1.nodup_iff).2 (zhT F _)
theorem zpL {F:Fm} {T:List Int} (h:zIs F T):∀ id∈T,inJ F id/\zdA F (zad F (id-1).toNat)=true:=fun id hi=>by
  obtain ⟨a,b,c⟩:=zfB.1 (h.1.mem_iff.1 hi)
  exact ⟨⟨a,b⟩,c⟩
theorem zlL {Mot:Fm->Prop} (step:∀ F id k,inJ F id->zdA F (zad F (id-1).toNat)=true->zfW F.hosts (zad F (id-1).toNat).job.ask (zad F (id-1).toNat).job.nd k->Mot F->Mot (ze2 F (id-1).toNat k)) {F G:Fm} {outs:List (Int×Int)} (h:zdc F G outs) (m:Mot F):Mot G:=by
  obtain ⟨T,h1,h2⟩:=h
  exact h2.ind step (zvo h1) (zpL h1) m
theorem ziY {F:Fm} {id:Int} (h:inJ F id):(id-1).toNat<F.jobs.length:=by have:=h.1; have:=h.2; omega
theorem zzz {F G:Fm} {outs:List (Int×Int)} (h:zdc F G outs) (I:Inv F):Inv G :=
  zlL (fun F id k hin hr hb I=>zti I (ziY hin) hr hb) h I
theorem zDm {L:List Ht} {pol:Pol} (h:zu0 L pol):Inv (zky L pol):=by
  refine ⟨⟨fun k hk=>(by simp [zky] at hk),h.2.2,by simp [zky],h.1,fun k hk=>(by simp [zky] at hk),fun k hk=>(by simp [zky] at hk),fun i hi p hp=>?_,fun k hk=>(by simp [zky] at hk),fun k hk=>(by simp [zky] at hk)⟩,fun k hk=>(by simp [zky] at hk)⟩
  have hm:=h.2.1 _ (zan L default (i:=i) hi)
  show zcd (L.getD i default).used p=0
  rw [hm]
  unfold zcd za3
  split<;>rfl
theorem zqB (F:Fm) (k:Nat):(zbT F k).pol=F.pol/\(zbT F k).hosts=F.hosts/\(zbT F k).now=F.now:=by unfold zbT; split<;>exact ⟨rfl,rfl,rfl⟩
theorem zmz (F:Fm):(zmy F).pol=F.pol/\(zmy F).hosts=F.hosts/\(zmy F).now=F.now:=by
  have h:∀ n,(lostTo F n).pol=F.pol/\(lostTo F n).hosts=F.hosts/\(lostTo F n).now=F.now:=fun n=>by
    induction n with
    |zero => exact ⟨rfl,rfl,rfl⟩
    |succ n ih =>
      obtain ⟨a,b,c⟩:=zqB (lostTo F n) n
      exact ⟨a.trans ih.1,b.trans ih.2.1,c.trans ih.2.2⟩
  exact h _
structure zEI (n:Nat) (w:World) (p:Option Addr) (c:Nat) (R:List StR):Prop where
  own:Own n w ziL 16 p R.length c (R.flatMap ztO)
  far:∀ r∈R,Far n w fun w''=>IsJ w'' r.s.job r.pa r.ca r.pf
theorem zEI.st {n:Nat} {w:World} {p:Option Addr} {c:Nat} {R:List StR} (h:zEI n w p c R) {k:Int} (h0:0<=k) (h1:k<R.length):∃ r,R[k.toNat]?=some r/\p≠none/\pIdx p k 16≠none/\(∀ (m:Nat) u,(ztO r)[m]?=some u->Go.Sx.cell w (pIdx p k 16) m=some u)/\IsJ w r.s.job r.pa r.ca r.pf:=by
  obtain ⟨r,hr⟩:∃ r,R[k.toNat]?=some r:=⟨_,List.getElem?_eq_getElem (by omega)⟩
  have g:∀ (m:Nat) u,(ztO r)[m]?=some u->Go.Sx.cell w (pIdx p k 16) m=some u:=fun m u hu=>(h.own.recs fun _ _=>rfl).at h0 hr hu
  have g0:=g 0 _ rfl
  exact ⟨r,hr,fun h=>zak g0 (zah.2 h),zak g0,g,(h.far r (List.mem_of_getElem? hr)).at⟩
theorem zCB {t:AT} (h:zle t=0):zeL t=0:=by
  unfold zle at h
  split at h
  · omega
  · exact h
section
variable {O:Nat->Prop} {B fb:Nat} {w:World} {P:Pl} {F:Fm}
theorem ztQ (x:FXO O B w fb P F):FnP Tryz.prog zaz #[.pointer (ptr fb)] w fun v w'=>Ext w w'/\∃ (p:Option Addr) (c:Nat) (R:List StR),v=.slice p R.length c/\R.map (·.s)=F.jobs/\zEI w.heap.size w' p c R:=by
  have ne:=zaG fb
  have hl:=x.len
  have hl0:=x.jO.1
  refine zmN (ptr fb) w _ ⟨ne,ne,_,_,_,x.cell (i:=6) rfl,?_⟩
  rw [hl]
  refine ⟨fun out outl outc k w'=>Ext w w'/\0<=k/\k<=F.jobs.length/\outl=k.toNat/\∃ R:List StR,R.map (·.s)=F.jobs.take k.toNat/\Own w.heap.size w' ziL 16 out outl outc (R.flatMap ztO) /\
      ∀ r∈R,∀ w'',Fr (fun b=>b<w.heap.size\/∃ a,out=some a/\a.block=b) w' w''->IsJ w'' r.s.job r.pa r.ca r.pf,
    fun _ _ _ k _=>(F.jobs.length-k).toNat,⟨Ext.refl _,by omega,by omega,rfl,[],rfl,Own.nil,fun x hx=>(by cases hx)⟩,?_⟩
  rintro out outl outc k w6 ⟨x6,hk0,hk1,rfl,R,hR,oR,hT⟩
  have hRl:R.length=k.toNat:=by have:=congrArg List.length hR; rw [List.length_map,List.length_take] at this; omega
  refine ⟨fun hlt=>?_,fun hge w7 h7=>?_⟩
  · obtain ⟨r,hr,hF,hjp,hne,g,_,hJ,hok,hwf⟩:=(x.ext x6).st hk0 hlt
    refine ⟨hjp,hk0,hlt,hne,_,g 0 _ rfl,_,g 1 _ rfl,_,g 2 _ rfl,_,g 3 _ rfl,_,g 4 _ rfl,_,g 5 _ rfl,_,g 6 _ rfl,_,g 7 _ rfl,_,g 8 _ rfl,_,_,_,g 9 _ rfl,_,_,_,g 10 _ rfl,_,g 11 _ rfl,_,g 12 _ rfl,_,g 13 _ rfl,_,g 14 _ rfl,_,g 15 _ rfl,fun b27 hb27 w28 x28=>?_⟩
    have h28:=zaa x28
    refine (zzw r w28 (hJ.ext h28) (zCB hok.ask) hok.len).mono fun v w29 ⟨e29,r',hv,hrs,hF'⟩=>⟨e29,_,_,_,_,_,_,_,_,_,r'.pa,_,r'.ca,r'.pf,_,r'.cf,_,_,_,_,_,hv,?_⟩
    have h629:=h28.trans e29
    have hw29:=x6.trans h629
    have oR29:=oR.ext h629
    have hns:∀ b∈[b27],∀ y,out=some y->y.block≠b:=fun b hb y hy=>by
      simp at hb; subst hb
      have:=(oR.lt y hy).2; omega
    refine znK (v:=sv r') ze9 (by omega) oR29 hw29.size hns rfl (by intro u hu; simp [Value.cells] at hu; rcases hu with rfl|rfl|rfl|rfl|rfl|rfl|rfl|rfl|rfl|rfl|rfl|rfl|rfl|rfl|rfl|rfl<;>rfl) (by omega) (by omega) (by omega) fun out' outc' w56 o56 g56 _ hb56=>⟨i64 (by omega),⟨g56.ext hw29 oR29,by omega,by omega,by omega,R++[r'],?_,?_,?_⟩,by simp only []; omega⟩
    · rw [show (k+1).toNat=k.toNat+1 by omega,List.map_append,hR,List.take_add_one,hF]
      simp [hrs]
    · rw [List.flatMap_append]
      simpa [Value.cells,ztO] using o56
    · have step:∀ (w0 w'':World),Ext w0 w29->w0.heap.size<=w29.heap.size->Fr (fun b=>b<w.heap.size\/∃ a,out'=some a/\a.block=b) w56 w''->Fr (fun b=>b<w.heap.size\/∃ a,out=some a/\a.block=b) w0 w'':=fun w0 w'' h0 hs fw=>by
        have f1:Fr (fun b=>b<w.heap.size\/∃ a,out=some a/\a.block=b) w0 w56:=(zac h0).tr (zaR g56 fun a ha=>.inr ⟨a,ha,rfl⟩)
        refine f1.trans fw fun b hb=>?_
        rcases hb with h|⟨a2,ha2,hk2⟩
        · exact .inl (.inl h)
        rcases g56.new with hn|hn
        · left
          rw [ha2] at hn
          cases hout:out with
          |none => rw [hout] at hn; simp [blk] at hn
          |some y => rw [hout] at hn; simp [blk] at hn; exact .inr ⟨y,rfl,by omega⟩
        · right
          have:=hn a2 ha2
          omega
      intro y hy w'' fw
      rcases List.mem_append.1 hy with hy|hy
      · exact hT y hy w'' (step w6 w'' h629 h629.size fw)
      · simp at hy; subst hy
        rw [hrs]
        refine hF' _ (fun b hb=>?_) w'' (step w29 w'' (Ext.refl _) (Nat.le_refl _) fw)
        rcases hb with h|⟨a,ha,rfl⟩
        · have:=x6.size; have:=h28.size; omega
        · have:=(oR.lt a ha).2; have:=h28.size; omega
  · have hkl:k.toNat=F.jobs.length:=by omega
    rw [hkl,List.take_length] at hR
    refine ⟨x6.trans h7,out,outc,R,by rw [hRl],hR,⟨by rw [hRl]; exact oR.ext h7,fun r hr S hS w'' fw=>hT r hr w'' ((zac h7).tr (fw.mono fun b hb=>.inl (hS b hb)))⟩⟩
theorem zwr (x:FXO O B w fb P F) (hh:zkB F.hosts):FnP Tryz.prog zaZ #[.pointer (ptr fb)] w fun v w'=>Ext w w'/\∃ (p:Option Addr) (c:Nat),v=.slice p F.hosts.length c/\F.hosts.length<=c/\HsS w.heap.size w' p F.hosts:=by
  have ne:=zaG fb
  refine zlE (ptr fb) w _ ⟨ne,ne,_,_,_,x.cell (i:=0) rfl,fun w3 h3=>?_⟩
  refine (zH9 P.hp P.hc F.hosts hh.1 (fun h hx=>(hh.2.1 h hx).2.1) w3 ((x.ext h3).hs w3 (Fr.refl _ _))).mono fun v w4 ⟨e4,p',c',M,hv,hM,o4,hA,hN⟩=>⟨e4,p',_,c',hv,fun w8 h8=>⟨(h3.trans e4).trans h8,p',c',rfl,o4.le.1,?_⟩⟩
  have hS:=(zCU o4 (fun m hm=>(hA m hm).1) hN).weak h3.size
  rw [hM] at hS
  exact hS.ext h8
end
theorem zzI {R:List StR} {F:Fm} (h:R.map (·.s)=F.jobs) {k:Nat} {r:StR} (hr:R[k]?=some r):k<F.jobs.length/\zad F k=r.s:=by
  have:F.jobs[k]?=some r.s:=by rw [<- h,List.getElem?_map,hr]; rfl
  exact ⟨(List.getElem?_eq_some_iff.1 this).1,zhG this⟩
theorem zth {R:List StR} {F:Fm} (h:R.map (·.s)=F.jobs):R.length=F.jobs.length:=by have:=congrArg List.length h; simpa using this
def lng (y:Int):Prop:=(y%4=0/\y%100≠0)\/y%400=0
instance (y:Int):Decidable (lng y):=by unfold lng; infer_instance
def ah (m:Int):Int:=if m<=1 then 0 else if m=2 then 31 else if m=3 then 59 else if m=4 then 90 else if m=5 then 120 else if m=6 then 151 else if m=7 then 181 else if m=8 then 212 else if m=9 then 243 else if m=10 then 273 else if m=11 then 304 else 334
def Gl (w:World):Prop:=∀ i:Nat,i<13->cell w (some (⟨10,0,none⟩:Addr)) i=some (.int .i64 (ah i))
def GT (w:World):Prop:=∀ i:Nat,i<64->cell w (some (⟨9,0,none⟩:Addr)) i=some (.int .u8 ((Lib.deBruijn64tab.getD i 0:Nat):Int))
def GC (w:World):Prop:=GT w/\Gl w
def zvR:List ByteArray:=[⟨#[]⟩,⟨#[119,97,105,116]⟩,⟨#[114,117,110]⟩,⟨#[100,111,110,101]⟩,⟨#[102,97,105,108]⟩,⟨#[103,111,110,101]⟩]
def errT:Value:=.iface 329 (.agg #[.pointer (some ⟨11,175,none⟩)])
structure GD (w:World):Prop where
  gb:GB w
  whats:zau w (some ⟨4,0,none⟩) (zvR.map Value.string)
  eType:Go.Sx.cell w (some ⟨0,0,none⟩) 0=some errT
  gc:GC w
theorem tab_fr {P:Program} {S:Nat->Prop} {w w':World} {name:String} {k:IntKind} {zs:List Int} (h:Lib.TabIs P w name k zs) (f:Fr S w w') (hS:∀ g,P.globalNamed name=some g->¬ S g):Lib.TabIs P w' name k zs:=by
  unfold Lib.TabIs World.var? at *
  cases hg:P.globalNamed name with
  |none => simp [hg] at h
  |some g =>
    simp only [hg,Option.bind_some] at h ⊢
    have hlt:g<w.heap.size:=by
      rcases Nat.lt_or_ge g w.heap.size with h'|h'
      · exact h'
      · rw [Array.getElem?_eq_none h'] at h; simp at h
    rw [f.block g hlt (hS g hg)]; exact h
theorem g1 : Tryz.prog.globalNamed "internal/strconv.uint64pow10" = some 1 := by kernel_rfl
theorem GB.fr {S:Nat->Prop} {w w':World} (g:GB w) (f:Fr S w w') (h:∀ b,S b->11<=b):GB w':=by
  have n:∀ b,b<11->¬ S b:=fun b hb hs=>by have:=h b hs; omega
  refine ⟨tab_fr g.pow f fun b hb=>?_,?_,?_,?_⟩
  · rw [g1] at hb; injection hb with hb; subst hb; exact n 1 (by omega)
  · obtain ⟨m,e⟩:=g.maxLen; exact ⟨m,zdN e f fun a ha=>by cases ha; exact n 5 (by omega)⟩
  · obtain ⟨m,e,k⟩:=g.eSyn; exact ⟨m,zdN e f fun a ha=>(by cases ha; exact n 2 (by omega)),k⟩
  · obtain ⟨m,e,k⟩:=g.eRan; exact ⟨m,zdN e f fun a ha=>(by cases ha; exact n 3 (by omega)),k⟩
theorem GD.fr {S:Nat->Prop} {w w':World} (g:GD w) (f:Fr S w w') (h:∀ b,S b->11<=b):GD w':=by
  have n:∀ b,b<11->¬ S b:=fun b hb hs=>by have:=h b hs; omega
  exact ⟨g.gb.fr f h,g.whats.fr f fun a ha=>(by cases ha; exact n 4 (by omega)),zdN g.eType f fun a ha=>(by cases ha; exact n 0 (by omega)),⟨fun i hi=>zdN (g.gc.1 i hi) f fun a ha=>(by cases ha; exact n 9 (by omega)),fun i hi=>zdN (g.gc.2 i hi) f fun a ha=>(by cases ha; exact n 10 (by omega))⟩⟩
theorem GD.ext {w w':World} (g:GD w) (e:Ext w w'):GD w':=g.fr (zac (S:=fun _=>False) e) fun _ h=>h.elim
def EV (v:Value) (c:Int):Prop:=(c=0/\v=.nilIface)\/(c≠0/\(v=.iface 24 (.int .i64 c)\/∃ k:Int,v=.iface 257 (.agg #[.int .i64 k,.iface 24 (.int .i64 c)])))
theorem EV.isErr {v:Value} {c:Int} (h:EV v c):isErr v:=by
  rcases h with ⟨_,h⟩|⟨_,h|⟨k,h⟩⟩
  · exact .inl h
  · exact .inr ⟨_,_,h⟩
  · exact .inr ⟨_,_,h⟩
theorem EV.nil {v:Value} {c:Int} (h:EV v c):v=.nilIface↔c=0:=by
  rcases h with ⟨h0,h⟩|⟨h0,h|⟨k,h⟩⟩
  · exact ⟨fun _=>h0,fun _=>h⟩
  · exact ⟨fun g=>(by rw [h] at g; cases g),fun g=>absurd g h0⟩
  · exact ⟨fun g=>(by rw [h] at g; cases g),fun g=>absurd g h0⟩
theorem u24:Tryz.prog.underlying 24=some (.int .i64):=by kernel_rfl
theorem zuR {c:Int} {w:World} {K:Value->World->Prop} (h:K (.iface 24 (.int .i64 c)) w):Run Tryz.prog (.makeInterface 24 (.int .i64 c)) w K :=
  zfF u24 (by intro m hm; cases hm) h
theorem u257:(Tryz.prog.underlying 257).map (fun d=>match d with|.struct _=>true|_=>false)=some true:=by kernel_rfl
theorem zAL {k c:Int} {w:World} {K:Value->World->Prop} (h:K (.iface 257 (.agg #[.int .i64 k,.iface 24 (.int .i64 c)])) w):Run Tryz.prog (.makeInterface 257 (.agg #[.int .i64 k,.iface 24 (.int .i64 c)])) w K:=by
  obtain ⟨d,hd,he⟩:=Option.map_eq_some_iff.1 u257
  exact zfF hd (by intro m hm; subst hm; cases he) h
theorem zF0 {c:Int} (h:c≠0):EV (.iface 24 (.int .i64 c)) c:=.inr ⟨h,.inl rfl⟩
theorem zAv {k c:Int} (h:c≠0):EV (.iface 257 (.agg #[.int .i64 k,.iface 24 (.int .i64 c)])) c:=.inr ⟨h,.inr ⟨k,rfl⟩⟩
theorem ev0:EV .nilIface 0:=.inl ⟨rfl,rfl⟩
theorem zqf (e:Int) (w:World):FnP Tryz.prog zcb #[.int .i64 e] w fun v w'=>Ext w w'/\EV v e :=
  zsZ e w _ ⟨fun h w0 h0=>⟨h0,by rw [h]; exact ev0⟩,fun h w0 h0=>zuR ⟨Ext.refl _,_,rfl,fun w3 h3=>⟨h0.trans h3,zF0 h⟩⟩⟩
theorem neE {v:Value} {c:Int} (h:EV v c) {w:World} {K:Value->World->Prop} (hk:∀ b:Bool,(b=false↔c=0)->K (.bool b) w):Run Tryz.prog (.eq .neq 175 false true v .nilIface) w K :=
  zi2 (by kernel_rfl) h.isErr fun b hb=>hk b (hb.trans h.nil)
def WOk (F:Fm):Prop:=∀ s∈F.jobs,1<=s.what/\s.what<=5
theorem WOk.st {F:Fm} (h:WOk F) (k m:Nat) (v:Int) (hv:m=11->1<=v/\v<=5):WOk (stF F k m v):=by
  intro s hs
  have hs:s∈F.jobs.set k (zjd m v (F.jobs.getD k default)):=hs
  by_cases hk:k<F.jobs.length
  · rcases List.mem_or_eq_of_mem_set hs with hm|rfl
    · exact h s hm
    · have hm:=h _ (zan F.jobs default hk)
      unfold zjd
      split
      · exact hv rfl
      · exact hm
      · exact hm
      · exact hm
      · exact hm
  · rw [List.set_eq_of_length_le (by omega)] at hs
    exact h s hs
theorem WOk.lostTo {F:Fm} (h:WOk F):∀ n,WOk (lostTo F n)
  |0 => h
  |n+1 => by
    rw [Go.Proofs.YtcceeahmcecbnaaGreatDoor.lostTo,zbT]
    split
    · exact (WOk.lostTo h n).st _ _ _ fun _=>by omega
    · exact WOk.lostTo h n
theorem WOk.lost {F:Fm} (h:WOk F):WOk (zmy F):=h.lostTo _
theorem WOk.leave {F:Fm} (h:WOk F) (k:Nat):WOk (zdy F k):=by
  have hg:WOk (zkt F k):=h
  exact (hg.st _ _ _ fun h=>by cases h).st _ _ _ fun h=>by cases h
theorem WOk.rep {F:Fm} (h:WOk F) (k:Nat) (ok:Bool):WOk (zgA F k ok):=by
  unfold zgA zcP
  split
  · exact (h.leave k).st _ _ _ fun _=>by omega
  · split
    · exact ((((h.leave k).st _ _ _ fun h=>by cases h).st _ _ _ fun _=>by omega).st _ _ _ fun h=>by cases h)
    · exact (((h.leave k).st _ _ _ fun h=>by cases h).st _ _ _ fun _=>by omega).lost
theorem WOk.can {F:Fm} (h:WOk F) (k:Nat):WOk (zAk F k):=by
  unfold zAk
  split
  · exact ((h.leave k).st _ _ _ fun _=>by omega).lost
  · exact (h.st _ _ _ fun _=>by omega).lost
theorem WOk.sub {F:Fm} (h:WOk F) (j:Jb):WOk (zn3 F j):=by
  intro s hs
  rcases List.mem_append.1 hs with hs|hs
  · exact h s hs
  · simp at hs; subst hs; exact ⟨by show (1:Int)<=1; omega,by show (1:Int)<=5; omega⟩
theorem WOk.run {F:Fm} (h:WOk F) (k0:Nat) (k:Int):WOk (ze2 F k0 k):=by
  have hg:WOk (zkN F k0 k):=h
  exact ((hg.st _ _ _ fun _=>by omega).st _ _ _ fun h=>by cases h).st _ _ _ fun h=>by cases h
theorem WOk.plan {F G:Fm} {outs:List (Int×Int)} (h:WOk F) (p:zdc F G outs):WOk G :=
  zlL (fun F id k _ _ _ h=>h.run _ k) p h
theorem WOk.tick {F:Fm} (h:WOk F) (n:Int):WOk { F with now:=n }:=h
structure Kt where
  hp:Option Addr
  hn:Nat
  hc:Nat
  L:List Ht
  farm:Option (Nat×Pl×Fm)
inductive DS
  |shut (L:List Ht)
  |opn (F:Fm)
def Kt.st (K:Kt):DS:=match K.farm with
  |none => .shut K.L
  |some (_,_,F) => .opn F
def Kt.fp (K:Kt):Option Addr:=match K.farm with
  |none => none
  |some (fb,_,_) => ptr fb
abbrev dcs (K:Kt):List Value:=[.slice K.hp K.hn K.hc,.pointer K.fp]
def KF (db:Nat) (K:Kt) (b:Nat):Prop:=b=db\/∃ fb P F,K.farm=some (fb,P,F)/\ft fb P.jp b
def dO (O:Nat->Prop) (db:Nat) (b:Nat):Prop:=O b\/b=db
theorem hs_of {w:World} {p:Option Addr} {M:List Hm} (h:zgJ 8 zjz w p M) (hl:∀ m∈M,Lbs w m.q m.h.labels):zjv w p (M.map (·.h)):=fun i x hx=>by
  rw [List.getElem?_map,Option.map_eq_some_iff] at hx
  obtain ⟨m,hm,rfl⟩:=hx
  exact ⟨m.q,m.d,fun j u hu=>h i m hm j u hu,hl m (List.mem_of_getElem? hm)⟩
structure KX (O:Nat->Prop) (B:Nat) (w:World) (db:Nat) (K:Kt):Prop where
  slot:Own B w zwv 2 (ptr db) 1 1 (dcs K)
  shut:K.farm=none->K.hn=K.L.length/\(∃ M:List Hm,M.map (·.h)=K.L/\∀ w'',Fr (dO O db) w w''->zgJ 8 zjz w'' K.hp M/\∀ m∈M,Lbs w'' m.q m.h.labels)/\zkB K.L/\(∀ h∈K.L,zwf h/\h.used=za3)
  opn:∀ fb P F,K.farm=some (fb,P,F)->FXO (dO O db) B w fb P F/\Inv F/\WOk F
  olt:∀ b,O b->b<w.heap.size
  odis:∀ b,O b->b≠db
section
variable {O:Nat->Prop} {B db:Nat} {w:World} {K:Kt}
theorem KX.foot (x:KX O B w db K) {b:Nat} (h:KF db K b):B<=b/\b<w.heap.size:=by
  rcases h with rfl|⟨fb,P,F,e,h⟩
  · exact x.slot.lt _ rfl
  · exact (x.opn fb P F e).1.foot h
theorem KX.oft (x:KX O B w db K) {b:Nat} (h:O b):¬ KF db K b:=by
  rintro (rfl|⟨fb,P,F,e,hf⟩)
  · exact x.odis _ h rfl
  · exact (x.opn fb P F e).1.odis b (.inl h) hf
theorem KX.cell (x:KX O B w db K) {i:Nat} {v:Value} (h:(dcs K)[i]?=some v):Go.Sx.cell w (pAdd (ptr db) i) 0=some v:=by rw [zal]; exact x.slot.cells i v h
theorem KX.fp (x:KX O B w db K):Go.Sx.cell w (pAdd (ptr db) 1) 0=some (.pointer K.fp):=x.cell (i:=1) rfl
theorem KX.keep (x:KX O B w db K) {W:World} (e:Ext W w) (hB:W.heap.size<=B) {w':World} (f:Fr (KF db K) w w'):Ext W w':=f.ext e fun b hb=>Nat.le_trans hB (x.foot hb).1
theorem KX.go {O' S:Nat->Prop} {w9:World} (x:KX O B w db K) (f:Fr S w w9) (hS:∀ b,S b->O b) (h:∀ b,O' b->O b\/(w.heap.size<=b/\b<w9.heap.size)):KX O' B w9 db K:=by
  have hdb:=(x.slot.lt _ rfl).2
  have h':∀ b,dO O' db b->dO O db b\/(w.heap.size<=b/\b<w9.heap.size):=fun b hb=>by
    rcases hb with hb|hb
    · exact (h b hb).imp .inl id
    · exact .inl (.inr hb)
  refine ⟨x.slot.fr f fun a ha hs=>?_,fun e=>?_,fun fb P F e=>?_,fun b hb=>?_,fun b hb hd=>?_⟩
  · cases ha; exact x.odis _ (hS _ hs) rfl
  · obtain ⟨a1,⟨M,m1,a2⟩,a3⟩:=x.shut e
    exact ⟨a1,⟨M,m1,fun w'' k=>a2 w'' ((f.mono fun b hb=>.inl (hS b hb)).trans k fun b hb=>(h' b hb).imp id (·.1))⟩,a3⟩
  · obtain ⟨a1,a2⟩:=x.opn fb P F e
    exact ⟨a1.go f (fun b hb=>.inl (hS b hb)) h',a2⟩
  · rcases h b hb with g|g
    · have:=x.olt b g; have:=f.size; omega
    · exact g.2
  · subst hd
    rcases h b hb with g|g
    · exact x.odis b g rfl
    · have hd:b<w.heap.size:=hdb
      omega
theorem KX.fr {S:Nat->Prop} {w':World} (x:KX O B w db K) (f:Fr S w w') (hS:∀ b,S b->O b):KX O B w' db K:=x.go f hS fun b hb=>.inl hb
theorem KX.ext {w':World} (x:KX O B w db K) (e:Ext w w'):KX O B w' db K:=x.fr (zac (S:=fun _=>False) e) fun _ h=>h.elim
theorem KX.hs (x:KX O B w db K) (e:K.farm=none) {w':World} (h:Ext w w'):zjv w' K.hp K.L:=by
  obtain ⟨_,⟨M,m1,a2⟩,_⟩:=x.shut e
  obtain ⟨q1,q2⟩:=a2 w' (zac h)
  rw [<- m1]
  exact hs_of q1 q2
end
def zuE (w:World) (db:Nat) (K K':Kt):Prop:=∀ b,KF db K' b->KF db K b\/w.heap.size<=b
theorem zCs (w:World):FnP Tryz.prog zjq #[] w fun v w'=>Ext w w'/\∃ db,v=.pointer (ptr db)/\KX (fun b=>b<w.heap.size) w.heap.size w' db ⟨none,0,0,[],none⟩:=by
  refine zxw w _ fun w0 h0=>zbE (by intro v hv; simp at hv; rcases hv with rfl|rfl<;>rfl) fun w1 o1 e1 w2 h2=>⟨(h0.trans e1).trans h2,_,rfl,(o1 _ h0.size).ext h2,fun _=>⟨rfl,⟨[],rfl,fun w'' _=>⟨fun i h hi=>by simp at hi,by simp⟩⟩,⟨by simp,by simp,by simp⟩,by simp⟩,fun fb P F e=>(by cases e),fun b hb=>?_,fun b hb hd=>?_⟩
  · have hb:b<w.heap.size:=hb
    have:=((h0.trans e1).trans h2).size
    omega
  · have hb:b<w.heap.size:=hb
    have hd:b=w0.heap.size:=hd
    have:=h0.size; omega
def CR (O:Nat->Prop) (B db:Nat) (w:World) (K:Kt) (R:ByteArray->Int->DS->Prop) (v:Value) (w':World):Prop :=
  ∃ (s:ByteArray) (ev:Value) (c:Int) (K':Kt),v=.tuple #[.string s,ev]/\EV ev c/\KX O B w' db K'/\Fr (KF db K) w w'/\zuE w db K K'/\R s c K'.st
theorem zcB {O:Nat->Prop} {B db:Nat} {w w':World} {K:Kt} {R:ByteArray->Int->DS->Prop} (x:KX O B w db K) (e:Ext w w') {s:ByteArray} {ev:Value} {c:Int} (he:EV ev c) (hR:R s c K.st):CR O B db w K R (.tuple #[.string s,ev]) w' :=
  ⟨s,ev,c,K,rfl,he,x.ext e,zac e,fun b hb=>.inl hb,hR⟩
theorem zwL {O:Nat->Prop} {B db:Nat} {w0 w w':World} {K:Kt} {R:ByteArray->Int->DS->Prop} {v:Value} (e:Ext w0 w) (h:CR O B db w K R v w'):CR O B db w0 K R v w':=by
  obtain ⟨s,ev,c,K',h1,h2,h3,h4,h5,h6⟩:=h
  exact ⟨s,ev,c,K',h1,h2,h3,(zac e).tr h4,fun b hb=>(h5 b hb).imp id fun h=>Nat.le_trans e.size h,h6⟩
theorem CR.mono {O:Nat->Prop} {B db:Nat} {w w':World} {K:Kt} {R R':ByteArray->Int->DS->Prop} {v:Value} (h:CR O B db w K R v w') (k:∀ s c σ,R s c σ->R' s c σ):CR O B db w K R' v w':=by
  obtain ⟨s,ev,c,K',h1,h2,h3,h4,h5,h6⟩:=h
  exact ⟨s,ev,c,K',h1,h2,h3,h4,h5,k _ _ _ h6⟩
theorem zAQ:∀ (u:Nat),u<=9223372036854775807->Lib.parseUintM 18446744073709551615 0 (Lib.decDigits u)=.ok u:=by
  intro u
  induction u using Nat.strongRecOn with
  |_ u ih =>
    intro hu
    rw [Lib.decDigits]
    split
    · rename_i h
      simp only [Lib.parseUintM]
      rw [zr3 (by omega),if_pos (by omega),if_neg (by omega),if_neg (by omega)]
      congr 1; omega
    · rename_i h
      rw [zmV _ (ih (u/10) (by omega) (by omega))]
      simp only [Lib.parseUintM]
      rw [zr3 (by omega),if_pos (by omega),if_neg (by omega),if_neg (by omega)]
      congr 1; omega
theorem zfE {n:Int} (h0:0<=n) (h1:n<=9223372036854775807):Lib.parseIntB 64 (Lib.itoa n)=.ok n:=by
  rw [zdS h0]
  have hd:=zcY n.toNat
  cases hl:Lib.decDigits n.toNat with
  |nil => exact absurd hl (zoY _)
  |cons c r =>
    have hc:=hd c (by rw [hl]; exact List.mem_cons_self ..)
    rw [Lib.parseIntB_plain 64 c r (by omega) (by omega),<- hl]
    unfold Lib.parseUintB
    rw [if_neg (zoY _),show (2:Nat)^64-1=18446744073709551615 by decide,zAQ _ (by omega)]
    show (if (2:Nat)^(64-1)<=n.toNat then _ else _)=_
    rw [if_neg (by have:(2:Nat)^(64-1)=9223372036854775808:=by decide
                   omega)]
    congr 1; omega
theorem zC2 {m n:Int} (hm:0<=m/\m<=9223372036854775807) (hn:0<=n/\n<=9223372036854775807) (h:Lib.itoa m=Lib.itoa n):m=n:=by
  have:=zfE hm.1 hm.2
  rw [h,zfE hn.1 hn.2] at this
  injection this with e
  exact e.symm
def zGC (s:ByteArray) (n c:Int):Prop:=(c=0/\0<=n/\n<=9223372036854775807/\s=ofL (Lib.itoa n)/\s.size<=18)\/(c=3/\n=0/\∀ m:Int,0<=m->m<=9223372036854775807->s=ofL (Lib.itoa m)->¬ s.size<=18)
theorem zpv (wp:Option Addr) (wc:Nat) (ws:List ByteArray) (h1:1<ws.length) (hs:(ws.getD 1 ⟨#[]⟩).size<=281474976710656) (w:World) (hw:zau w wp (ws.map Value.string)) (g:GB w) :
    FnP Tryz.prog zev #[.slice wp ws.length wc,.int .i64 1] w fun v w'=>Ext w w'/\∃ (n:Int) (ev:Value) (c:Int),v=.tuple #[.int .i64 n,ev]/\EV ev c/\zGC (ws.getD 1 ⟨#[]⟩) n c:=by
  have hc:∀ {w':World},Ext w w'->Go.Sx.cell w' (pIdx wp 1 1) 0=some (.string (ws.getD 1 ⟨#[]⟩)):=fun e=>by
    rw [zae]
    refine (hw.ext e) 1 _ ?_
    rw [List.getElem?_map,getElem?_getD ws ⟨#[]⟩ h1]; rfl
  have np:wp≠none:=fun h=>zak (hc (Ext.refl w)) (zah.2 h)
  generalize ws.getD 1 ⟨#[]⟩=s at hs hc ⊢
  have bad:∀ {w1 w8:World},Ext w w1->Ext w1 w8->(∀ m:Int,0<=m->m<=9223372036854775807->s=ofL (Lib.itoa m)->¬ s.size<=18) ->
      Run Tryz.prog (.makeInterface 24 (.int .i64 3)) w8 fun v9 w9=>Ext w8 w9/\∃ t10:Value,v9=t10/\Value.oneCell' t10=true/\∀ w11,Ext w9 w11 ->
        Run Tryz.prog (.makeInterface 257 (.agg #[.int .i64 1,t10])) w11 fun v12 w12=>Ext w11 w12/\∃ t13:Value,v12=t13/\∀ w14,Ext w12 w14 ->
          Ext w w14/\∃ (n:Int) (ev:Value) (c:Int),Value.tuple #[.int .i64 0,t13]=.tuple #[.int .i64 n,ev]/\EV ev c/\zGC s n c:=fun x1 x8 hno =>
    zuR ⟨Ext.refl _,_,rfl,rfl,fun w11 h11=>zAL ⟨Ext.refl _,_,rfl,fun w14 h14=>⟨((x1.trans x8).trans h11).trans h14,0,_,3,rfl,zAv (by decide),.inr ⟨rfl,rfl,hno⟩⟩⟩⟩
  refine zpB wp ws.length wc 1 w _ ⟨np,by omega,by omega,_,hc (Ext.refl w),fun w1 x1=>(zjw s hs w1 (g.ext x1)).mono fun v w2 ⟨e2,n,ev,hv,hcase⟩=>⟨e2,n,ev,hv,fun w5 h5=>?_⟩⟩
  have x2:=x1.trans e2
  refine zi2 (by kernel_rfl) (hcase.elim (fun h=>.inl h.1) fun h=>.inr h.1) fun t ht=>⟨Ext.refl _,t,rfl,fun _=>np,fun _=>by omega,fun _=>by omega,fun htt w8 h8=>bad x2 h8 fun m h0 h63 hm=>?_,fun htf=>⟨_,hc x2,fun _=>np,fun _=>by omega,fun _=>by omega,fun hgt w9 h9=>bad x2 h9 fun m _ _ _=>by omega,fun hle=>⟨_,hc x2,fun w10 h10=>?_⟩⟩⟩
  · exfalso
    have hp:=zfE (n:=m) h0 h63
    have hsd:s.data.toList=Lib.itoa m:=by rw [hm]; rfl
    rw [hsd] at hcase
    rcases hcase with ⟨q1,q2⟩|⟨_,q2⟩
    · rw [ht.2 q1] at htt; cases htt
    · exact q2 _ hp
  · obtain ⟨hev,hpar⟩:ev=.nilIface/\Lib.parseIntB 64 s.data.toList=.ok n:=by
      rcases hcase with h|⟨⟨a,b,h⟩,_⟩
      · exact h
      · have:=ht.1 htf
        rw [h] at this; cases this
    have hb:=zhF (zg3 hpar)
    refine (zoK n hb w10 ((g.ext x2).ext h10)).mono fun v w11 ⟨e11,hv⟩=>⟨e11,_,hv,fun hor w13 h13=>bad x2 h13 fun m h0 h63 hm=>?_,fun hand w13 h13=>⟨x2.trans h13,n,_,0,rfl,ev0,.inl ⟨rfl,hand.2,hb.2,hand.1.symm,by omega⟩⟩⟩
    exfalso
    have hp:=zfE (n:=m) h0 h63
    have hsd:s.data.toList=Lib.itoa m:=by rw [hm]; rfl
    rw [hsd] at hpar
    have:n=m:=by rw [hp] at hpar; injection hpar with hpar; exact hpar.symm
    subst this
    rcases hor with h|h
    · exact h hm.symm
    · omega
section
variable {O:Nat->Prop} {B db:Nat} {w:World} {K:Kt}
theorem KX.turn (x:KX O B w db K) {fb:Nat} {P P':Pl} {F G:Fm} (hK:K.farm=some (fb,P,F)) {w':World} (y:FXO (dO O db) B w' fb P' G) (f:Fr (ft fb P.jp) w w') (hg:∀ b,ft fb P'.jp b->ft fb P.jp b\/w.heap.size<=b) (I:Inv G) (W:WOk G) :
    KX O B w' db { K with farm:=some (fb,P',G) }/\Fr (KF db K) w w'/\zuE w db K { K with farm:=some (fb,P',G) }:=by
  have hx:=(x.opn fb P F hK).1
  refine ⟨⟨?_,fun e=>(by cases e),fun fb' P1 F1 e=>?_,fun b hb=>Nat.lt_of_lt_of_le (x.olt b hb) f.size,x.odis⟩,f.mono fun b hb=>.inr ⟨fb,P,F,hK,hb⟩,fun b hb=>?_⟩
  · have:dcs { K with farm:=some (fb,P',G) }=dcs K:=by simp [dcs,Kt.fp,hK]
    rw [this]
    exact x.slot.fr f fun a ha hs=>(by cases ha; exact hx.odis _ (.inr rfl) hs)
  · injection e with e
    obtain ⟨rfl,rfl,rfl⟩:fb=fb'/\P'=P1/\G=F1:=by simpa using e
    exact ⟨y,I,W⟩
  · rcases hb with rfl|⟨fb',P1,F1,e,h⟩
    · exact .inl (.inl rfl)
    · injection e with e
      obtain ⟨rfl,rfl,rfl⟩:fb=fb'/\P'=P1/\G=F1:=by simpa using e
      exact (hg b h).imp (fun h=>.inr ⟨fb,P,F,hK,h⟩) id
theorem KX.fbp (x:KX O B w db K) {fb:Nat} {P:Pl} {F:Fm} (hK:K.farm=some (fb,P,F)):Go.Sx.cell w (pAdd (ptr db) 1) 0=some (.pointer (ptr fb)):=by
  have:=x.fp
  unfold Kt.fp at this
  rw [hK] at this
  exact this
theorem KX.nofp (x:KX O B w db K) (hK:K.farm=none):Go.Sx.cell w (pAdd (ptr db) 1) 0=some (.pointer none):=by
  have:=x.fp
  unfold Kt.fp at this
  rw [hK] at this
  exact this
theorem Kt.st_opn {K:Kt} {fb:Nat} {P:Pl} {F:Fm} (hK:K.farm=some (fb,P,F)):K.st=.opn F:=by unfold Kt.st; rw [hK]
theorem Kt.st_shut {K:Kt} (hK:K.farm=none):K.st=.shut K.L:=by unfold Kt.st; rw [hK]
theorem Kt.cases (K:Kt):K.farm=none\/∃ fb P F,K.farm=some (fb,P,F):=by
  cases h:K.farm with
  |none => exact .inl rfl
  |some y => exact .inr ⟨y.1,y.2.1,y.2.2,rfl⟩
end
def NR (O:Nat->Prop) (B db:Nat) (w:World) (K:Kt) (R:Int->DS->Prop) (v:Value) (w':World):Prop :=
  ∃ (e:Int) (K':Kt),v=.int .i64 e/\KX O B w' db K'/\Fr (KF db K) w w'/\zuE w db K K'/\R e K'.st
theorem zJ8 {O:Nat->Prop} {B db:Nat} {w w' w'':World} {K:Kt} {R:Int->DS->Prop} {v:Value} (h:NR O B db w K R v w') (e:Ext w' w''):NR O B db w K R v w'':=by
  obtain ⟨c,K',h1,h3,h4,h5,h6⟩:=h
  exact ⟨c,K',h1,h3.ext e,h4.tr (zac e),h5,h6⟩
theorem zsR {O:Nat->Prop} {B db:Nat} {w0 w w':World} {K:Kt} {R:Int->DS->Prop} {v:Value} (e:Ext w0 w) (h:NR O B db w K R v w'):NR O B db w0 K R v w':=by
  obtain ⟨c,K',h1,h3,h4,h5,h6⟩:=h
  exact ⟨c,K',h1,h3,(zac e).tr h4,fun b hb=>(h5 b hb).imp id fun h=>Nat.le_trans e.size h,h6⟩
theorem zsS {O:Nat->Prop} {B db:Nat} {w w':World} {K:Kt} {R:Int->DS->Prop} (x:KX O B w db K) (e:Ext w w') {c:Int} (hR:R c K.st):NR O B db w K R (.int .i64 c) w' :=
  ⟨c,K,rfl,x.ext e,zac e,fun b hb=>.inl hb,hR⟩
theorem zHl {F:Fm} (I:Inv F) {n:Int} (h:0<=n/\n<=1000000000/\F.now+n<=1099511627776):Inv { F with now:=F.now+n }:=by
  have hn:=I.i0.now
  exact ⟨⟨I.i0.aft,I.i0.pol,by show 0<=F.now+n/\F.now+n<=1099511627776; omega,I.i0.hs,I.i0.nd,I.i0.hrun,by
      intro i hi p hp
      have:=I.i0.use i hi p hp
      have e:∀ m,use { F with now:=F.now+n } i p m=use F i p m:=fun m=>by
        induction m with
        |zero => rfl
        |succ n ih => unfold use; rw [ih]; rfl
      rw [e]; exact this,I.i0.ahead,I.i0.tries⟩,I.wt⟩
def zCd (F:Fm) (n:Int):Prop:=0<=n/\n<=1000000000/\F.now+n<=1099511627776
def ztq (F:Fm) (n e:Int) (σ:DS):Prop:=(e=4/\¬ zCd F n/\σ=.opn F)\/(e=0/\zCd F n/\σ=.opn { F with now:=F.now+n })
def zCc (F:Fm) (id:Int):Prop:=inJ F id/\(zad F (id-1).toNat).what=2
def zHG (F:Fm) (id:Int):Prop:=inJ F id/\((zad F (id-1).toNat).what=1\/(zad F (id-1).toNat).what=2)
def zwm (ok:Bool) (F:Fm) (id e:Int) (σ:DS):Prop:=(e≠0/\ztL F id e/\¬ zCc F id/\σ=.opn F)\/(e=0/\zCc F id/\σ=.opn (zgA F (id-1).toNat ok))
def zFy (F:Fm) (id e:Int) (σ:DS):Prop:=(e≠0/\ztL F id e/\¬ zHG F id/\σ=.opn F)\/(e=0/\zHG F id/\σ=.opn (zAk F (id-1).toNat))
section
variable {O:Nat->Prop} {B db:Nat} {w:World} {K:Kt} {fb:Nat} {P:Pl} {F:Fm} {pb:Option Addr}
theorem tick_c (x:KX O B w db K) (hK:K.farm=some (fb,P,F)) (hpb:Go.Sx.cell w pb 0=some (.pointer (ptr db))) (n:Int) :
    FnP Tryz.prog zd4 #[.int .i64 n,.pointer pb] w (NR O B db w K (ztq F n)):=by
  have ne:=zaG db
  refine zhL n pb w _ ⟨_,hpb,ne,ne,_,x.fbp hK,fun w2 x2=>?_⟩
  have y:=x.ext x2
  obtain ⟨fx,I,W⟩:=y.opn fb P F hK
  refine (zEs fx I.i0.now n).mono fun v w3 ⟨e,hv,hor,hiff⟩=>⟨e,hv,fun w5 h5=>zsR x2 (zJ8 ?_ h5)⟩
  rcases hor with ⟨hne,he,h3⟩|⟨he,hc,fx',f⟩
  · exact zsS y h3 (.inl ⟨he,fun h=>hne (hiff.2 h),by rw [Kt.st_opn hK]⟩)
  · obtain ⟨a1,a2,a3⟩:=y.turn (P':=P) hK fx' f (fun b hb=>.inl hb) (zHl I hc) (W.tick _)
    exact ⟨e,_,rfl,a1,a2,a3,.inr ⟨he,hc,rfl⟩⟩
theorem zHR (x:KX O B w db K) (hK:K.farm=some (fb,P,F)) (hpb:Go.Sx.cell w pb 0=some (.pointer (ptr db))) (n:Int) (hn:InR .i64 n) (ok:Bool) {f:FuncId} (hf:(ok=true/\f=zd5)\/(ok=false/\f=zd6)) :
    FnP Tryz.prog f #[.int .i64 n,.pointer pb] w (NR O B db w K (zwm ok F n)):=by
  have ne:=zaG db
  have fin:∀ {w5:World},Ext w w5->FnP Tryz.prog zaS #[.pointer (ptr fb),.int .i64 n,.bool ok] w5 fun v6 w6=>∃ t7:Int,v6=.int .i64 t7/\∀ w8,Ext w6 w8->NR O B db w K (zwm ok F n) (.int .i64 t7) w8:=fun {w5} x5=>by
    have y:=x.ext x5
    obtain ⟨fx,I,W⟩:=y.opn fb P F hK
    refine (zox fx I.i0.pre n hn ok).mono fun v w3 ⟨e,hv,hiff,hor⟩=>⟨e,hv,fun w8 h8=>zsR x5 (zJ8 ?_ h8)⟩
    rcases hor with ⟨hne,hE,h3⟩|⟨he,P',hjp,fx',f⟩
    · exact zsS y h3 (.inl ⟨hne,hE,fun h=>hne (hiff.2 h),by rw [Kt.st_opn hK]⟩)
    · have hc:=hiff.1 he
      obtain ⟨a1,a2,a3⟩:=y.turn hK fx' f (fun b hb=>.inl (by rw [hjp] at hb; exact hb)) (ztf I (ziY hc.1) hc.2 ok) (W.rep _ ok)
      exact ⟨e,_,rfl,a1,a2,a3,.inr ⟨he,hc,rfl⟩⟩
  have sm:∀ (w2:World) (R:Value->World->Prop),(∀ w3,Ext w2 w3->R (.int .i64 n) w3)->FnP Tryz.prog zez #[.int .i64 n] w2 R:=fun w2 R h=>zlD n w2 R h
  rcases hf with ⟨rfl,rfl⟩|⟨rfl,rfl⟩
  · exact zhM n pb w _ ⟨_,hpb,ne,ne,_,x.fbp hK,fun w2 x2=>sm w2 _ fun w3 h3=>⟨h3,n,rfl,fun w5 x5=>fin x5⟩⟩
  · exact zhN n pb w _ ⟨_,hpb,ne,ne,_,x.fbp hK,fun w2 x2=>sm w2 _ fun w3 h3=>⟨h3,n,rfl,fun w5 x5=>fin x5⟩⟩
theorem zFC (x:KX O B w db K) (hK:K.farm=some (fb,P,F)) (hpb:Go.Sx.cell w pb 0=some (.pointer (ptr db))) (n:Int) (hn:InR .i64 n) :
    FnP Tryz.prog zd7 #[.int .i64 n,.pointer pb] w (NR O B db w K (zFy F n)):=by
  have ne:=zaG db
  refine zhO n pb w _ ⟨_,hpb,ne,ne,_,x.fbp hK,fun w2 x2=>zlD n _ _ fun w3 h3=>⟨h3,n,rfl,fun w5 x5=>?_⟩⟩
  have y:=x.ext x5
  obtain ⟨fx,I,W⟩:=y.opn fb P F hK
  refine (zyM fx I.i0.pre n hn).mono fun v w3 ⟨e,hv,hiff,hor⟩=>⟨e,hv,fun w8 h8=>zsR x5 (zJ8 ?_ h8)⟩
  rcases hor with ⟨hne,hE,h3⟩|⟨he,P',hjp,fx',f⟩
  · exact zsS y h3 (.inl ⟨hne,hE,fun h=>hne (hiff.2 h),by rw [Kt.st_opn hK]⟩)
  · have hc:=hiff.1 he
    obtain ⟨a1,a2,a3⟩:=y.turn hK fx' f (fun b hb=>.inl (by rw [hjp] at hb; exact hb)) (zCe I (ziY hc.1) hc.2) (W.can _)
    exact ⟨e,_,rfl,a1,a2,a3,.inr ⟨he,hc,rfl⟩⟩
end
def zJ5 (R:Fm->Int->Int->DS->Prop) (σ:DS) (n e:Int) (σ':DS):Prop:=match σ with
  |.shut L => e=9/\σ'=.shut L
  |.opn F => R F n e σ'
def zqX (R:Fm->Int->Int->DS->Prop) (word:ByteArray) (σ:DS) (s:ByteArray) (c:Int) (σ':DS):Prop :=
  ∃ n c1,zGC word n c1/\((c1≠0/\c=c1/\σ'=σ)\/(c1=0/\s=⟨#[111,107]⟩/\zJ5 R σ n c σ'))
section
variable {O:Nat->Prop} {B db:Nat} {w:World} {K:Kt}
theorem zgo {w:World} {p:Addr} {v:Value} (h:w.cell? p=some v):Go.Sx.cell w (some p) 0=some v:=by
  have:p.add 0=p:=add_zero p
  show w.cell? (p.add 0)=some v
  rw [this]; exact h
theorem zzL (x:KX O B w db K) {pb:Addr} {f:FuncId} {v:Value} (hv:zdh pb f v w) (hpb:w.cell? pb=some (.pointer (ptr db))) (g:GB w)
    (R:Fm->Int->Int->DS->Prop) (wp:Option Addr) (wc:Nat) (ws:List ByteArray) (h1:1<ws.length) (hs:(ws.getD 1 ⟨#[]⟩).size<=281474976710656) (hw:zau w wp (ws.map Value.string))
    (hf:∀ {w1:World} {fb:Nat} {P:Pl} {F:Fm} (n:Int),Ext w w1->InR .i64 n->K.farm=some (fb,P,F)->FnP Tryz.prog f #[.int .i64 n,.pointer (some pb)] w1 (NR O B db w1 K (R F n))) :
    ∃ f' cap,v=.func (.func f') #[] cap/\FnP Tryz.prog f' (#[.slice wp ws.length wc]++cap) w (CR O B db w K (zqX R (ws.getD 1 ⟨#[]⟩) K.st)):=by
  obtain ⟨p2,p1,rfl,c2,u,c1,p3,rfl,c3⟩:=hv
  refine ⟨_,_,rfl,zgd wp ws.length wc (some p2) w _ fun w0 x0=>(zpv wp wc ws h1 hs w0 (hw.ext x0) (g.ext x0)).mono fun v w1 ⟨e1,n,ev,c,hv,he,hn⟩=>⟨e1,n,ev,hv,fun w4 h4=>neE he fun b hb=>⟨Ext.refl _,b,rfl,fun hbt w7 h7=>?_,fun hbf=>?_⟩⟩⟩
  · have hc:c≠0:=fun h=>by rw [hb.2 h] at hbt; cases hbt
    exact zcB x ((x0.trans e1).trans h7) he ⟨n,c,hn,.inl ⟨hc,rfl,rfl⟩⟩
  · have hc:c=0:=hb.1 hbf
    have x1:=x0.trans e1
    refine ⟨_,zgo ((Cst.of_ext x1).cell c2),fun w8 h8=>⟨204,#[.pointer (some p1)],rfl,zgu n (some p1) w8 _ ?_⟩⟩
    have x8:=x1.trans h8
    refine ⟨_,zgo ((Cst.of_ext x8).cell c1),fun w9 h9=>⟨207,#[.pointer (some pb),.pointer (some p3)],rfl,?_⟩⟩
    have x9:=x8.trans h9
    have hni:InR .i64 n:=by
      rcases hn with ⟨_,a,b,_⟩|⟨h,_⟩
      · exact i64 (by omega)
      · omega
    have fin:∀ {w2:World} {v2:Value},NR O B db w K (zJ5 R K.st n) v2 w2->∃ t3:Int,v2=.int .i64 t3/\∀ w4,Ext w2 w4->FnP Tryz.prog zcb #[.int .i64 t3] w4 fun v5 w5=>Ext w4 w5/\∃ t6:Value,v5=t6/\∀ w7,Ext w5 w7 ->
        ∃ t10:ByteArray,∃ t11:Value,Value.tuple #[.string (⟨#[111,107]⟩:ByteArray),t6]=.tuple #[.string t10,t11]/\∀ w12,Ext w7 w12->CR O B db w K (zqX R (ws.getD 1 ⟨#[]⟩) K.st) (.tuple #[.string t10,t11]) w12:=fun {w2 v2} hN=>by
      obtain ⟨e,K',rfl,hX,hF,hG,hR⟩:=hN
      refine ⟨e,rfl,fun w4 h4=>(zqf e w4).mono fun v w5 ⟨e5,hE⟩=>⟨e5,v,rfl,fun w7 h7=>⟨_,v,rfl,fun w12 h12=>?_⟩⟩⟩
      have hx:=((h4.trans e5).trans h7).trans h12
      exact ⟨_,v,e,K',rfl,hE,hX.ext hx,hF.tr (zac hx),hG,n,c,hn,.inr ⟨hc,rfl,hR⟩⟩
    have ne:=zaG db
    refine zgv n (some pb) (some p3) w9 _ ⟨_,zgo ((Cst.of_ext x9).cell hpb),ne,ne,?_⟩
    rcases K.cases with hK|⟨fb,P,F,hK⟩
    · refine ⟨none,(x.ext x9).nofp hK,fun _ w2 h2=>fin (zsS x (x9.trans h2) ?_),fun h=>absurd rfl h⟩
      rw [Kt.st_shut hK]
      exact ⟨rfl,rfl⟩
    · refine ⟨ptr fb,(x.ext x9).fbp hK,fun h=>absurd h (zaG fb),fun _=>⟨_,zgo ((Cst.of_ext x9).cell c3),fun w3 h3=>⟨f,#[.pointer (some pb)],rfl,(hf n (x9.trans h3) hni hK).mono fun v w4 hN=>?_⟩⟩⟩
      have hN':=zsR (x9.trans h3) hN
      obtain ⟨e,K',rfl,hX,hF,hG,hR⟩:=hN'
      refine ⟨e,rfl,fun w6 h6=>fin ⟨e,K',rfl,hX.ext h6,hF.tr (zac h6),hG,?_⟩⟩
      rw [Kt.st_opn hK]; exact hR
end
theorem FXO.low' {O:Nat->Prop} {B B' fb:Nat} {w:World} {P:Pl} {F:Fm} (x:FXO O B w fb P F) (h:B'<=B):FXO O B' w fb P F:=⟨x.slot.weak h,x.arr.weak h,x.map,x.hs,x.js,x.ap,x.hO,x.jO,x.olt,x.odis⟩
def zBn:Pol:=⟨10,2,100,3⟩
theorem okdp:zi4 zBn:=by unfold zi4 okP zBn; decide
def zxI (σ:DS) (c:Int) (s:ByteArray) (σ':DS):Prop:=match σ with
  |.shut L => c=0/\s=⟨#[111,107]⟩/\σ'=.opn (zky L zBn)
  |.opn F => c=9/\σ'=.opn F
section
variable {O:Nat->Prop} {B db:Nat} {w:World} {K:Kt}
theorem open_c (x:KX O B w db K) (hB:B<=w.heap.size) (a1:Option Addr) (n1 c1:Nat):FnP Tryz.prog zif #[.pointer (ptr db),.slice a1 n1 c1] w (CR O B db w K fun s c σ'=>zxI K.st c s σ'):=by
  have ne:=zaG db
  refine zmK (ptr db) a1 n1 c1 w _ ⟨ne,ne,?_⟩
  rcases K.cases with hK|⟨fb,P,F,hK⟩
  · refine ⟨none,x.nofp hK,fun h=>absurd rfl h,fun _=>⟨ne,ne,_,_,_,x.cell (i:=0) rfl,fun w4 x4=>?_⟩⟩
    obtain ⟨hn,_,hok,hO⟩:=x.shut hK
    rw [hn]
    have h30:=hok.1
    refine (zCG K.hp K.hc K.L (by omega) (fun h hh=>(hO h hh).1) zBn w4 (x.hs hK x4)).mono fun v w5 ⟨e5,q,e,hv,hiff,hno,hyes⟩=>⟨e5,q,e,hv,fun hne=>?_,fun hz=>⟨ne,ne,?_⟩⟩
    · have:zu0 K.L zBn:=⟨hok,fun h hh=>(hO h hh).2,okdp⟩
      exact absurd (hiff.2 this) hne
    obtain ⟨fb,P,rfl,fx⟩:=hyes hz
    have x5:=x4.trans e5
    have y5:=x.ext x5
    have hdb4:db<w4.heap.size:=by have:=(x.slot.lt _ rfl).2; have:=x4.size; exact Nat.lt_of_lt_of_le (x.slot.lt _ rfl).2 x4.size
    refine zcp (off:=1) y5.slot (by simp) rfl (by simp) fun w8 o8 g8 w9 h9=>?_
    have f8:Fr (fun b=>b=db) w5 w8:=zaR g8 fun a ha=>by cases ha; rfl
    have fx9:FXO (dO O db) B w9 fb P (zky K.L zBn):=by
      refine FXO.low' (((fx.fr f8 fun b hb=>?_).ext h9).less fun b hb=>?_) (Nat.le_trans hB x4.size)
      · show b<w4.heap.size
        have hb:b=db:=hb
        omega
      · show b<w4.heap.size
        rcases hb with hb|hb
        · have:=x.olt b hb; have:=x4.size; omega
        · omega
    have hft:∀ b,ft fb P.jp b->w4.heap.size<=b:=fun b hb=>(fx.foot hb).1
    refine ⟨_,_,0,{ K with farm:=some (fb,P,zky K.L zBn) },rfl,ev0,⟨?_,fun e=>(by cases e),fun fb' P1 F1 e=>?_,fun b hb=>Nat.lt_of_lt_of_le (x.olt b hb) ?_,x.odis⟩,?_,fun b hb=>?_,?_⟩
    · have:dcs { K with farm:=some (fb,P,zky K.L zBn) }=(dcs K).set 1 (.pointer (ptr fb)):=by simp [dcs,Kt.fp]
      rw [this]; exact o8.ext h9
    · injection e with e
      obtain ⟨rfl,rfl,rfl⟩:fb=fb'/\P=P1/\zky K.L zBn=F1:=by simpa using e
      exact ⟨fx9,zDm ⟨hok,fun h hh=>(hO h hh).2,okdp⟩,fun s hs=>by cases hs⟩
    · exact Nat.le_trans (Nat.le_trans x5.size f8.size) h9.size
    · exact ((zac x5).tr (f8.mono fun b hb=>.inl hb)).tr (zac h9)
    · rcases hb with rfl|⟨fb',P1,F1,e,h⟩
      · exact .inl (.inl rfl)
      · injection e with e
        obtain ⟨rfl,rfl,rfl⟩:fb=fb'/\P=P1/\zky K.L zBn=F1:=by simpa using e
        have:=hft b h
        have:=x4.size
        exact .inr (by omega)
    · rw [Kt.st_shut hK]
      exact ⟨rfl,rfl,rfl⟩
  · refine ⟨_,x.fbp hK,fun _ w1 x1=>zuR ⟨Ext.refl _,_,rfl,fun w4 h4=>zcB x (x1.trans h4) (zF0 (by decide)) ?_⟩,fun h=>absurd h (zaG fb)⟩
    rw [Kt.st_opn hK]
    exact ⟨rfl,rfl⟩
def zD4 (word:ByteArray) (σ:DS) (c:Int) (s:ByteArray) (σ':DS):Prop:=σ'=σ/\∃ n c1,zGC word n c1/\((c1≠0/\c=c1)\/(c1=0/\match σ with
  |.shut _ => c=9
  |.opn F => (inJ F n/\c=0/\s=zvR.getD (zad F (n-1).toNat).what.toNat ⟨#[]⟩)\/(¬ inJ F n/\c=5)))
theorem zKs (x:KX O B w db K) {fb:Nat} {P:Pl} {F:Fm} (hK:K.farm=some (fb,P,F)) (g:GD w) (n:Int) (hn:InR .i64 n):FnP Tryz.prog zeP #[.pointer (ptr db),.int .i64 n] w fun v w'=>Ext w w'/\∃ s ev c,v=.tuple #[.string s,ev]/\EV ev c /\
    ((inJ F n/\c=0/\s=zvR.getD (zad F (n-1).toNat).what.toNat ⟨#[]⟩)\/(¬ inJ F n/\c=5)):=by
  have ne:=zaG db
  refine zmM (ptr db) n w _ ⟨ne,ne,_,x.fbp hK,fun w1 x1=>?_⟩
  obtain ⟨fx,I,W⟩:=(x.ext x1).opn fb P F hK
  refine (ztQ fx).mono fun v w2 ⟨e2,p,c,R,hv,hR,hJ⟩=>⟨e2,p,_,c,hv,?_⟩
  have hl:R.length=F.jobs.length:=by have:=congrArg List.length hR; simpa using this
  rw [hl]
  have x2:=x1.trans e2
  refine ⟨fun hor w6 h6=>zuR ⟨Ext.refl _,_,rfl,fun w9 h9=>⟨(x2.trans h6).trans h9,_,_,5,rfl,zF0 (by decide),.inr ⟨fun h=>by have:=h.1; have:=h.2; omega,rfl⟩⟩⟩,fun ⟨h1,h2⟩=>⟨i64 (by have:=zhF hn; omega),?_⟩⟩
  obtain ⟨r,hr,hp,hp16,hcs,_⟩:=hJ.st (k:=n-1) (by omega) (by omega)
  have hj:zad F (n-1).toNat=r.s:=by
    unfold zad
    rw [List.getD_eq_getElem?_getD,<- hR,List.getElem?_map,hr]; rfl
  have hm:r.s∈F.jobs:=by rw [<- hR]; exact List.mem_map_of_mem (List.mem_of_getElem? hr)
  obtain ⟨w1',w5'⟩:=W r.s hm
  have g2:=g.ext x2
  have hwh:Go.Sx.cell w2 (pIdx (some (⟨4,0,none⟩:Addr)) r.s.what 1) 0=some (.string (zvR.getD r.s.what.toNat ⟨#[]⟩)):=by
    rw [zae]
    refine g2.whats _ _ ?_
    have hlt:r.s.what.toNat<zvR.length:=by show r.s.what.toNat<6; omega
    simp only [List.getElem?_map,Nat.mul_one,Nat.add_zero]
    rw [getElem?_getD zvR ⟨#[]⟩ hlt]; rfl
  refine ⟨hp,by omega,by omega,hp16,r.s.what,by rw [zal]; exact hcs 11 _ rfl,by simp,by omega,by omega,_,hwh,fun w8 h8=>⟨x2.trans h8,_,_,0,rfl,ev0,.inl ⟨⟨h1,h2⟩,rfl,by rw [hj]⟩⟩⟩
theorem show_c (x:KX O B w db K) {pb:Addr} {v:Value} (hv:zns pb v w) (hpb:w.cell? pb=some (.pointer (ptr db))) (g:GD w)
    (wp:Option Addr) (wc:Nat) (ws:List ByteArray) (h1:1<ws.length) (hs:(ws.getD 1 ⟨#[]⟩).size<=281474976710656) (hw:zau w wp (ws.map Value.string)) :
    ∃ f' cap,v=.func (.func f') #[] cap/\FnP Tryz.prog f' (#[.slice wp ws.length wc]++cap) w (CR O B db w K fun s c σ'=>zD4 (ws.getD 1 ⟨#[]⟩) K.st c s σ'):=by
  obtain ⟨p2,rfl,c2⟩:=hv
  refine ⟨_,_,rfl,zgd wp ws.length wc (some p2) w _ fun w0 x0=>(zpv wp wc ws h1 hs w0 (hw.ext x0) (g.gb.ext x0)).mono fun v w1 ⟨e1,n,ev,c,hv,he,hn⟩=>⟨e1,n,ev,hv,fun w4 h4=>neE he fun b hb=>⟨Ext.refl _,b,rfl,fun hbt w7 h7=>?_,fun hbf=>?_⟩⟩⟩
  · have hc:c≠0:=fun h=>by rw [hb.2 h] at hbt; cases hbt
    exact zcB x ((x0.trans e1).trans h7) he ⟨rfl,n,c,hn,.inl ⟨hc,rfl⟩⟩
  have hc:c=0:=hb.1 hbf
  have x1:=x0.trans e1
  have hni:InR .i64 n:=by
    rcases hn with ⟨_,a,b,_⟩|⟨h,_⟩
    · exact i64 (by omega)
    · omega
  refine ⟨_,zgo ((Cst.of_ext x1).cell c2),fun w8 h8=>⟨218,#[.pointer (some pb)],rfl,zhP n (some pb) w8 _ fun w9 h9=>zbE (by simp [Value.oneCell']) fun w10 o10 e10=>?_⟩⟩
  have x10:=((x1.trans h8).trans h9).trans e10
  have cn:∀ {w':World},Ext w10 w'->Go.Sx.cell w' (some ⟨w9.heap.size,0,none⟩) 0=some (.int .i64 n):=fun e=>(((o10 _ (Nat.le_refl _)).cells).ext e) 0 _ rfl
  have cpb:∀ {w':World},Ext w w'->Go.Sx.cell w' (some pb) 0=some (.pointer (ptr db)):=fun e=>zgo ((Cst.of_ext e).cell hpb)
  have ne:=zaG db
  refine ⟨_,cpb x10,ne,ne,?_⟩
  rcases K.cases with hK|⟨fb,P,F,hK⟩
  · refine ⟨none,(x.ext x10).nofp hK,fun w11 h11=>zj7 true _ w11 _ ⟨fun _ w12 h12=>zuR ⟨Ext.refl _,_,rfl,fun w13 h13=>⟨h12.trans h13,_,_,rfl,fun w14 h14=>⟨_,_,rfl,fun w15 h15=>?_⟩⟩⟩,fun h=>(by cases h)⟩⟩
    refine zcB x ((((((x10.trans h11).trans h12).trans h13).trans h14)).trans h15) (zF0 (c:=9) (by decide)) ⟨rfl,n,c,hn,.inr ⟨hc,?_⟩⟩
    rw [Kt.st_shut hK]
  · refine ⟨ptr fb,(x.ext x10).fbp hK,fun w11 h11=>zj7 false _ w11 _ ⟨fun h=>(by cases h),fun _ w12 h12=>⟨220,_,rfl,?_⟩⟩⟩
    have x12:=(x10.trans h11).trans h12
    refine zgw (some pb) (some ⟨w9.heap.size,0,none⟩) w12 _ ⟨_,cpb x12,_,cn (h11.trans h12),fun w13 h13=>?_⟩
    refine (zKs (x.ext (x12.trans h13)) hK (g.ext (x12.trans h13)) n hni).mono fun v w14 ⟨e14,s,ev',c',hv,hE,hcs⟩=>⟨e14,s,ev',hv,fun w15 h15=>⟨(h13.trans e14).trans h15,s,ev',rfl,fun w16 h16=>⟨(h12.trans ((h13.trans e14).trans h15)).trans h16,s,ev',rfl,fun w17 h17=>⟨s,ev',rfl,fun w18 h18=>?_⟩⟩⟩⟩
    refine zcB x ((((((((x12.trans h13).trans e14).trans h15).trans h16).trans h17)).trans h18)) hE ⟨rfl,n,c,hn,.inr ⟨hc,?_⟩⟩
    rw [Kt.st_opn hK]
    exact hcs
end
theorem zBy (L:List ByteArray) (c:UInt8) (p:Option Addr) (d:Nat) (hd:L.length<=d) (w:World) (hw:zau w p (L.map Value.string)) (hlen:(Lib.join (L.map (·.data.toList)) [c]).length<=140737488355327) (hL:L.length<=140737488355328) :
    FnP Tryz.prog zbd #[.slice p L.length d,.string (one c)] w fun v w'=>Ext w w'/\v=.string (ofL (Lib.join (L.map (·.data.toList)) [c])):=by
  refine ⟨fun args w=>Tryz.call173 args w,?_⟩
  cases L with
  |nil =>
    refine (Tryz.strings_Join_none p d (one c) w).mono fun e w' ⟨he,hw'⟩=>⟨_,he,by rw [hw']; exact Ext.refl w,rfl⟩
  |cons x r =>
    have h0:=hw 0 (.string x) rfl
    obtain ⟨a,rfl,hb,hc⟩:=zdO h0
    have hsp:a.spot=none:=by
      unfold World.cell? at hc
      cases hq:w.heap[(a.add 0).block]? with
      |none => simp [hq] at hc
      |some o =>
        cases o with
        |cells cs t f =>
          rw [hq] at hc
          simp only at hc
          by_cases hs:(a.add 0).spot.isSome=true
          · rw [if_pos hs] at hc; cases hc
          · have:(a.add 0).spot=a.spot:=rfl
            rw [this] at hs
            simpa using hs
        |_ => simp [hq] at hc
    obtain ⟨bk,off,sp⟩:=a
    have hsp:sp=none:=hsp
    subst hsp
    have hbk:bk<w.heap.size:=hb
    refine (Tryz.strings_Join bk off d (x::r) (one c) w (fun j y hy=>?_) hbk hL hd (by show (Lib.join ((x::r).map (·.data.toList)) [c]).length<=_; omega)).mono fun e w' ⟨he,hw'⟩=>⟨_,he,hw',rfl⟩
    have hcell:=hw j (.string y) (by rw [List.getElem?_map,hy]; rfl)
    simp only [cell,Option.bind_some] at hcell
    have ha:(Addr.add ⟨bk,off,none⟩ j)=⟨bk,off+j,none⟩:=by simp [Addr.add]
    rwa [ha] at hcell
def zim (L:List Ht) (o:Int×Int):List UInt8:=Lib.itoa o.1++64::(L.getD o.2.toNat default).name.data.toList
def zEc (G:Fm) (outs:List (Int×Int)):List UInt8:=Lib.join (outs.map (zim G.hosts)) [32]
theorem zDM {F G:Fm} {ids:List Int} {outs:List (Int×Int)} (h:zqi F ids G outs):(∀ o∈outs,o.1∈ids/\0<=o.2/\o.2<F.hosts.length)/\G.hosts.length=F.hosts.length:=by
  induction h with
  |nil F => exact ⟨fun o ho => by simp at ho,rfl⟩
  |skip _ _ ih => exact ⟨fun o ho => ⟨List.mem_cons_of_mem _ (ih.1 o ho).1,(ih.1 o ho).2⟩,ih.2⟩
  |@run F F' id k ids out hb _ ih =>
    have e:(ze2 F (id-1).toNat k).hosts.length=F.hosts.length:=by rw [zlN]; unfold zkN; simp
    obtain ⟨b0,b1,_⟩:=zt2 hb
    refine ⟨fun o ho=>?_,by rw [ih.2,e]⟩
    rcases List.mem_cons.1 ho with rfl|ho
    · exact ⟨List.mem_cons_self,b0,b1⟩
    · have:=ih.1 o ho
      rw [e] at this
      exact ⟨List.mem_cons_of_mem _ this.1,this.2⟩
theorem zvx {F G:Fm} {outs:List (Int×Int)} (h:zdc F G outs):(∀ o∈outs,inJ F o.1/\0<=o.2/\o.2<F.hosts.length)/\G.hosts.length=F.hosts.length:=by
  obtain ⟨T,h1,h2⟩:=h
  obtain ⟨a,b⟩:=zDM h2
  exact ⟨fun o ho=>⟨(zpL h1 _ (a o ho).1).1,(a o ho).2⟩,b⟩
def zxL (σ:DS) (c:Int) (s:ByteArray) (σ':DS):Prop:=match σ with
  |.shut _ => False
  |.opn F => c=0/\∃ G outs,zdc F G outs/\s=ofL (zEc G outs)/\σ'=.opn G
section
variable {O:Nat->Prop} {B db:Nat} {w:World} {K:Kt}
theorem plan_c (x:KX O B w db K) {fb:Nat} {P:Pl} {F:Fm} (hK:K.farm=some (fb,P,F)) (g:GD w) (hB:11<=B) (a1:Option Addr) (n1 c1:Nat) :
    FnP Tryz.prog zig #[.pointer (ptr db),.slice a1 n1 c1] w (CR O B db w K fun s c σ'=>zxL K.st c s σ'):=by
  have ne:=zaG db
  refine zmL (ptr db) a1 n1 c1 w _ ⟨ne,ne,_,x.fbp hK,fun w1 x1=>?_⟩
  have y1:=x.ext x1
  obtain ⟨fx,I,W⟩:=y1.opn fb P F hK
  refine (zvv fx I.i0.pre.aft I.i0.hs).mono fun v w2 ⟨G,outs,out,outc,P',hv,hpl,hGh,hjobs,hjp,fx',f2,oO,h60⟩=>⟨out,_,outc,0,hv,ne,ne,?_⟩
  obtain ⟨po1,po2⟩:=zvx hpl
  obtain ⟨y2,f2',g2'⟩:=y1.turn hK fx' f2 (fun b hb=>.inl (by rw [hjp] at hb; exact hb)) (zzz hpl I) (W.plan hpl)
  generalize hK':({ K with farm:=some (fb,P',G) }:Kt)=K' at y2 g2'
  have hK2:K'.farm=some (fb,P',G):=by rw [<- hK']
  have gd2:GD w2:=(g.ext x1).fr f2' fun b hb=>Nat.le_trans hB (y1.foot hb).1
  refine ⟨_,y2.fbp hK2,fun w8 x8=>?_⟩
  have y8:=y2.ext x8
  obtain ⟨fx8,I8,W8⟩:=y8.opn fb P' G hK2
  refine (zwr fx8 hGh).mono fun v w9 ⟨e9,hp,hc,hv,_,hS⟩=>⟨e9,hp,_,hc,hv,?_⟩
  have x9:=x8.trans e9
  have cO:zgJ 2 encO w9 out outs:=(oO.ext x9).recs fun _ _=>rfl
  have hH:=hS.at
  refine ⟨fun p n c k w'=>Ext w9 w'/\0<=k/\k<=outs.length/\n=k/\Own w9.heap.size w' zay 1 p n c ((outs.take k.toNat).map fun o=>Value.string (ofL (zim G.hosts o))),fun _ _ _ k _=>(outs.length-k).toNat,⟨Ext.refl _,by omega,by omega,by simp,Own.nil⟩,?_⟩
  rintro p n c k w16 ⟨x16,hk0,hk1,hnk,o16⟩
  refine ⟨fun hlt=>?_,fun hge w17 h17=>?_⟩
  · obtain ⟨o,ho⟩:∃ o,outs[k.toNat]?=some o:=⟨_,List.getElem?_eq_getElem (by omega)⟩
    obtain ⟨⟨i1,i2⟩,q1,q2⟩:=po1 o (List.mem_of_getElem? ho)
    rw [<- po2] at q2
    have hj60:=fx.jO.1
    have r0:Go.Sx.cell w16 (pIdx out k 2) 0=some (.int .i64 o.1):=by
      refine zaJ x16 ?_
      exact cO.at hk0 ho rfl
    have r1:Go.Sx.cell w16 (pIdx out k 2) 1=some (.int .i64 o.2):=by
      refine zaJ x16 ?_
      exact cO.at hk0 ho rfl
    obtain ⟨hq,hd,np,np8,hcs,_⟩:=(hH.ext x16).at q1 q2
    have hname:Go.Sx.cell w16 (pAdd (pIdx hp o.2 8) 0) 0=some (.string (G.hosts.getD o.2.toNat default).name):=by
      rw [zal]; exact hcs 0 _ rfl
    have hmem:=zan G.hosts default (i:=o.2.toNat) (by omega)
    have hsz:=(zcZ (hGh.2.1 _ hmem).1).2
    refine ⟨fun hq=>zak r0 (zah.2 hq),hk0,hlt,zak r0,_,r0,_,r1,fun b19 hb19=>⟨np,q1,q2,np8,_,hname,fun w21 h21=>?_⟩⟩
    refine (znt o.1 (by omega) w21 (((gd2.ext x9).ext x16).ext h21).gb).mono fun v w22 ⟨e22,hv⟩=>⟨e22,_,hv,?_⟩
    have hil:=Lib.itoa_length_le o.1 (by omega) (by omega)
    have e1:(ofL (Lib.itoa o.1)++(⟨#[64]⟩:ByteArray))++(G.hosts.getD o.2.toNat default).name=ofL (zim G.hosts o):=by
      unfold zim
      have:(⟨#[64]⟩:ByteArray)=ofL [64]:=rfl
      rw [this,zxn]
      have e2:(G.hosts.getD o.2.toNat default).name=ofL (G.hosts.getD o.2.toNat default).name.data.toList:=(zb8 _).symm
      rw [e2,zxn,zcl]
      simp
    refine ⟨?_,?_,?_⟩
    · unfold zdk
      rw [zat]
      show _+1<=_
      omega
    · unfold zdk
      rw [show (⟨#[64]⟩:ByteArray)=ofL [64] from rfl,zxn,zat,List.length_append]
      show _+1+_<=_
      omega
    rw [e1]
    refine znK zbX (by omega) o16 x16.size (fun b hb y hy=>by simp at hb; subst hb; have:=(o16.lt y hy).2; omega) rfl (by intro u hu; simp [Value.cells] at hu; subst hu; rfl) (by omega) (by omega) (by omega) fun p' c' w' o' g' np _=>⟨i64 (by omega),⟨g'.ext x16 o16,by omega,by omega,by omega,?_⟩,by simp only []; omega⟩
    rw [show (k+1).toNat=k.toNat+1 by omega,List.take_add_one,ho]
    simpa [Value.cells] using o'
  · have hk:k=outs.length:=by omega
    subst hk
    have htake:outs.take ((outs.length:Int)).toNat=outs:=by simp
    rw [htake] at o16
    have hn:n=outs.length:=by omega
    subst hn
    have hmap:(outs.map fun o=>Value.string (ofL (zim G.hosts o)))=(outs.map fun o=>ofL (zim G.hosts o)).map Value.string:=by simp
    rw [hmap] at o16
    have hlen2:((outs.map fun o=>ofL (zim G.hosts o)).map (·.data.toList))=outs.map (zim G.hosts):=by
      rw [List.map_map]; rfl
    have hcap:=o16.le
    have hj:=zBy (outs.map fun o=>ofL (zim G.hosts o)) 32 p c (by simpa using hcap.1) w17 (o16.ext h17).cells (by
      rw [hlen2]
      have:=zhH (c:=32) (m:=100) (outs.map (zim G.hosts)) (fun y hy=>by
        obtain ⟨o,ho,rfl⟩:=List.mem_map.1 hy
        obtain ⟨⟨i1,i2⟩,q1,q2⟩:=po1 o ho
        have hj60:=fx.jO.1
        have hil:=Lib.itoa_length_le o.1 (by omega) (by omega)
        rw [<- po2] at q2
        have hmem:=zan G.hosts default (i:=o.2.toNat) (by omega)
        have hsz:=(zcZ (hGh.2.1 _ hmem).1).2
        unfold zim
        rw [List.length_append,List.length_cons,zhy]
        omega)
      rw [List.length_map] at this
      omega) (by simp; omega)
    rw [List.length_map,hlen2] at hj
    refine hj.mono fun v w18 ⟨e18,hv⟩=>⟨e18,_,hv,fun w20 h20=>(zqf 0 w20).mono fun v w21 ⟨e21,hE⟩=>⟨e21,v,rfl,fun w23 h23=>?_⟩⟩
    have hx:=((x9.trans x16).trans h20).trans (e21.trans h23)
    refine ⟨_,v,0,K',rfl,hE,y2.ext hx,?_,?_,?_⟩
    · exact ((zac x1).tr f2').tr (zac hx)
    · intro b hb
      refine (g2' b hb).imp id fun h=>Nat.le_trans x1.size h
    · rw [Kt.st_opn hK,Kt.st_opn hK2]
      exact ⟨rfl,G,outs,hpl,rfl,rfl⟩
end
def zFb (w:World) (s:ByteArray) (v:Value) (w':World):Prop:=Ext w w'/\∃ j pa ca pf cf e,v=.tuple #[jv j pa ca pf cf,.int .i64 e]/\WfJ j/\(∀ S:Nat->Prop,(∀ b,S b->b<w.heap.size)->∀ w'',Fr S w' w''->IsJ w'' j pa ca pf) /\
  ((e≠0/\j=zdt/\pa=none/\ca=0/\pf=none/\cf=0)\/(e=0/\okJ j/\nod j.ask<=60/\s=ofL (jtx j)/\(txt j.ask).length<=2000))/\(3000<s.size->e=2)/\(s.size<=3000->e=0\/e=3)/\(∀ j0,JT s j0->s.size<=3000->e=0/\j=j0)
theorem zgW {w w':World} {s:ByteArray} (x:Ext w w') {e:Int} (he:e≠0) (hno:∀ j0,JT s j0->s.size<=3000->False) (hE:(3000<s.size->e=2)/\(s.size<=3000->e=3):=by refine ⟨fun h=>?_,fun h=>?_⟩<;>omega):zFb w s (.tuple #[jv zdt none 0 none 0,.int .i64 e]) w' :=
  ⟨x,zdt,none,0,none,0,e,rfl,zib,fun _ _ _ _=>zoE _,.inl ⟨he,rfl,rfl,rfl,rfl,rfl⟩,hE.1,fun h=>.inr (hE.2 h),fun j0 h hs=>(hno j0 h hs).elim⟩
theorem zGm (s:ByteArray) (hs63:s.size<=9223372036854775807) (w:World) (g:GB w):FnP Tryz.prog zgN #[.string s] w (zFb w s):=by
  refine zpH s w _ fun b0 hb0=>⟨fun hbig w1 h1=>zgW h1 (by decide) fun j0 _ h=>by omega,fun hsm w1 x1=>?_⟩
  have h1:=zaa x1
  have hb01:b0<w1.heap.size:=x1.lt b0 (by simp)
  refine (zeU 32 s (by omega) w1 (g.ext h1)).mono fun v w2 ⟨e2,hv,hc2,hlt2⟩=>⟨e2,_,_,_,hv,fun hne w6 x6=>?_,fun h5=>?_⟩
  · refine zgW (zar x6 (h1.trans e2) (by intro d hd; simp at hd; omega)) (by decide) fun j0 hj _=>hne ?_
    rw [(zge hj).1]; rfl
  have hw2:Ext w w2:=h1.trans e2
  have hcnt:Lib.countB s (one 32)=4:=by omega
  rw [hcnt] at hc2
  have hlen:=zeH (c:=32) 4 s hcnt
  have hsz:∀ i q,(Lib.splitB (one 32) 0 4 s)[i]?=some q->q.size+i<=s.size:=fun i q h=>zcx _ s i q h
  have hjt:∀ j0,JT s j0->Lib.splitB (one 32) 0 4 s=(jps j0).map ofL:=fun j0 hj=>(zge hj).2
  generalize Lib.splitB (one 32) 0 4 s=Ps at hc2 hlen hsz hjt
  have spn:(some (⟨w1.heap.size,0,none⟩:Addr))≠none:=by simp
  have spb:∀ a,(some (⟨w1.heap.size,0,none⟩:Addr))=some a->a.block<w2.heap.size:=fun a ha=>by obtain rfl:=Option.some.inj ha; exact hlt2
  generalize (some (⟨w1.heap.size,0,none⟩:Addr))=sp at hc2 spn spb ⊢
  obtain ⟨P0,P1,P2,P3,P4,rfl⟩:∃ a b c d e,Ps=[a,b,c,d,e]:=by
    match Ps,hlen with
    |[a,b,c,d,e],_ => exact ⟨a,b,c,d,e,rfl⟩
  have cellP:∀ {w':World} (i:Nat) (q:ByteArray),Ext w2 w'->([P0,P1,P2,P3,P4]:List ByteArray)[i]?=some q->Go.Sx.cell w' (pIdx sp (i:Int) 1) 0=some (.string q):=fun {w'} i q hx hq=>by
    rw [zae]
    have:=hc2.ext hx i (.string q) (by rw [List.getElem?_map,hq]; rfl)
    simpa using this
  have s0:=hsz 0 P0 rfl
  have s1:=hsz 1 P1 rfl
  have s2:=hsz 2 P2 rfl
  have s3:=hsz 3 P3 rfl
  have s4:=hsz 4 P4 rfl
  refine ⟨spn,by omega,by omega,P0,cellP 0 P0 (Ext.refl _) rfl,fun b7 hb7=>⟨spn,by omega,by omega,P1,cellP 1 P1 (Ext.refl _) rfl,fun w9 x9=>?_⟩⟩
  have hfree:∀ i:Int,zwe [b7] (pIdx sp i 1):=fun i b hb a ha=>by
    simp at hb; subst hb
    cases sp with
    |none => exact absurd rfl spn
    |some x =>
      have:=spb x rfl
      simp [pIdx] at ha
      rw [<- ha,zaV]; omega
  have h9:=zaa x9
  have hw9:=hw2.trans h9
  refine (zrk P1 (by omega) w9 (g.ext hw9)).mono fun v w10 ⟨e10,n1,ev,hv,hcase⟩=>⟨e10,n1,ev,hv,spn,by omega,by omega,P2,⟨cellP 2 P2 (h9.trans e10) rfl,hfree 2⟩,fun w14 x14=>?_⟩
  have hw10:=hw9.trans e10
  have h210:Ext w2 w10:=h9.trans e10
  have hb7w:w.heap.size<=b7:=Nat.le_trans hw2.size hb7
  have hw14:Ext w w14:=zar x14 hw10 (by intro d hd; simp at hd; omega)
  refine (zDk P2 (by omega) w14 (g.ext hw14)).mono fun v w15 ⟨e15,nd,en,hv,hnz,hnok,hncomp⟩=>⟨e15,nd.c,nd.m,nd.g,en,hv,spn,by omega,by omega,P4,⟨cellP 4 P4 h210 rfl,hfree 4⟩,fun w21 x21=>?_⟩
  have hw21:Ext w w21:=zar x21 hw10 (by intro d hd; simp at hd; omega)
  have h221:Ext w2 w21:=zar x21 h210 (by intro d hd; simp at hd; omega)
  have hb0_21:b0<w21.heap.size:=x21.lt b0 (by simp)
  have hb7_21:b7<w21.heap.size:=x21.lt b7 (by simp)
  refine (zwu P4 w21 (g.ext hw21)).mono fun v w22 ⟨e22,t,pa,ca,ea,hv,hWt,hTt,horA,hcompA⟩=>⟨e22,t.k,t.key,t.val,t.n,pa,t.xs.length,ca,ea,hv,fun w31 x31=>?_⟩
  have hw22:Ext w w22:=hw21.trans e22
  have h222:Ext w2 w22:=h221.trans e22
  have hn1:InR .i64 n1\/ev≠.nilIface:=by
    rcases hcase with ⟨_,h⟩|⟨⟨a,b,h⟩,_⟩
    · exact .inl (zg3 h)
    · exact .inr (by rw [h]; simp)
  have parts:∀ j0,JT s j0->P0=j0.user/\P1=ofL (Lib.itoa j0.prio)/\P2=ofL (zbo j0.nd)/\P3=ofL (zqj j0.aft)/\P4=ofL (txt j0.ask):=fun j0 hj=>by
    have:=hjt j0 hj
    simp only [jps,List.map_cons,List.map_nil,List.cons.injEq,and_true] at this
    rw [zb8] at this
    exact this
  have good0:∀ j0,JT s j0->s.size<=3000->ev=.nilIface/\n1=j0.prio/\en=0/\nd=j0.nd/\ea=0/\t=j0.ask:=fun j0 hj hs=>by
    obtain ⟨q0,q1,q2,q3,q4⟩:=parts j0 hj
    have hp:=zg2 (n:=j0.prio) (by have:=hj.ok.prio; omega)
    have ha:=hcompA j0.ask hj.ok.ask hj.nod q4 (by rw [q4,zat]; exact hj.ask)
    have hd:=hncomp j0.nd hj.ok.nd q2
    rcases hcase with ⟨h,h'⟩|⟨_,h'⟩
    · rw [q1,zcl,hp] at h'
      cases h'
      exact ⟨h,rfl,hd.1,hd.2,ha.1,ha.2⟩
    · rw [q1,zcl] at h'
      exact absurd hp (h' _)
  refine zi2 (by kernel_rfl) (hcase.elim (fun h=>.inl h.1) fun h=>.inr h.1) fun tb htb=>⟨Ext.refl _,tb,rfl,fun hbad w34 x34=>?_,fun hgd=>?_⟩
  · refine zgW (zar x34 hw22 (by intro d hd; simp at hd; omega)) (by decide) fun j0 hj hs=>?_
    obtain ⟨a1,_,a3,_,a5,_⟩:=good0 j0 hj hs
    rcases hbad with (h|h)|h
    · rw [htb.2 a1] at h; cases h
    · exact h a3
    · exact h a5
  have hev:ev=.nilIface:=htb.1 hgd.1.1
  have hn1:InR .i64 n1:=hn1.resolve_right fun h=>h hev
  have hnd:=hnok hgd.1.2
  obtain ⟨htC,htn,htx,_⟩:zle t=0/\nod t<=60/\P4=ofL (txt t)/\P4.size<=2000:=by
    rcases horA with ⟨h,_⟩|⟨_,h⟩
    · exact absurd hgd.2 h
    · exact h
  have htl:(txt t).length<=2000:=by rw [<- zat,<- htx]; assumption
  have tail:∀ (xs:List Int) (pf:Option Addr) (cf:Nat) (wt:World),Ext w wt->Fr (fun b=>b=b7) w22 wt->Own w21.heap.size wt zfr 1 pf xs.length cf (xs.map (.int .i64))->(∀ x∈xs,InR .i64 x)->xs.length<=9223372036854775807->(∀ j0,JT s j0->s.size<=3000->xs=j0.aft) ->
      ∀ w55,zag [b7] [] wt w55->FnP Tryz.prog zed #[jv ⟨P0,n1,nd,t,xs⟩ pa ca pf cf] w55 fun v56 w56=>Ext w55 w56/\∃ t57:ByteArray,∃ t58:Int,v56=(.tuple #[(.string t57),(.int .i64 t58)]) /\
        (((t58≠0)\/(t57≠s))->∀ w59,zag [b0,b7] [] wt w59->zFb w s (.tuple #[jv zdt none 0 none 0,.int .i64 3]) w59) /\
        (((t58=0)/\(t57=s))->∀ w59,zag [b0,b7] [] wt w59->zFb w s (.tuple #[jv ⟨P0,n1,nd,t,xs⟩ pa ca pf cf,.int .i64 0]) w59):=by
    intro xs pf cf wt hwt ft o hxr hxl hcx w55 x55
    have hW:WfJ ⟨P0,n1,nd,t,xs⟩:=⟨by show P0.size<=_; omega,hn1,hnd.1.rng,hWt,hxl,hxr⟩
    have key:∀ (S:Nat->Prop),(∀ b,S b->b<w21.heap.size)->∀ w'',Fr S wt w''->IsJ w'' ⟨P0,n1,nd,t,xs⟩ pa ca pf:=fun S hS w'' fw=>by
      refine ⟨hTt (fun b=>b=b7\/S b) (fun b hb=>by rcases hb with rfl|hb; (· exact hb7_21); exact hS b hb) w'' ((ft.mono fun b hb=>.inl hb).tr (fw.mono fun b hb=>.inr hb)),?_⟩
      exact (Own.fr o fw fun a ha hb=>by have:=(o.lt a ha).1; have:=hS _ hb; omega).cells
    have f55:Fr (fun b=>b=b7) wt w55:=zbD x55 (by intro d hd; simp at hd; exact .inl hd)
    have hw55:Ext w w55:=zar x55 hwt (by intro d hd; simp at hd; omega)
    refine (zxf ⟨P0,n1,nd,t,xs⟩ pa ca pf cf w55 (key (fun b=>b=b7) (fun b hb=>by omega) w55 f55) hW (by show nod t<=_; omega) (g.ext hw55)).mono fun v w56 ⟨e56,tt,e,hv,heq,hem,htt⟩=>⟨e56,tt,e,hv,fun hbad w59 x59=>?_,fun hgood w59 x59=>?_⟩
    · refine zgW (zar x59 hwt (by intro d hd; simp at hd; omega)) (by decide) fun j0 hj hs=>?_
      obtain ⟨q0,_⟩:=parts j0 hj
      obtain ⟨_,a2,_,a4,_,a6⟩:=good0 j0 hj hs
      have hxa:=hcx j0 hj hs
      have hj0:(⟨P0,n1,nd,t,xs⟩:Jb)=j0:=by rw [q0,a2,a4,a6,hxa]
      have he0:e=0:=heq.2 (by rw [hj0]; exact hj.ok)
      rcases hbad with h|h
      · exact h he0
      · exact h (by rw [htt he0,hj0]; exact hj.is.symm)
    · refine ⟨zar x59 hwt (by intro d hd; simp at hd; omega),⟨P0,n1,nd,t,xs⟩,pa,ca,pf,cf,0,rfl,hW,fun S hS w'' fw=>?_,.inr ⟨rfl,heq.1 hgood.1,htn,by rw [<- hgood.2]; exact htt hgood.1,htl⟩,fun h=>by omega,fun _=>.inl rfl,fun j0 hj hs=>⟨rfl,?_⟩⟩
      · refine key (fun b=>S b\/b=b0\/b=b7) (fun b hb=>?_) w'' ((zbD x59 (by intro d hd; simp at hd; exact .inl (.inr hd))).tr (fw.mono fun b hb=>.inl hb))
        have:=hw21.size
        rcases hb with hb|rfl|rfl
        · have:=hS b hb; omega
        · exact hb0_21
        · exact hb7_21
      · obtain ⟨q0,_⟩:=parts j0 hj
        obtain ⟨_,a2,_,a4,_,a6⟩:=good0 j0 hj hs
        rw [q0,a2,a4,a6,hcx j0 hj hs]
  refine ⟨spn,by omega,by omega,P3,⟨cellP 3 P3 h222 rfl,hfree 3⟩,fun hne3=>⟨spn,by omega,by omega,P3,⟨cellP 3 P3 h222 rfl,hfree 3⟩,fun w36 x36=>?_⟩,fun heq3 w35 x35=>?_⟩
  rotate_left
  · refine tail [] none 0 w22 hw22 (Fr.refl _ _) Own.nil (fun x hx=>by cases hx) (by simp) (fun j0 hj hs=>?_) w35 x35
    obtain ⟨_,_,_,q3,_⟩:=parts j0 hj
    have:zqj j0.aft=[45]:=zmE (q3.symm.trans heq3)
    rcases zyE this with h|⟨x,h,hx⟩
    · exact h.symm
    · have hup:=zfL hj.ok.up x (by rw [h]; simp)
      rw [zdS (by omega)] at hx
      have:=zcY x.toNat 45 (by rw [hx]; simp)
      exact absurd this (by decide)
  have f36:Fr (fun b=>b=b7) w22 w36:=zbD x36 (by intro d hd; simp at hd; exact .inl hd)
  have hw36:Ext w w36:=zar x36 hw22 (by intro d hd; simp at hd; omega)
  have hb0_36:b0<w36.heap.size:=x36.lt b0 (by simp)
  have hb7_36:b7<w36.heap.size:=x36.lt b7 (by simp)
  refine (zeU 44 P3 (by omega) w36 (g.ext hw36)).mono fun v w37 ⟨e37,hv,hc37,hlt37⟩=>⟨e37,_,_,_,hv,?_⟩
  have zGN:=zeH (c:=44) _ P3 rfl
  have qsz:∀ i q,(Lib.splitB (one 44) 0 (Lib.countB P3 (one 44)) P3)[i]?=some q->q.size+i<=P3.size:=fun i q h=>zcx _ P3 i q h
  have qjt:∀ j0,JT s j0->Lib.countB P3 (one 44)+1=j0.aft.length/\Lib.splitB (one 44) 0 (Lib.countB P3 (one 44)) P3=(j0.aft.map Lib.itoa).map ofL:=fun j0 hj=>by
    obtain ⟨_,_,_,q3,_⟩:=parts j0 hj
    have hne:j0.aft≠[]:=fun h=>hne3 (by rw [q3,h]; rfl)
    rw [q3]
    exact zpX hne
  generalize Lib.splitB (one 44) 0 (Lib.countB P3 (one 44)) P3=Qs at hc37 zGN qsz qjt
  generalize Lib.countB P3 (one 44)=m at zGN qjt ⊢
  have qpn:(some (⟨w36.heap.size,0,none⟩:Addr))≠none:=by simp
  have qpb:∀ a,(some (⟨w36.heap.size,0,none⟩:Addr))=some a->a.block≠b7:=fun a ha=>by obtain rfl:=Option.some.inj ha; show w36.heap.size≠b7; omega
  generalize (some (⟨w36.heap.size,0,none⟩:Addr))=qp at hc37 qpn qpb ⊢
  have hw37:Ext w w37:=hw36.trans e37
  have hb37:b0<w37.heap.size/\b7<w37.heap.size:=by have:=e37.size; omega
  refine ⟨fun k c43 c44 c45 c46 c47 c48 c49 c50 c51 c52 cl52 cc52 c53 cl53 cc53 w'=>(c43=P0/\c44=n1/\c45=nd.c/\c46=nd.m/\c47=nd.g/\c48=t.k/\c49=t.key/\c50=t.val/\c51=t.n/\c52=pa/\cl52=t.xs.length/\cc52=ca)/\0<=k/\k<=(m+1:Nat)/\Ext w w'/\Fr (fun b=>b=b7) w37 w' /\
      ∃ xs:List Int,cl53=xs.length/\xs.length=k.toNat/\Own w37.heap.size w' zfr 1 c53 cl53 cc53 (xs.map (.int .i64))/\∀ (i:Nat) x,xs[i]?=some x->∃ q,Qs[i]?=some q/\Lib.parseIntB 64 q.data.toList=.ok x,fun k _ _ _ _ _ _ _ _ _ _ _ _ _ _ _ _=>(m+1-k).toNat,
    ⟨⟨rfl,rfl,rfl,rfl,rfl,rfl,rfl,rfl,rfl,rfl,rfl,rfl⟩,by omega,by omega,hw37,Fr.refl _ _,[],rfl,rfl,Own.nil,fun i x h=>by simp at h⟩,?_⟩
  rintro k c43 c44 c45 c46 c47 c48 c49 c50 c51 c52 cl52 cc52 c53 cl53 cc53 w54 ⟨⟨rfl,rfl,rfl,rfl,rfl,rfl,rfl,rfl,rfl,rfl,rfl,rfl⟩,hk0,hk1,hw54,f54,xs,rfl,hxk,o54,hxs⟩
  have c54:zau w54 qp (Qs.map Value.string):=hc37.fr f54 fun a ha=>qpb a ha
  refine ⟨fun hlt=>?_,fun hge=>?_⟩
  rotate_left
  · have f22:Fr (fun b=>b=b7) w22 w54:=(f36.tr (zac e37)).tr f54
    have sz:w21.heap.size<=w37.heap.size:=by have:=e22.size; have:=f36.size; have:=e37.size; omega
    refine tail xs c53 cc53 w54 hw54 f22 (o54.weak sz) (fun x hx=>?_) ?_ fun j0 hj hs=>?_
    · obtain ⟨i,hi⟩:=List.getElem?_of_mem hx
      obtain ⟨q,_,hq⟩:=hxs i x hi
      exact zg3 hq
    · have:=o54.le; omega
    · obtain ⟨h1,h2⟩:=qjt j0 hj
      have hkl:xs.length=j0.aft.length:=by omega
      refine List.ext_getElem? fun i=>?_
      rcases Nat.lt_or_ge i xs.length with hi|hi
      · obtain ⟨q,hq,hp⟩:=hxs i xs[i] (List.getElem?_eq_getElem hi)
        rw [h2,List.map_map,List.getElem?_map,List.getElem?_eq_getElem (by omega:i<j0.aft.length)] at hq
        simp only [Option.map_some,Option.some.injEq] at hq
        have hup:=zfL hj.ok.up (j0.aft[i]'(by omega)) (List.getElem_mem _)
        rw [<- hq] at hp
        have hp2:=zg2 (n:=j0.aft[i]'(by omega)) (by omega)
        have hp3:Lib.parseIntB 64 (Lib.itoa (j0.aft[i]'(by omega)))=.ok xs[i]:=hp
        rw [hp2] at hp3
        injection hp3 with h3
        rw [List.getElem?_eq_getElem hi,List.getElem?_eq_getElem (by omega:i<j0.aft.length),h3]
      · rw [List.getElem?_eq_none hi,List.getElem?_eq_none (by omega)]
  obtain ⟨pc,hpc⟩:∃ pc,Qs[k.toNat]?=some pc:=⟨_,List.getElem?_eq_getElem (by omega)⟩
  have hcell:Go.Sx.cell w54 (pIdx qp k 1) 0=some (.string pc):=by
    rw [zae]
    exact c54 _ _ (by simp [hpc])
  have hpsz:=qsz _ _ hpc
  have hqfree:zwe [b7] (pIdx qp k 1):=fun b hb a ha=>by
    simp at hb; subst hb
    cases qp with
    |none => exact absurd rfl qpn
    |some x =>
      simp [pIdx] at ha
      rw [<- ha,zaV]; exact qpb x rfl
  refine ⟨qpn,hk0,hlt,pc,⟨hcell,hqfree⟩,fun w56 x56=>?_⟩
  have hw56:Ext w w56:=zar x56 hw54 (by intro d hd; simp at hd; omega)
  have f56:Fr (fun b=>b=b7) w37 w56:=f54.tr (zbD x56 (by intro d hd; simp at hd; exact .inl hd))
  refine (zrk pc (by omega) w56 (g.ext hw56)).mono fun v w57 ⟨e57,x,ev2,hv,hcase2⟩=>⟨e57,x,ev2,hv,fun w60 h60=>?_⟩
  have hw57:=hw56.trans e57
  refine zi2 (by kernel_rfl) (hcase2.elim (fun h=>.inl h.1) fun h=>.inr h.1) fun tb2 htb2=>⟨Ext.refl _,tb2,rfl,fun hbad w63 x63=>?_,fun hok=>?_⟩
  · refine zgW (zar x63 hw57 (by intro d hd; simp at hd; omega)) (by decide) fun j0 hj hs=>?_
    obtain ⟨h1,h2⟩:=qjt j0 hj
    rw [h2,List.map_map,List.getElem?_map,List.getElem?_eq_getElem (by omega:k.toNat<j0.aft.length)] at hpc
    simp only [Option.map_some,Option.some.injEq] at hpc
    have hup:=zfL hj.ok.up (j0.aft[k.toNat]'(by omega)) (List.getElem_mem _)
    have hp2:=zg2 (n:=j0.aft[k.toNat]'(by omega)) (by omega)
    rcases hcase2 with ⟨h,_⟩|⟨_,h⟩
    · rw [htb2.2 h] at hbad; cases hbad
    · rw [<- hpc] at h
      exact h _ hp2
  · have hx:Lib.parseIntB 64 pc.data.toList=.ok x:=by
      have:=htb2.1 hok
      rcases hcase2 with ⟨_,h⟩|⟨⟨a,b,h⟩,_⟩
      · exact h
      · rw [this] at h; cases h
    have f57:Fr (fun b=>b=b7) w37 w57:=f56.tr (zac e57)
    have o57:Own w37.heap.size w57 zfr 1 c53 xs.length cc53 (xs.map (.int .i64)):=Own.ext (Own.fr o54 (zbD x56 (by intro d hd; simp at hd; exact .inl hd):Fr (fun b=>b=b7) w54 w56) fun a ha hb=>by have:=(o54.lt a ha).1; omega) e57
    refine zg4 zfx o57 f57.size (fun b hb y hy=>by have:=(o57.lt y hy).1; simp at hb; rcases hb with rfl|rfl<;>omega) (by omega) (by omega) fun p' c' w' o' g' _ _=>⟨i64 (by omega),⟨⟨rfl,rfl,rfl,rfl,rfl,rfl,rfl,rfl,rfl,rfl,rfl,rfl⟩,by omega,by omega,?_,?_,xs++[x],by simp,by simp; omega,o',fun i y hy=>?_⟩,by simp only []; omega⟩
    · have hsz37:=hw37.size
      exact g'.ext hw57 (o57.weak hsz37)
    · have hB:Below w37.heap.size w57 w':=⟨g'.by_.os,g'.by_.tape,g'.by_.output,g'.by_.size,fun b hb=>g'.by_.block b (by have:=f57.size; omega) fun h=>by
        cases hp:c53 with
        |none => rw [hp] at h; simp [blk] at h
        |some a => rw [hp] at h; simp [blk] at h; have:=(o57.lt a hp).1; omega⟩
      exact ⟨hB.os.trans f57.os,hB.tape.trans f57.tape,hB.output.trans f57.output,Nat.le_trans f57.size hB.size,fun b hb hn=>(hB.block b hb).trans (f57.block b hb hn)⟩
    · rcases Nat.lt_or_ge i xs.length with hi|hi
      · rw [List.getElem?_append_left hi] at hy
        exact hxs i y hy
      · rw [List.getElem?_append_right hi] at hy
        obtain ⟨hi2,hy2⟩:=List.getElem?_eq_some_iff.1 hy
        simp at hi2 hy2
        obtain rfl:i=k.toNat:=by omega
        exact ⟨pc,hpc,by rw [<- hy2]; exact hx⟩
end Go.Proofs.YtcceeahmcecbnaaGreatDoor
