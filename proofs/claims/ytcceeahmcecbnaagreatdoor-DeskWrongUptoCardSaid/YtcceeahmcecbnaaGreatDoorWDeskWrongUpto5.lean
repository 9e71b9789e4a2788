/- The framework, the program's texts and what is shown of them: part 5. -/
import Derived.Test.YtcceeahmcecbnaaGreatDoorWDeskWrongUpto4
import Derived.Test.YtcceeahmcecbnaaGreatDoorRows
import Derived.Shelf.Spec.TrailingZeros
set_option linter.unusedVariables false
set_option linter.unusedSimpArgs false
set_option maxRecDepth 100000
namespace Go.Proofs.YtcceeahmcecbnaaGreatDoor
open Go.Sx Go.RowKit
theorem zEJ (k:Int) (key val:ByteArray) (n:Int) (l:Nat):zki k key val n l≠5:=by
  unfold zki
  repeat' split
  all_goals omega
theorem zxU:∀ {xs:List AT},(∀ x∈xs,zey x≠5)->zzl xs≠5
  |[],_ => by unfold zzl; omega
  |x::r,h => by
    unfold zzl
    split
    · exact h x (List.mem_cons_self ..)
    · exact zxU fun y hy=>h y (List.mem_cons_of_mem _ hy)
theorem zEK (t:AT):zey t≠5:=by
  refine AT.ind (P:=fun t=>zey t≠5) (fun k key val n xs h=>?_) t
  unfold zey
  split
  · exact zEJ _ _ _ _ _
  · exact zxU h
theorem zEL (t:AT):zlt t≠5:=by
  unfold zlt
  split
  · omega
  · exact zEK t
def zbx (L:List Ht) (i:Int):Nd:=zhK (L.getD i.toNat default).has (L.getD i.toNat default).used
def zEU (L:List Ht) (t:AT) (a:Nd) (i:Nat):Bool:=zvp (atH (L.getD i default)) t&&decide (zjn a (zhK (L.getD i default).has (L.getD i default).used))
def zcs (L:List Ht) (t:AT) (a:Nd) (k:Nat):List Int:=((List.range k).filter (zEU L t a)).map (Int.ofNat ·)
theorem zvY (L:List Ht) (t:AT) (a:Nd) (k:Nat):zcs L t a (k+1)=if zEU L t a k=true then zcs L t a k++[(k:Int)] else zcs L t a k:=by
  unfold zcs
  rw [List.range_succ,List.filter_append,List.map_append]
  by_cases h:zEU L t a k=true<;>simp [h]
theorem znC {L:List Ht} {t:AT} {a:Nd} {k:Nat} {x:Int}:x∈zcs L t a k↔0<=x/\x<k/\zEU L t a x.toNat=true:=by
  unfold zcs
  simp only [List.mem_map,List.mem_filter,List.mem_range]
  constructor
  · rintro ⟨n,⟨h1,h2⟩,rfl⟩
    exact ⟨Int.natCast_nonneg n,by simpa using h1,by simpa using h2⟩
  · rintro ⟨h1,h2,h3⟩
    exact ⟨x.toNat,⟨by omega,h3⟩,Int.toNat_of_nonneg h1⟩
theorem zg5 (L:List Ht) (t:AT) (a:Nd) (k:Nat):(zcs L t a k).length<=k:=by
  unfold zcs
  rw [List.length_map]
  exact Nat.le_trans (List.length_filter_le _ _) (by simp)
theorem zvZ (L:List Ht) (t:AT) (a:Nd) (k:Nat):(zcs L t a k).Pairwise (·<·):=by
  unfold zcs
  rw [List.pairwise_map]
  exact ((List.pairwise_lt_range (n:=k)).filter _).imp fun h=>by simpa using h
def zwo (L:List Ht) (t:AT) (a:Nd):Prop:=zjW L/\zlt t=0/\okN a
theorem zB0 {h:Ht} (hok:zFq h):okN (zhK h.has h.used):=by
  obtain ⟨h1,h2,h3⟩:=hok.2.2.2.1
  obtain ⟨h4,h5,h6⟩:=hok.2.2.2.2.1
  obtain ⟨h7,h8,h9⟩:=hok.2.2.2.2.2
  refine ⟨?_,?_,?_⟩<;>simp only [zhK]<;>omega
theorem zyI {h:Ht} (hok:zFq h) (w:World):FnP Tryz.prog zca #[nv h.has,nv h.used] w fun v w'=>Ext w w'/\v=.tuple #[nv (zhK h.has h.used),.int .i64 0] :=
  (zyj h.has h.used w).mono fun v w' ⟨e,s,f,hv,hs⟩=>⟨e,by
    rcases hs with ⟨_,_,_,rfl,rfl⟩|⟨hno,_⟩|⟨_,_,hno,_⟩
    · exact hv
    · exact absurd ⟨hok.2.2.2.1,hok.2.2.2.2.1⟩ hno
    · exact absurd hok.2.2.2.2.2 hno⟩
theorem Fit_k (p:Option Addr) (c:Nat) (L:List Ht) (h63:(L.length:Int)<=9223372036854775807) (hO:∀ h∈L,zvh h) (t:AT) (px:Option Addr) (cx:Nat) (hW:WfA t) (a:Nd) (w:World) (hL:zi8 w p L) (hT:IsT w t px cx) :
    FnP Tryz.prog zly #[.slice p L.length c,av t px cx,nv a] w fun v w'=>Ext w w'/\∃ q n d e,v=.tuple #[.slice q n d,.int .i64 e]/\e≠5/\(∀ x,q=some x->w.heap.size<=x.block) /\
      ((e≠0/\n=0/\¬ zwo L t a)\/(e=0/\zwo L t a/\n=(zcs L t a L.length).length/\zd4 .i64 w' q (zcs L t a L.length))):=by
  refine zwz p L.length c t.k t.key t.val t.n px t.xs.length cx a.c a.m a.g w _ fun b0 hb0 b1 hb1 w2 h2=>?_
  refine (zrA p c L h63 hO w2 (hL.ext h2)).mono fun v w3 ⟨e3,e,hv,he,h5,_⟩=>⟨e3,e,hv,fun hne w5 h5'=>⟨h5',_,_,_,_,rfl,h5,fun x hx=>by (cases hx),.inl ⟨hne,rfl,fun ho=>hne (he.2 ho.1)⟩⟩,fun h0 w5 h5=>?_⟩
  have hok:=he.1 h0
  refine (znV t px cx w5 (hT.ext h5 _ _ _) hW).mono fun v w6 ⟨e6,hv⟩=>⟨e6,_,hv,fun hne w8 h8=>⟨h8,_,_,_,_,rfl,zEL t,fun x hx=>by (cases hx),.inl ⟨hne,rfl,fun ho=>hne ho.2.1⟩⟩,fun hc w8 h8=>?_⟩
  refine (zd6 a w8).mono fun v w9 ⟨e9,hv⟩=>⟨e9,_,hv,fun hne w11 h11=>⟨h11,_,_,_,_,rfl,(by unfold zxV; split<;>omega),fun x hx=>by (cases hx),.inl ⟨hne,rfl,fun ho=>hne (za3.2 ho.2.2)⟩⟩,fun ha=>?_⟩
  have ha:=za3.1 ha
  refine ⟨fun q l d k w'=>Ext w w'/\0<=k/\k<=L.length/\l=(zcs L t a k.toNat).length/\Own w.heap.size w' zgX 1 q l d ((zcs L t a k.toNat).map (.int .i64))/\∀ b∈[b0,b1],∀ x,q=some x->x.block≠b,
    fun _ _ _ k _=>(L.length-k).toNat,⟨Ext.refl w,by omega,by omega,rfl,Own.nil,fun b _ x hx=>by cases hx⟩,?_⟩
  rintro q l d k w14 ⟨x14,hk0,hk1,rfl,o14,hb14⟩
  refine ⟨fun hlt=>?_,fun hge w15 h15=>⟨x14.trans h15,q,_,d,0,rfl,by omega,fun x hx=>(o14.lt x hx).1,.inr ⟨rfl,⟨hok,hc,ha⟩,?_,?_⟩⟩⟩
  · obtain ⟨qh,dh,hp,hp8,g,hLb⟩:=(hL.ext x14).at hk0 hlt
    have hm:=zap L default (i:=k.toNat) (by omega)
    have hfit:zEU L t a k.toNat=(zvp (atH (L.getD k.toNat default)) t&&decide (zjn a (zhK (L.getD k.toNat default).has (L.getD k.toNat default).used))):=rfl
    generalize hHd:L.getD k.toNat default=H at g hLb hm hfit
    have hoH:=hok.2.1 H hm
    refine ⟨hp,hk0,hlt,hp8,_,g 0 _ rfl,_,_,_,g 1 _ rfl,_,g 2 _ rfl,_,g 3 _ rfl,_,g 4 _ rfl,_,g 5 _ rfl,_,g 6 _ rfl,_,g 7 _ rfl,fun b25 hb25 w26 h26=>?_⟩
    refine (zyI hoH w26).mono fun v w27 ⟨e27,hv⟩=>⟨e27,_,_,_,_,hv,fun b32 hb32 w33 h33=>?_⟩
    refine (zHe t px cx H qh dh (hO H hm).2.1 w33 (hT.ext (x14.trans h33) _ _ _) hW (hLb.ext h33)).mono fun v w34 ⟨e34,hv⟩=>⟨e34,_,_,hv,fun w37 h37=>?_⟩
    rw [if_pos hc]
    refine (zwi a (zhK H.has H.used) w37).mono fun v w38 ⟨e38,tt,e,hv,ht⟩=>⟨e38,_,_,hv,?_⟩
    have ht:tt=decide (zjn a (zhK H.has H.used)):=by
      rcases ht with ⟨_,_,_,h⟩|⟨hno,_⟩
      · exact h
      · exact absurd ⟨ha,zB0 hoH⟩ hno
    subst ht
    have hsucc:=zvY L t a k.toNat
    refine ⟨fun hb w41 x41=>?_,fun hb=>?_⟩
    · have hyes:zEU L t a k.toNat=true:=by rw [hfit,hb.1,hb.2]; rfl
      rw [if_pos hyes] at hsucc
      have hln:=zg5 L t a k.toNat
      have hs14:=x14.size
      have h30:=hok.1
      refine zgz (e:=zgX) (B:=w.heap.size) (ns:=[b0,b1,b25,b32]) ze8 o14 hs14 (fun b hb x hx=>?_) (by omega) (by omega) (fun p' c' w' o' g' hp' hns'=>⟨i64 (by omega),⟨?_,by omega,by omega,?_,?_,fun b hb x hx=>hns' b (by simp at hb ⊢; rcases hb with rfl|rfl<;>simp) x hx⟩,by simp only []; omega⟩) w41 x41
      · have:=o14.lt x hx
        simp at hb
        rcases hb with rfl|rfl|rfl|rfl
        · exact hb14 _ (by simp) x hx
        · exact hb14 _ (by simp) x hx
        · omega
        · omega
      · exact g'.ext x14 o14
      · rw [show (k+1).toNat=k.toNat+1 by omega,hsucc]; simp
      · rw [show (k+1).toNat=k.toNat+1 by omega,hsucc]
        rw [show ((k.toNat:Nat):Int)=k by omega]
        exact o'
    · have hno:zEU L t a k.toNat=false:=by
        rw [hfit]
        rcases hb with hb|hb<;>rw [hb]<;>simp
      rw [hno] at hsucc
      rw [if_neg (by simp)] at hsucc
      refine ⟨i64 (by omega),⟨x14,by omega,by omega,?_,?_,hb14⟩,by simp only []; omega⟩
      · rw [show (k+1).toNat=k.toNat+1 by omega,hsucc]
      · rw [show (k+1).toNat=k.toNat+1 by omega,hsucc]; exact o14
  · rw [show k.toNat=L.length by omega]
  · rw [show k.toNat=L.length by omega] at o14
    exact (o14.ext h15).cells
theorem zAu (p:Option Addr) (c:Nat) (X:List Int) (h63:(X.length:Int)<=9223372036854775807) (hX:X≠[]) (f:Value) (C:Int->Int->Int) (hC:∀ x y z,C x y<0->0<=C z y->0<=C z x) (hR:∀ x,0<=C x x) (w:World) (h:zd4 .i64 w p X)
    (hT:∀ x y,C x y<0->0<=C y x) (hS:∀ x y z,C x y<0->0<=C z y->C x z<0)
    (hf:∀ x∈X,∀ y∈X,∀ w',Ext w w'->zhP Tryz.prog f [.int .i64 x,.int .i64 y] w' fun v w''=>Ext w' w''/\v=.int .i64 (C x y)) :
    FnP Tryz.prog zbP #[.slice p X.length c,f] w fun v w'=>Ext w w'/\∃ m,v=.int .i64 m/\m∈X/\(∀ y∈X,0<=C y m)/\∃ a:Nat,a<X.length/\X.getD a 0=m/\∀ j,j<a->C m (X.getD j 0)<0:=by
  have hlen:0<X.length:=by cases X with|nil=>exact absurd rfl hX|cons=>simp
  refine zf5 p X.length c f w _ ⟨fun hlt=>by omega,fun _=>?_⟩
  have g0:=zd4.idx h (i:=0) (by omega) (by omega)
  have hm0:=zap X 0 (i:=0) (by omega)
  refine ⟨fun hq=>zak g0 (zah.2 hq),by omega,by omega,_,g0,?_⟩
  refine ⟨fun m i w'=>w'=w/\1<=i/\i<=X.length/\m∈X/\(∀ j:Nat,(j:Int)<i->0<=C (X.getD j 0) m)/\∃ a:Nat,(a:Int)<i/\X.getD a 0=m/\∀ j,j<a->C m (X.getD j 0)<0,fun _ i _=>(X.length-i).toNat,⟨rfl,by omega,by omega,hm0,fun j hj=>?_,0,by omega,rfl,fun j hj=>by omega⟩,?_⟩
  · obtain rfl:j=0:=by omega
    exact hR _
  rintro m i w4 ⟨rfl,hi0,hi1,hmm,hall,a,ha,ham,haj⟩
  refine ⟨fun hlt=>?_,fun hge w5 h5=>⟨h5,m,rfl,hmm,fun y hy=>?_,a,by omega,ham,haj⟩⟩
  · have g:=zd4.idx h (i:=i) (by omega) hlt
    have hx:=zap X 0 (i:=i.toNat) (by omega)
    have hp:p≠none:=fun hq=>zak g (zah.2 hq)
    refine ⟨hp,by omega,hlt,_,g,fun w6 h6=>?_⟩
    obtain ⟨fi,cap,hfe,hfp⟩:=hf _ hx m hmm w6 h6
    refine ⟨fi,cap,hfe,hfp.mono fun v w7 ⟨e7,hv⟩=>⟨e7,_,hv,fun hneg=>⟨hp,by omega,hlt,_,g,i64 (by omega),⟨rfl,by omega,by omega,hx,fun j hj=>?_,i.toNat,by omega,rfl,fun j hj=>hS _ _ _ hneg (hall j (by omega))⟩,by simp only []; omega⟩,fun hpos=>⟨i64 (by omega),⟨rfl,by omega,by omega,hmm,fun j hj=>?_,a,by omega,ham,haj⟩,by simp only []; omega⟩⟩⟩
    · by_cases hji:(j:Int)<i
      · exact hC _ _ _ hneg (hall j hji)
      · obtain rfl:j=i.toNat:=by omega
        exact hR _
    · by_cases hji:(j:Int)<i
      · exact hall j hji
      · obtain rfl:j=i.toNat:=by omega
        exact hpos
  · obtain ⟨j,hj,rfl⟩:=List.getElem_of_mem hy
    have:=hall j (by omega)
    simpa [List.getD_eq_getElem?_getD,hj] using this
def zvm (a b:Int):Int:=if a<b then -1 else if b<a then 1 else 0
theorem znW (x y:Int) (w:World):FnP Tryz.prog zbp #[.int .i64 x,.int .i64 y] w fun v w'=>Ext w w'/\v=.int .i64 (zvm x y):=by
  have nan:∀ (x:Int) (w:World),FnP Tryz.prog zcy #[.int .i64 x] w fun v w'=>Ext w w'/\v=.bool false:=fun x w=>zkV x w _ fun w0 h0=>⟨h0,by simp⟩
  refine zjb x y w _ fun w0 h0=>(nan x w0).mono fun v w1 ⟨e1,hv⟩=>⟨e1,_,hv,fun w3 h3=>(nan y w3).mono fun v w4 ⟨e4,hv⟩=>⟨e4,_,hv,fun h=>by (cases h),fun _=>⟨fun h=>by (cases h),fun _=>⟨fun hlt w6 h6=>⟨h6,?_⟩,fun hge=>⟨fun hlt w6 h6=>⟨h6,?_⟩,fun hle w6 h6=>⟨h6,?_⟩⟩⟩⟩⟩⟩
  · unfold zvm; rw [if_pos hlt]
  · unfold zvm; rw [if_neg (by omega),if_pos hlt]
  · unfold zvm; rw [if_neg (by omega),if_neg (by omega)]
theorem Or3_k (p:Option Addr) (c:Nat) (a b d:Int) (w:World) (h:zd4 .i64 w p [a,b,d]):FnP Tryz.prog zh6 #[.slice p 3 c] w fun v w'=>Ext w w'/\v=.int .i64 (if a≠0 then a else if b≠0 then b else d):=by
  refine zr7 p 3 c w _ ?_
  refine ⟨fun k w'=>w'=w/\0<=k/\k<=3/\∀ j:Nat,(j:Int)<k->[a,b,d].getD j 0=0,fun k _=>(3-k).toNat,⟨rfl,by omega,by omega,fun j hj=>by omega⟩,?_⟩
  rintro k w2 ⟨rfl,hk0,hk1,hz⟩
  refine ⟨fun hlt=>?_,fun hge w3 h3=>⟨h3,?_⟩⟩
  · have hlt:k<3:=by simpa using hlt
    have g:=zd4.idx h hk0 (by simpa using hlt)
    refine ⟨fun hq=>zak g (zah.2 hq),hk0,by simpa using hlt,_,g,fun hne w4 h4=>⟨h4,?_⟩,fun he=>⟨i64 (by omega),⟨rfl,by omega,by omega,fun j hj=>?_⟩,by simp only []; omega⟩⟩
    · have:k=0\/k=1\/k=2:=by omega
      rcases this with rfl|rfl|rfl
      · rw [if_pos (by simpa using hne)]; rfl
      · have h0:=hz 0 (by omega)
        rw [if_neg (by simpa using h0),if_pos (by simpa using hne)]; rfl
      · have h0:=hz 0 (by omega)
        have h1:=hz 1 (by omega)
        rw [if_neg (by simpa using h0),if_neg (by simpa using h1)]; rfl
    · by_cases hjk:(j:Int)<k
      · exact hz j hjk
      · obtain rfl:j=k.toNat:=by omega
        exact he
  · obtain rfl:k=3:=by simp at hge; omega
    have h0:=hz 0 (by omega)
    have h1:=hz 1 (by omega)
    have h2:=hz 2 (by omega)
    rw [if_neg (by simpa using h0),if_neg (by simpa using h1)]
    exact congrArg _ (by simpa using h2.symm)
def zvL (a b:Nd):Int:=if zvm a.c b.c≠0 then zvm a.c b.c else if zvm a.m b.m≠0 then zvm a.m b.m else zvm a.g b.g
theorem zeN {a b:Nd}:zvL a b<0↔a.c<b.c\/a.c=b.c/\(a.m<b.m\/a.m=b.m/\a.g<b.g):=by
  unfold zvL zvm
  repeat' split
  all_goals omega
theorem zIN (p1 p:Option Addr) (c:Nat) (L:List Ht) (hok:zjW L) (i:Int) (hi0:0<=i) (hi1:i<L.length) (w:World) (hc:Go.Sx.cell w p1 0=some (.slice p L.length c)) (hL:zi8 w p L) :
    FnP Tryz.prog zcB #[.int .i64 i,.pointer p1] w fun v w'=>Ext w w'/\v=nv (zbx L i):=by
  obtain ⟨q,d,hp,hp8,g,_⟩:=hL.at hi0 hi1
  have hm:=hok.2.1 _ (zap L default (i:=i.toNat) (by omega))
  have hlf:zbx L i=zhK (L.getD i.toNat default).has (L.getD i.toNat default).used:=rfl
  generalize hHd:L.getD i.toNat default=H at g hm hlf
  have g':∀ (o j:Nat) u,(zDH H q d)[o+j]?=some u->Go.Sx.cell w (pAdd (pIdx p i 8) o) j=some u:=fun o j u hu=>by rw [zal]; exact g _ u hu
  have x2:=zak (g' 2 0 _ rfl)
  have x5:=zak (g' 5 0 _ rfl)
  refine zpX i p1 w _ fun b0 hb0=>⟨fun n e w'=>Ext w w'/\zAv w' n (zbx L i),⟨p,L.length,c,hc,hp,hi0,hi1,hp8,x2,_,g' 2 0 _ rfl,_,g' 2 1 _ rfl,_,g' 2 2 _ rfl,p,L.length,c,hc,hp,hi0,hi1,hp8,x5,_,g' 5 0 _ rfl,_,g' 5 1 _ rfl,_,g' 5 2 _ rfl,?_,?_⟩,?_⟩
  · intro w17 h17
    refine (zyI hm w17).mono fun v w18 ⟨e18,hv⟩=>⟨e18,_,_,_,_,hv,fun w23 x23=>?_⟩
    have hb:b0<w23.heap.size:=x23.lt b0 (by simp)
    refine (zcH.nil (ns:=[b0]) (zaa x23)).new_row (by intro v hv; simp at hv; subst hv; rfl) (by simpa using hb) fun p24 w24 H24 e24=>?_
    refine H24.store 0 rfl 0 (zeO _) (by simp) (by simp) (by intro v hv; simp at hv; rcases hv with rfl|rfl|rfl<;>rfl) (by have:=e24.size; simp; omega) fun w25 H25 g25=>⟨H25.ext,?_⟩
    rw [hlf]
    exact (H25.get 0 rfl).cells
  · intro w17 x17
    have hb:b0<w17.heap.size:=x17.lt b0 (by simp)
    refine (zcH.nil (ns:=[b0]) (zaa x17)).new_row (by intro v hv; simp at hv; subst hv; rfl) (by simpa using hb) fun p18 w18 H18 e18 w19 h19=>?_
    refine (zyI hm w19).mono fun v w20 ⟨e20,hv⟩=>⟨e20,_,_,_,_,hv,?_⟩
    refine H18.store 0 rfl 0 (zeO _) (by simp) (by simp) (by intro v hv; simp at hv; rcases hv with rfl|rfl|rfl<;>rfl) (by have:=e18.size; simp; omega) fun w25 H25 g25=>⟨H25.ext,?_⟩
    rw [hlf]
    exact (H25.get 0 rfl).cells
  · rintro n e w4 ⟨x4,hN⟩
    have hN3:=zkO hN
    exact ⟨zak hN3.1,_,hN3.1,_,hN3.2.1,_,hN3.2.2,fun w8 x8=>⟨zvU x8 x4 hb0,rfl⟩⟩
theorem zIO (p14 p1 p:Option Addr) (c:Nat) (L:List Ht) (hok:zjW L) (i:Int) (hi0:0<=i) (hi1:i<L.length) (k:Int) (hk0:0<=k) (hk1:k<L.length) (w:World) (hc:Go.Sx.cell w p1 0=some (.slice p L.length c)) (hL:zi8 w p L)
    (hf:Go.Sx.cell w p14 0=some (.func (.func zcB) #[] #[.pointer p1])) :
    FnP Tryz.prog zgN #[.int .i64 i,.int .i64 k,.pointer p14] w fun v w'=>Ext w w'/\v=.int .i64 (zvL (zbx L i) (zbx L k)):=by
  have call:∀ j:Int,0<=j->j<L.length->∀ w',Ext w w'->zhP Tryz.prog (.func (.func zcB) #[] #[.pointer p1]) [.int .i64 j] w' fun v w''=>Ext w' w''/\v=nv (zbx L j):=fun j h0 h1 w' hx =>
    ⟨zcB,#[.pointer p1],rfl,zIN p1 p c L hok j h0 h1 w' (zaG hx hc) (hL.ext hx)⟩
  have calli:=call i hi0 hi1
  have callk:=call k hk0 hk1
  have vmono:∀ {f:Value} {args:List Value} {w:World} {K K':Value->World->Prop},zhP Tryz.prog f args w K->(∀ v w',K v w'->K' v w')->zhP Tryz.prog f args w K':=fun ⟨f,c,h1,h2⟩ hk=>⟨f,c,h1,h2.mono hk⟩
  have H0:zcH w [] w []:=zcH.nil (Ext.refl w)
  let row:Option Addr->Nd->zm8:=fun p x=>⟨zhG,3,p,1,1,zvn x⟩
  refine zpY i k p14 w _ ⟨fun a b w'=>∃ rs,zcH w [] w' rs/\∃ m n:Nat,rs[m]?=some (row a (zbx L i))/\rs[n]?=some (row b (zbx L k)),⟨_,hf,_,hf,?_⟩,?_⟩
  · repeat' (first
      |exact ⟨_,by assumption,0,1,rfl,rfl⟩
      |exact ⟨_,by assumption,1,0,rfl,rfl⟩
      |(refine (by assumption:zcH w [] _ _).new_row (by intro v hv; simp at hv; subst hv; rfl) (by simp) fun _ _ _ _ => ?_)
      |(refine zcH.store (by assumption) 0 (e:=zhG) (s:=3) rfl 0 (zeO _) (by simp) (by simp) (by intro v hv; simp at hv; rcases hv with rfl|rfl|rfl<;>rfl) (by simp) fun _ _ _ => ?_)
      |(refine zcH.store (by assumption) 1 (e:=zhG) (s:=3) rfl 0 (zeO _) (by simp) (by simp) (by intro v hv; simp at hv; rcases hv with rfl|rfl|rfl<;>rfl) (by simp) fun _ _ _ => ?_)
      |(refine vmono (calli _ (by first|assumption|exact zcH.ext (by assumption))) fun _ _ ⟨ex,hv⟩ => ⟨ex,_,_,_,hv,?_⟩)
      |(refine vmono (callk _ (by first|assumption|exact zcH.ext (by assumption))) fun _ _ ⟨ex,hv⟩ => ⟨ex,_,_,_,hv,?_⟩)
      |(refine ⟨?_,?_⟩)
      |(intro wx hx; have Hx:=zcH.to (w0:=w) (ns:=[]) (by assumption) hx))
  · rintro a b w3 ⟨rs,H3,m,n,hm,hn⟩
    have ca:zAv w3 a (zbx L i):=(H3.get m hm).cells
    have cb:zAv w3 b (zbx L k):=(H3.get n hn).cells
    have ca':=zkO ca
    have cb':=zkO cb
    have z:∀ {p:Option Addr} {o:Nat} {v:Value},Go.Sx.cell w3 p o=some v->Go.Sx.cell w3 (pAdd p o) 0=some v:=fun h=>by rw [zal]; exact h
    refine ⟨zak ca'.1,_,z ca'.1,zak cb'.1,_,z cb'.1,zak ca'.1,_,z ca'.2.1,zak cb'.1,_,z cb'.2.1,zak ca'.1,_,z ca'.2.2,zak cb'.1,_,z cb'.2.2,fun w10 h10=>?_⟩
    refine (znW _ _ w10).mono fun v w11 ⟨e11,hv⟩=>⟨e11,_,hv,fun w13 h13=>?_⟩
    refine (znW _ _ w13).mono fun v w14 ⟨e14,hv⟩=>⟨e14,_,hv,fun w16 h16=>?_⟩
    refine (znW _ _ w16).mono fun v w17 ⟨e17,hv⟩=>⟨e17,_,hv,fun w19 h19=>?_⟩
    refine zci ze8 [.int .i64 (zvm (zbx L i).c (zbx L k).c),.int .i64 (zvm (zbx L i).m (zbx L k).m),.int .i64 (zvm (zbx L i).g (zbx L k).g)] rfl rfl (by intro v hv; simp at hv; rcases hv with rfl|rfl|rfl<;>rfl) (by omega) (by omega) fun w20 o20 e20=>⟨e20,_,_,_,rfl,fun w24 h24=>?_⟩
    refine (Or3_k _ 3 (zvm (zbx L i).c (zbx L k).c) (zvm (zbx L i).m (zbx L k).m) (zvm (zbx L i).g (zbx L k).g) w24 (by have:=((o20 0 (Nat.zero_le _)).ext h24).cells; simpa [Value.cells,zd4] using this)).mono fun v w25 ⟨e25,hv⟩=>⟨e25,_,hv,fun w27 h27=>⟨((H3.ext.trans h19).trans e20).trans h27,?_⟩⟩
    rfl
def zh2 (L:List Ht) (t:AT) (a:Nd) (k:Int):Prop:=k∈zcs L t a L.length/\∀ j∈zcs L t a L.length,0<=zvL (zbx L j) (zbx L k)/\(j<k->zvL (zbx L k) (zbx L j)<0)
theorem zEf {L:List Ht} {t:AT} {a:Nd} {k m:Int} (h:zh2 L t a k) (g:zh2 L t a m):k=m:=by
  have h1:=h.2 m g.1
  have g1:=g.2 k h.1
  rcases Int.lt_trichotomy k m with hl|hl|hl
  · have:=g1.2 hl; have:=h1.1; omega
  · exact hl
  · have:=h1.2 hl; have:=g1.1; omega
theorem Best_k (p:Option Addr) (c:Nat) (L:List Ht) (h63:(L.length:Int)<=9223372036854775807) (hO:∀ h∈L,zvh h) (t:AT) (px:Option Addr) (cx:Nat) (hW:WfA t) (a:Nd) (w:World) (hL:zi8 w p L) (hT:IsT w t px cx) :
    FnP Tryz.prog zjA #[.slice p L.length c,av t px cx,nv a] w fun v w'=>Ext w w'/\∃ k e,v=.tuple #[.int .i64 k,.int .i64 e] /\
      ((e≠0/\k=0/\(e=5↔zwo L t a)/\(zwo L t a->zcs L t a L.length=[]))\/(e=0/\zwo L t a/\zh2 L t a k)):=by
  refine zuf p L.length c t.k t.key t.val t.n px t.xs.length cx a.c a.m a.g w _ fun w0 h0=>?_
  refine zbt (by intro v hv; simp at hv; subst hv; rfl) fun w1 o1 e1=>?_
  generalize hp1:(some ⟨w0.heap.size,0,none⟩:Option Addr)=p1
  rw [hp1] at o1
  have c1:Go.Sx.cell w1 p1 0=some (.slice p L.length c):=(o1 0 (Nat.zero_le _)).cells 0 _ rfl
  intro b2 hb2 b3 hb3
  refine ⟨p,L.length,c,c1,fun w7 x7=>?_⟩
  have x7':=(h0.trans e1).trans (zaa x7)
  refine (Fit_k p c L h63 hO t px cx hW a w7 (hL.ext x7') (hT.ext x7' _ _ _)).mono fun v w8 ⟨e8,q,n,d,e,hv,h5,hnew,hr⟩=>⟨e8,q,n,d,e,hv,?_⟩
  have x8:=x7'.trans e8
  rcases hr with ⟨hne,rfl,hno⟩|⟨rfl,hok,rfl,hI⟩
  · exact ⟨fun _ w13 h13=>⟨x8.trans h13,_,_,rfl,.inl ⟨hne,rfl,⟨fun h=>absurd h h5,fun h=>absurd h hno⟩,fun h=>absurd h hno⟩⟩,fun h=>absurd h hne⟩
  refine ⟨fun h=>absurd rfl h,fun _=>⟨fun hz w13 h13=>⟨x8.trans h13,_,_,rfl,.inl ⟨by omega,rfl,⟨fun _=>hok,fun _=>rfl⟩,fun _=>List.length_eq_zero_iff.1 (by omega)⟩⟩,fun hnz w13 x13=>?_⟩⟩
  have x13':=x8.trans (zaa x13)
  refine (zcH.nil (w0:=w13) (ns:=[b2,b3]) (Ext.refl w13)).new_row (by intro v hv; simp at hv; subst hv; rfl) (x13.lt) fun p14 w14 H14 e14=>?_
  refine H14.store 0 rfl 0 (zeO _) (by simp) (by simp) (by intro v hv; simp at hv; subst hv; rfl) (fun b hb=>Nat.lt_of_lt_of_le (x13.lt b hb) e14.size) fun w15 H15 g15 w16 h16=>?_
  have e15:=H15.ext
  have x16:=(x13'.trans e15).trans h16
  have cf:Go.Sx.cell w16 p14 0=some (.func (.func zcB) #[] #[.pointer p1]):=zaG h16 ((H15.get 0 rfl).cells 0 _ rfl)
  have c16:Go.Sx.cell w16 p1 0=some (.slice p L.length c):=zaG ((((zaa x7).trans e8).trans (zaa x13)).trans (e15.trans h16)) c1
  have hln:=zg5 L t a L.length
  refine (zAu q d (zcs L t a L.length) (by omega) (by intro h; rw [h] at hnz; simp at hnz) _ (fun x y=>zvL (zbx L x) (zbx L y)) (fun x y z h1 h2=>?_) (fun x=>?_) w16 (hI.ext (((zaa x13).trans e15).trans h16)) (fun x y h1=>?_) (fun x y z h1 h2=>?_) fun x hx y hy w' hx'=>?_).mono fun v w17 ⟨e17,m,hv,hm,hall,a',ha',ham,haj⟩=>⟨e17,m,hv,fun w19 h19=>⟨(x13'.trans e15).trans h19,_,_,rfl,.inr ⟨rfl,hok,hm,fun j hj=>⟨hall j hj,fun hjm=>?_⟩⟩⟩⟩
  · have h1:=zeN.1 h1
    have h2:¬ zvL (zbx L z) (zbx L y)<0:=by omega
    rw [zeN] at h2
    have h3:¬ zvL (zbx L z) (zbx L x)<0:=by rw [zeN]; omega
    show 0<=zvL (zbx L z) (zbx L x)
    omega
  · have:¬ zvL (zbx L x) (zbx L x)<0:=by rw [zeN]; omega
    show 0<=zvL (zbx L x) (zbx L x)
    omega
  · have h1:=zeN.1 h1
    have:¬ zvL (zbx L y) (zbx L x)<0:=by rw [zeN]; omega
    show 0<=zvL (zbx L y) (zbx L x)
    omega
  · have h1:=zeN.1 h1
    have h2:¬ zvL (zbx L z) (zbx L y)<0:=by omega
    rw [zeN] at h2
    show zvL (zbx L x) (zbx L z)<0
    rw [zeN]
    omega
  · have hx1:=znC.1 hx
    have hy1:=znC.1 hy
    exact ⟨zgN,#[.pointer p14],rfl,zIO p14 p1 p c L hok.1 x hx1.1 hx1.2.1 y hy1.1 hy1.2.1 w' (zaG hx' c16) (hL.ext (x16.trans hx')) (zaG hx' cf)⟩
  · obtain ⟨b,hb,rfl⟩:=List.getElem_of_mem hj
    have hbg:(zcs L t a L.length).getD b 0=(zcs L t a L.length)[b]:=by simp [List.getD_eq_getElem?_getD,hb]
    have hba:b<a':=by
      rcases Nat.lt_or_ge b a' with h|h
      · exact h
      exfalso
      have hs:=zvZ L t a L.length
      have ham':(zcs L t a L.length)[a']=m:=by rw [<- ham]; simp [List.getD_eq_getElem?_getD,ha']
      rcases Nat.lt_or_ge a' b with h2|h2
      · have:=(List.pairwise_iff_getElem.1 hs) a' b ha' hb h2
        omega
      · obtain rfl:a'=b:=by omega
        omega
    have:=haj b hba
    rw [hbg] at this
    exact this
theorem zDU (p:Option Addr) (c:Nat) (X:List Int) (h63:(X.length:Int)<=9223372036854775807) (f:Value) (Pr:Int->Bool) (w:World) (h:zd4 .i64 w p X)
    (hf:∀ x∈X,∀ w',Ext w w'->zhP Tryz.prog f [.int .i64 x] w' fun v w''=>Ext w' w''/\v=.bool (Pr x)) :
    FnP Tryz.prog zbA #[.slice p X.length c,f] w fun v w'=>Ext w w'/\∃ t,v=.int .i64 t/\(0<=t↔∃ x∈X,Pr x=true):=by
  refine zfd p X.length c f w _ ?_
  refine ⟨fun k w'=>w'=w/\0<=k/\k<=X.length/\∀ j:Nat,(j:Int)<k->Pr (X.getD j 0)=false,fun k _=>(X.length-k).toNat,⟨rfl,by omega,by omega,fun j hj=>by omega⟩,?_⟩
  rintro k w ⟨rfl,hk0,hk1,hno⟩
  refine ⟨fun hlt=>?_,fun hge w4 h4=>⟨h4,_,rfl,?_⟩⟩
  · have g:=zd4.idx h hk0 hlt
    refine ⟨fun hq=>zak g (zah.2 hq),hk0,hlt,_,g,fun w4 h4=>?_⟩
    obtain ⟨fi,cap,hfe,hfp⟩:=hf _ (zap X 0 (i:=k.toNat) (by omega)) w4 h4
    refine ⟨fi,cap,hfe,hfp.mono fun v w5 ⟨e5,hv⟩=>⟨e5,_,hv,fun hyes w9 h9=>⟨h9,_,rfl,fun _=>⟨_,zap X 0 (by omega),hyes⟩,fun _=>hk0⟩,fun hn=>⟨i64 (by omega),⟨rfl,by omega,by omega,fun j hj=>?_⟩,by simp only []; omega⟩⟩⟩
    by_cases hjk:(j:Int)<k
    · exact hno j hjk
    · obtain rfl:j=k.toNat:=by omega
      exact hn
  · constructor
    · intro h; omega
    · rintro ⟨x,hm,hx⟩
      obtain ⟨j,hj,rfl⟩:=List.getElem_of_mem hm
      have:=hno j (by omega)
      rw [show X.getD j 0=X[j] by simp [List.getD_eq_getElem?_getD,hj],hx] at this
      cases this
theorem znX (p:Option Addr) (c:Nat) (X:List Int) (h63:(X.length:Int)<=9223372036854775807) (f:Value) (Pr:Int->Bool) (w:World) (h:zd4 .i64 w p X)
    (hf:∀ x∈X,∀ w',Ext w w'->zhP Tryz.prog f [.int .i64 x] w' fun v w''=>Ext w' w''/\v=.bool (Pr x)) :
    FnP Tryz.prog zaN #[.slice p X.length c,f] w fun v w'=>Ext w w'/\∃ b:Bool,v=.bool b/\(b=true↔∃ x∈X,Pr x=true):=by
  refine zeg p X.length c f w _ ?_
  intro w1 h1
  refine (zDU p c X h63 f Pr w1 (h.ext h1) fun x hx w' hw=>hf x hx w' (h1.trans hw)).mono fun v w2 ⟨e2,t,hv,ht⟩=>⟨e2,t,hv,fun w4 h4=>⟨h4,_,rfl,?_⟩⟩
  rw [decide_eq_true_iff]; exact ht
theorem getD_set_ne {α:Type} (L:List α) (d x:α) {i k:Nat} (h:i≠k):(L.set i x).getD k d=L.getD k d:=by
  rw [List.getD_eq_getElem?_getD,List.getElem?_set_ne h,List.getD_eq_getElem?_getD]
structure Th where
  b:Nat
  prio:Int
  id:Int
  born:Int
  deriving DecidableEq
def th0:Th:=⟨0,0,0,0⟩
def ahead (t u:Th):Prop:=u.prio<t.prio\/t.prio=u.prio/\t.born<u.born
instance (t u:Th):Decidable (ahead t u):=by unfold ahead; infer_instance
theorem zjH {t u:Th} (h:ahead t u):¬ ahead u t:=by unfold ahead at *; omega
theorem zn2 {t u v:Th} (h:ahead t u) (k:ahead u v):ahead t v:=by unfold ahead at *; omega
theorem zdu {t u v:Th} (h:¬ ahead t u) (k:¬ ahead u v):¬ ahead t v:=by unfold ahead at *; omega
theorem zt1 {t u v:Th} (h:¬ ahead t u) (k:ahead v u):¬ ahead t v:=fun h'=>h (zn2 h' k)
def at_ (H:List Th) (k:Nat):Th:=H.getD k th0
def swp (H:List Th) (i j:Nat):List Th:=(H.set i (at_ H j)).set j (at_ H i)
theorem zC6 (H:List Th) (i j:Nat):(swp H i j).length=H.length:=by simp [swp]
theorem zGq (H:List Th) (i k:Nat) (x:Th) (hi:i<H.length):at_ (H.set i x) k=if k=i then x else at_ H k:=by
  unfold at_
  rw [List.getD_eq_getElem?_getD,List.getD_eq_getElem?_getD,List.getElem?_set]
  by_cases h:i=k
  · subst h; simp [hi]
  · rw [if_neg h,if_neg (Ne.symm h)]
theorem zpj (H:List Th) {i j:Nat} (hi:i<H.length) (hj:j<H.length) (k:Nat):at_ (swp H i j) k=if k=j then at_ H i else if k=i then at_ H j else at_ H k:=by
  unfold swp
  rw [zGq _ _ _ _ (by simpa using hj),zGq _ _ _ _ hi]
theorem znQ (H:List Th) {i j:Nat} (hi:i<H.length) (hj:j<H.length):(swp H i j).Perm H:=by
  unfold swp at_
  rw [List.getD_eq_getElem?_getD,List.getD_eq_getElem?_getD,List.getElem?_eq_getElem hi,List.getElem?_eq_getElem hj]
  exact List.set_set_perm hi hj
theorem zAS (H:List Th) {k:Nat} (h:k<H.length):at_ H k∈H:=zap H th0 h
theorem zGM {H:List Th} {t:Th} (h:t∈H):∃ k,k<H.length/\at_ H k=t:=by
  obtain ⟨k,hk⟩:=List.mem_iff_getElem?.1 h
  exact ⟨k,(List.getElem?_eq_some_iff.1 hk).1,by unfold at_; rw [List.getD_eq_getElem?_getD,hk]; rfl⟩
def par (k:Nat):Nat:=(k-1)/2
def Hp (H:List Th) (n:Nat):Prop:=∀ k,1<=k->k<n->¬ ahead (at_ H k) (at_ H (par k))
def Up (H:List Th) (n j:Nat):Prop:=(∀ k,1<=k->k<n->k≠j->¬ ahead (at_ H k) (at_ H (par k)))/\(1<=j->∀ k,1<=k->k<n->par k=j->¬ ahead (at_ H k) (at_ H (par j)))
def Dn (H:List Th) (n i0 i:Nat):Prop:=(∀ k,1<=k->k<n->par k≠i->(k≠i\/i≠i0)->¬ ahead (at_ H k) (at_ H (par k)))/\(1<=i->∀ k,1<=k->k<n->par k=i->¬ ahead (at_ H k) (at_ H (par i)))
theorem zDj {H:List Th} {n:Nat} (h:Up H n 0):Hp H n:=fun k h1 hn=>h.1 k h1 hn (by omega)
theorem zJy {H:List Th} {n j:Nat} (h:Up H n j) (hs:¬ ahead (at_ H j) (at_ H (par j))):Hp H n:=fun k h1 hn=>by
  by_cases hk:k=j
  · rw [hk]; exact hs
  · exact h.1 k h1 hn hk
theorem zJx {H:List Th} {n j:Nat} (hl:n<=H.length) (hj:j<n) (h1:1<=j) (h:Up H n j) (ha:ahead (at_ H j) (at_ H (par j))):Up (swp H (par j) j) n (par j):=by
  have hp:par j<j:=by unfold par; omega
  have sa:=zpj H (i:=par j) (j:=j) (by omega) (by omega)
  refine ⟨fun k k1 kn hk=>?_,fun hp1 k k1 kn hk=>?_⟩
  · rw [sa k,sa (par k)]
    by_cases hkj:k=j
    · subst hkj
      rw [if_pos rfl,if_neg (by omega),if_pos rfl]
      exact zjH ha
    · rw [if_neg hkj,if_neg hk]
      by_cases hpk:par k=j
      · rw [if_pos hpk]; exact h.2 h1 k k1 kn hpk
      · rw [if_neg hpk]
        by_cases hpp:par k=par j
        · rw [if_pos hpp]
          have:=h.1 k k1 kn hkj
          rw [hpp] at this
          exact zt1 this ha
        · rw [if_neg hpp]; exact h.1 k k1 kn hkj
  · have hpp:par (par j)<par j:=by unfold par at *; omega
    have e:=h.1 (par j) hp1 (by omega) (by omega)
    rw [sa k,sa (par (par j)),if_neg (show ¬ par (par j)=j by omega),if_neg (show ¬ par (par j)=par j by omega)]
    by_cases hkj:k=j
    · rw [if_pos hkj]; exact e
    · rw [if_neg hkj]
      have hkp:k≠par j:=fun h=>by rw [h] at hk; omega
      rw [if_neg hkp]
      have:=h.1 k k1 kn hkj
      rw [hk] at this
      exact zdu this e
theorem zH0 {H:List Th} {n i0 i j:Nat} (hl:n<=H.length) (hj:j<n) (h1:1<=j) (hi:par j=i) (hi0:i0<=i) (h:Dn H n i0 i) (ha:ahead (at_ H j) (at_ H i))
    (hs:∀ k,1<=k->k<n->par k=i->¬ ahead (at_ H k) (at_ H j)):Dn (swp H i j) n i0 j:=by
  have hij:i<j:=by subst hi; unfold par; omega
  have sa:=zpj H (i:=i) (j:=j) (by omega) (by omega)
  refine ⟨fun k k1 kn hk _=>?_,fun _ k k1 kn hk=>?_⟩
  · rw [sa k,sa (par k),if_neg (show ¬ par k=j from hk)]
    by_cases hkj:k=j
    · subst hkj
      rw [if_pos rfl,if_pos hi]
      exact zjH ha
    · rw [if_neg hkj]
      by_cases hki:k=i
      · rw [if_pos hki]
        subst hki
        have hpk:par k≠k:=by unfold par; omega
        rw [if_neg hpk]
        exact h.2 k1 j h1 hj hi
      · rw [if_neg hki]
        by_cases hpi:par k=i
        · rw [if_pos hpi]; exact hs k k1 kn hpi
        · rw [if_neg hpi]; exact h.1 k k1 kn hpi (.inl hki)
  · have hkj:k≠j:=fun he=>by subst he; unfold par at hk; omega
    have hki:k≠i:=fun he=>by subst he; unfold par at hk; omega
    rw [hi,sa k,sa i,if_neg hkj,if_neg hki,if_neg (by omega),if_pos rfl]
    have:=h.1 k k1 kn (by rw [hk]; omega) (.inl hki)
    rw [hk] at this
    exact this
theorem zrs {H:List Th} {n i0 i:Nat} (h:Dn H n i0 i) (hi:i≠i0) (hs:∀ k,1<=k->k<n->par k=i->¬ ahead (at_ H k) (at_ H i)):Hp H n:=fun k k1 kn=>by
  by_cases hp:par k=i
  · rw [hp]; exact hs k k1 kn hp
  · exact h.1 k k1 kn hp (.inr hi)
theorem ztg {H:List Th} {n i:Nat} (h:Dn H n i i) (hs:∀ k,1<=k->k<n->par k=i->¬ ahead (at_ H k) (at_ H i)):Up H n i:=by
  refine ⟨fun k k1 kn hk=>?_,h.2⟩
  by_cases hp:par k=i
  · rw [hp]; exact hs k k1 kn hp
  · exact h.1 k k1 kn hp (.inl hk)
theorem zEy {H G:List Th} {n i:Nat} (h:Hp G n) (he:∀ k,k<n->k≠i->at_ H k=at_ G k) (hi:i<n):Dn H n i i:=by
  refine ⟨fun k k1 kn hp hk=>?_,fun i1 k k1 kn hp=>?_⟩
  · have hki:k≠i:=hk.resolve_right fun h=>h rfl
    rw [he k kn hki,he (par k) (by unfold par; omega) hp]
    exact h k k1 kn
  · have hki:k≠i:=fun e=>by subst e; unfold par at hp; omega
    have hpp:par i≠i:=by unfold par; omega
    rw [he k kn hki,he (par i) (by unfold par; omega) hpp]
    have a1:=h k k1 kn
    rw [hp] at a1
    exact zdu a1 (h i i1 hi)
theorem zF9 {H:List Th} {n:Nat} (h:Hp H n):Up H (n+1) n:=by
  refine ⟨fun k k1 kn hk=>h k k1 (by omega),fun n1 k k1 kn hp=>?_⟩
  unfold par at hp; omega
theorem zE3 {H:List Th} {n:Nat} (h:Hp H n):∀ k,k<n->¬ ahead (at_ H k) (at_ H 0):=by
  intro k
  induction k using Nat.strongRecOn with
  |ind k ih =>
    intro hk
    by_cases h0:k=0
    · subst h0; unfold ahead; omega
    · exact zdu (h k (by omega) hk) (ih (par k) (by unfold par; omega) (by unfold par; omega))
theorem zIA {H:List Th} {m n:Nat} (h:Hp H n) (hm:m<=n):Hp H m:=fun k k1 km=>h k k1 (by omega)
theorem zx2 {H G:List Th} {n:Nat} (h:Hp G n) (he:∀ k,k<n->at_ H k=at_ G k):Hp H n:=fun k k1 kn=>by
  rw [he k kn,he (par k) (by unfold par; omega)]; exact h k k1 kn
theorem zpI:zfu Tryz.prog zdR=some (za2,1,8,.pointer none):=by kernel_rfl
def thc (t:Th) (k:Nat):List Value:=[.int .i64 t.prio,.int .i64 t.id,.int .i64 t.born,.int .i64 (k:Int)]
def ptr (b:Nat):Option Addr:=some ⟨b,0,none⟩
def pv (t:Th):Value:=.pointer (ptr t.b)
theorem zaF (b:Nat):ptr b≠none:=by simp [ptr]
theorem zbS {a b:Nat} (h:a≠b):zbz (ptr a) (ptr b):=fun x y hx hy=>by cases hx; cases hy; exact h
theorem ziT {a:Nat} {p:Option Addr} (h:∀ x,p=some x->a≠x.block):zbz (ptr a) p:=fun x y hx hy=>by cases hx; exact h y hy
def ziR (qb:Nat) (p:Option Addr) (H:List Th) (b:Nat):Prop:=b=qb\/(∃ a,p=some a/\a.block=b)\/∃ t∈H,t.b=b
theorem zon {qb:Nat} {p:Option Addr} {H G:List Th} (h:H.Perm G) (b:Nat):ziR qb p H b↔ziR qb p G b:=by
  unfold ziR
  constructor<;>rintro (h1|h1|⟨t,ht,h1⟩)
  · exact .inl h1
  · exact .inr (.inl h1)
  · exact .inr (.inr ⟨t,h.mem_iff.1 ht,h1⟩)
  · exact .inl h1
  · exact .inr (.inl h1)
  · exact .inr (.inr ⟨t,h.mem_iff.2 ht,h1⟩)
structure QI (B:Nat) (w:World) (qb:Nat) (x y:Value) (p:Option Addr) (c:Nat) (H:List Th):Prop where
  slot:Own B w zkn 3 (ptr qb) 1 1 [.slice p H.length c,x,y]
  arr:Own B w za2 1 p H.length c (H.map pv)
  th:∀ k,k<H.length->Own B w zaj 4 (ptr (at_ H k).b) 1 1 (thc (at_ H k) k)
  inj:∀ i k,i<H.length->k<H.length->(at_ H i).b=(at_ H k).b->i=k
  aq:∀ i,i<H.length->(at_ H i).b≠qb
  ap:∀ a,p=some a->a.block≠qb/\∀ i,i<H.length->(at_ H i).b≠a.block
section
variable {B qb:Nat} {x y:Value} {p:Option Addr} {c:Nat} {H:List Th} {w:World}
theorem QI.ext {w':World} (q:QI B w qb x y p c H) (h:Ext w w'):QI B w' qb x y p c H:=⟨q.slot.ext h,q.arr.ext h,fun k hk=>(q.th k hk).ext h,q.inj,q.aq,q.ap⟩
theorem QI.fr {S:Nat->Prop} {w':World} (q:QI B w qb x y p c H) (h:Fr S w w') (hs:∀ b,ziR qb p H b->¬ S b):QI B w' qb x y p c H :=
  ⟨q.slot.fr h fun a ha=>by cases ha; exact hs _ (.inl rfl),q.arr.fr h fun a ha=>hs _ (.inr (.inl ⟨a,ha,rfl⟩)),fun k hk=>(q.th k hk).fr h fun a ha=>by cases ha; exact hs _ (.inr (.inr ⟨_,zAS H hk,rfl⟩)),q.inj,q.aq,q.ap⟩
theorem QI.foot (q:QI B w qb x y p c H) {b:Nat} (h:ziR qb p H b):B<=b/\b<w.heap.size:=by
  rcases h with rfl|⟨a,ha,rfl⟩|⟨t,ht,rfl⟩
  · exact q.slot.lt _ rfl
  · exact q.arr.lt a ha
  · obtain ⟨k,hk,rfl⟩:=zGM ht
    exact (q.th k hk).lt _ rfl
theorem QI.ne (q:QI B w qb x y p c H) (h:0<H.length):p≠none:=q.arr.ne1 h (by omega)
theorem map_at {i:Nat} (h:i<H.length):(H.map pv)[i]?=some (pv (at_ H i)):=by
  unfold at_
  rw [List.getElem?_map,List.getElem?_eq_getElem h,List.getD_eq_getElem?_getD,List.getElem?_eq_getElem h]; rfl
theorem zn4 {e:TypeId} {n:Nat} (o:Own B w e 1 p n c (H.map pv)) {i:Int} (h0:0<=i) (h:i.toNat<H.length):cell w (pIdx p i 1) 0=some (.pointer (ptr (at_ H i.toNat).b)):=by
  rw [zad]
  have:=o.cells (i.toNat*1+0) (pv (at_ H i.toNat)) (by rw [Nat.mul_one,Nat.add_zero]; exact map_at h)
  exact this
theorem zuQ {e:TypeId} {n:Nat} {q:Option Addr} {xs:List Value} {v:Value} {ns:List Nat} {i:Int} {K:World->Prop} (ho:Own B w e 1 q n c xs) (hi:i.toNat<xs.length) (h1:v.oneCell'=true) (hns:∀ b∈ns,∀ x,q=some x->x.block≠b)
    (hk:∀ w',Own B w' e 1 q n c (xs.set i.toNat v)->zb5 w w' q q->K w'):zam w (pIdx q i 1) [v] ns K :=
  zaR ho (by rw [zsh,Nat.mul_one]) (by simp; omega) (by simp) (by simpa using h1) hns hk
theorem zHE {t u:Th} {i k:Nat} (ht:Own B w zaj 4 (ptr t.b) 1 1 (thc t i)) (hu:Own B w zaj 4 (ptr u.b) 1 1 (thc u k)) :
    FnP Tryz.prog zc2 #[.pointer (ptr t.b),.pointer (ptr u.b)] w fun v w'=>Ext w w'/\v=.bool (decide (ahead t u)):=by
  refine zje (ptr t.b) (ptr u.b) w _ ?_
  unfold zeG
  simp only [zaK]
  have nt:=zaF t.b
  have nu:=zaF u.b
  refine ⟨nt,nt,nt,_,ht.cellAt (i:=0) rfl,nu,nu,nu,_,hu.cellAt (i:=0) rfl,fun _=>nt,fun _=>nt,fun _=>nt,fun hlt w2 h2=>⟨h2,?_⟩,
    fun hle=>⟨_,ht.cellAt (i:=0) rfl,nu,nu,nu,_,hu.cellAt (i:=0) rfl,fun _=>nt,fun _=>nt,fun he=>⟨_,ht.cellAt0 (i:=2) rfl,nu,nu,_,hu.cellAt0 (i:=2) rfl,fun w6 h6=>⟨h6,?_⟩⟩,fun hne w4 h4=>⟨h4,?_⟩⟩⟩
  · rw [decide_eq_true (show ahead t u from .inl hlt)]
  · congr 1
    refine decide_eq_decide.2 ?_
    unfold ahead; omega
  · rw [decide_eq_false]
    unfold ahead; omega
theorem zye (q:QI B w qb x y p c H) {i k:Int} (i0:0<=i) (hi:i<H.length) (k0:0<=k) (hk:k<H.length) :
    FnP Tryz.prog zes #[.slice p H.length c,.int .i64 i,.int .i64 k] w fun v w'=>Ext w w'/\v=.bool (decide (ahead (at_ H i.toNat) (at_ H k.toNat))):=by
  have hp:=q.ne (by omega)
  refine zmc p H.length c i k w _ ⟨hp,i0,hi,_,zn4 q.arr i0 (by omega),hp,k0,hk,_,zn4 q.arr k0 (by omega),fun w2 h2=>?_⟩
  exact (zHE ((q.th i.toNat (by omega)).ext h2) ((q.th k.toNat (by omega)).ext h2)).mono fun v w3 ⟨e3,qhv⟩=>⟨e3,_,qhv,fun w5 h5=>⟨h5,rfl⟩⟩
theorem len_k:FnP Tryz.prog ze1 #[.slice p H.length c] w fun v w'=>Ext w w'/\v=.int .i64 H.length :=
  znf p H.length c w _ fun w0 h0=>⟨h0,rfl⟩
theorem zC5 (q:QI B w qb x y p c H) {i k:Int} (i0:0<=i) (hi:i<H.length) (k0:0<=k) (hk:k<H.length) :
    FnP Tryz.prog zeu #[.slice p H.length c,.int .i64 i,.int .i64 k] w fun v w'=>v=.tuple #[]/\QI B w' qb x y p c (swp H i.toNat k.toNat)/\Fr (ziR qb p H) w w':=by
  have hp:=q.ne (by omega)
  obtain ⟨a,rfl⟩:∃ a,p=some a:=by cases p with|none=>exact absurd rfl hp|some a=>exact ⟨a,rfl⟩
  obtain ⟨aq',ath⟩:=q.ap a rfl
  have hni:i.toNat<H.length:=by omega
  have hnk:k.toNat<H.length:=by omega
  refine zme (some a) H.length c i k w _ ⟨hp,k0,hk,_,zn4 q.arr k0 hnk,hp,i0,hi,_,zn4 q.arr i0 hni,hp,i0,hi,?_⟩
  refine zuQ q.arr (by simpa using hni) rfl (by simp) fun w2 o2 g2=>⟨hp,k0,hk,zuQ o2 (by simpa using hnk) rfl (by simp) fun w3 o3 g3=>?_⟩
  have e3:((H.map pv).set i.toNat (.pointer (ptr (at_ H k.toNat).b))).set k.toNat (.pointer (ptr (at_ H i.toNat).b))=(swp H i.toNat k.toNat).map pv:=by unfold swp; rw [List.map_set,List.map_set]; rfl
  rw [e3] at o3
  have hl:=zC6 H i.toNat k.toNat
  have th3:∀ m,m<H.length->Own B w3 zaj 4 (ptr (at_ H m).b) 1 1 (thc (at_ H m) m):=fun m hm =>
    ((q.th m hm).st (ziT fun x hx=>by cases hx; exact ath m hm) g2).st (ziT fun x hx=>by cases hx; exact ath m hm) g3
  have ci:=zn4 o3 i0 (by omega)
  have ck:=zn4 o3 k0 (by omega)
  rw [zpj H hni hnk] at ci ck
  rw [if_pos rfl] at ck
  have ci':cell w3 (pIdx (some a) i 1) 0=some (.pointer (ptr (at_ H k.toNat).b)):=by
    rw [ci]; by_cases h:i.toNat=k.toNat
    · rw [if_pos h,h]
    · rw [if_neg h,if_pos rfl]
  refine ⟨hp,i0,hi,_,ci',hp,k0,hk,_,ck,zaF _,zaF _,?_⟩
  refine zb7 (th3 k.toNat hnk) (by simp [thc]) rfl (by simp) fun w4 o4 g4=>⟨zaF _,zaF _,?_⟩
  have o4':Own B w4 zaj 4 (ptr (at_ H k.toNat).b) 1 1 (thc (at_ H k.toNat) i.toNat):=by
    have:(thc (at_ H k.toNat) k.toNat).set 3 (.int .i64 i)=thc (at_ H k.toNat) i.toNat:=by simp only [thc,List.set_cons_succ,List.set_cons_zero]; rw [Int.toNat_of_nonneg i0]
    rw [<- this]; exact o4
  have h5:Own B w4 zaj 4 (ptr (at_ H i.toNat).b) 1 1 (thc (at_ H i.toNat) i.toNat):=by
    by_cases h:i.toNat=k.toNat
    · rw [<- h] at o4'; exact o4'
    · exact (th3 i.toNat hni).st (zbS fun he=>h (q.inj _ _ hni hnk he)) g4
  refine zb7 h5 (by simp [thc]) rfl (by simp) fun w5 o5 g5=>?_
  have o5':Own B w5 zaj 4 (ptr (at_ H i.toNat).b) 1 1 (thc (at_ H i.toNat) k.toNat):=by
    have:(thc (at_ H i.toNat) i.toNat).set 3 (.int .i64 k)=thc (at_ H i.toNat) k.toNat:=by simp only [thc,List.set_cons_succ,List.set_cons_zero]; rw [Int.toNat_of_nonneg k0]
    rw [<- this]; exact o5
  intro w8 h8
  have sa:=zpj H hni hnk
  have mem:∀ m,m<H.length->∃ m',m'<H.length/\at_ (swp H i.toNat k.toNat) m=at_ H m'/\(m'=if m=k.toNat then i.toNat else if m=i.toNat then k.toNat else m):=fun m hm=>by
    rw [sa m]
    by_cases h1:m=k.toNat
    · rw [if_pos h1,if_pos h1]; exact ⟨_,hni,rfl,rfl⟩
    · rw [if_neg h1,if_neg h1]
      by_cases h2:m=i.toNat
      · rw [if_pos h2,if_pos h2]; exact ⟨_,hnk,rfl,rfl⟩
      · rw [if_neg h2,if_neg h2]; exact ⟨_,hm,rfl,rfl⟩
  have out:∀ m,m<H.length->m≠i.toNat->m≠k.toNat->Own B w5 zaj 4 (ptr (at_ H m).b) 1 1 (thc (at_ H m) m):=fun m hm h1 h2 =>
    ((th3 m hm).st (zbS fun he=>h2 (q.inj _ _ hm hnk he)) g4).st (zbS fun he=>h1 (q.inj _ _ hm hni he)) g5
  refine ⟨rfl,QI.ext ⟨?_,?_,fun m hm=>?_,fun m n hm hn he=>?_,fun m hm=>?_,fun b hb=>⟨?_,fun m hm=>?_⟩⟩ h8,?_⟩
  · rw [hl]
    have s3:=(q.slot.st (ziT fun x hx=>by cases hx; exact Ne.symm aq') g2).st (ziT fun x hx=>by cases hx; exact Ne.symm aq') g3
    exact (s3.st (zbS (Ne.symm (q.aq _ hnk))) g4).st (zbS (Ne.symm (q.aq _ hni))) g5
  · rw [hl]
    have f:∀ m,m<H.length->zbz (some a) (ptr (at_ H m).b):=fun m hm u v hu qhv=>by cases hu; cases qhv; exact Ne.symm (ath m hm)
    exact (o3.st (f _ hnk) g4).st (f _ hni) g5
  · rw [hl] at hm
    rw [sa m]
    by_cases h1:m=k.toNat
    · rw [if_pos h1,h1]; exact o5'
    · rw [if_neg h1]
      by_cases h2:m=i.toNat
      · rw [if_pos h2,h2]
        exact o4'.st (zbS fun he=>by have:=q.inj _ _ hnk hni he; omega) g5
      · rw [if_neg h2]; exact out m hm h2 h1
  · rw [hl] at hm hn
    obtain ⟨m',h1,h2,h3⟩:=mem m hm
    obtain ⟨n',h4,h5,h6⟩:=mem n hn
    rw [h2,h5] at he
    have:=q.inj _ _ h1 h4 he
    subst this
    rw [h3] at h6
    split at h6<;>split at h6<;>(try split at h6)<;>(try split at h6)<;>omega
  · rw [hl] at hm
    obtain ⟨m',h1,h2,-⟩:=mem m hm
    rw [h2]; exact q.aq _ h1
  · cases hb; exact aq'
  · rw [hl] at hm
    cases hb
    obtain ⟨m',h1,h2,-⟩:=mem m hm
    rw [h2]; exact ath _ h1
  · have fa:Fr (ziR qb (some a) H) w w3:=(zaO g2 fun x hx=>.inr (.inl ⟨x,hx,rfl⟩)).tr (zaO g3 fun x hx=>.inr (.inl ⟨x,hx,rfl⟩))
    have ft:∀ m,m<H.length->∀ x,ptr (at_ H m).b=some x->ziR qb (some a) H x.block:=fun m hm x hx=>by cases hx; exact .inr (.inr ⟨_,zAS H hm,rfl⟩)
    exact ((fa.tr (zaO g4 (ft _ hnk))).tr (zaO g5 (ft _ hni))).tr (zac h8)
def qhv (qb:Nat):Value:=.iface zbR (.pointer (ptr qb))
theorem ztF {name:String} {f:FuncId} {pr:Bool} {r:Value} {args:List Value} {K:Value->World->Prop}
    (hm:((Tryz.prog.info? zbR).bind fun i=>i.methods.find? (·.name==name)).map (fun m=>(m.path.toList,m.func))=some ([],some (f,pr)))
    (hr : (receiverAt zbR (.val (.pointer (ptr qb))) pr (some ((name.splitOn ".").getLastD name))).run Tryz.prog w = .ok r w) (h : FnP Tryz.prog f (#[r] ++ args.toArray) w K) : zpD Tryz.prog name (qhv qb) args w K := by
  cases hi:Tryz.prog.info? zbR with
  |none => rw [hi] at hm; simp at hm
  |some i =>
    rw [hi] at hm
    simp only [Option.bind_some] at hm
    cases hq:i.methods.find? (·.name==name) with
    |none => rw [hq] at hm; simp at hm
    |some m =>
      rw [hq] at hm
      simp only [Option.map_some,Option.some.injEq,Prod.mk.injEq] at hm
      refine ⟨zbR,.pointer (ptr qb),f,r,rfl,?_,h⟩
      obtain ⟨n,hn⟩:∃ n,Tryz.prog.types.size+Made.depth=n+1:=⟨Tryz.prog.types.size+Made.depth-1,by unfold Made.depth; omega⟩
      rw [hn]
      exact zB7 hi hq (by have:=hm.1; exact Array.toList_eq_nil_iff.1 this) hm.2 hr
theorem QI.recv (q:QI B w qb x y p c H) {o:Option String}:(receiverAt zbR (.val (.pointer (ptr qb))) false o).run Tryz.prog w=.ok (.slice p H.length c) w :=
  zCF (e:=zdR) (d:=.slice za2) (by kernel_rfl) (by kernel_rfl) (by kernel_rfl) (q.slot.cellAt (i:=0) rfl)
theorem zBN (q : QI B w qb x y p c H) {K : Value -> World -> Prop} (h : FnP Tryz.prog ze1 #[.slice p H.length c] w K) : zpD Tryz.prog "Len" (qhv qb) [] w K := ztF (pr := false) (by kernel_rfl) q.recv h
theorem znz (q : QI B w qb x y p c H) {a b : Value} {K : Value -> World -> Prop} (h : FnP Tryz.prog zes #[.slice p H.length c, a, b] w K) : zpD Tryz.prog "Less" (qhv qb) [a, b] w K := ztF (pr := false) (by kernel_rfl) q.recv h
theorem zrF (q : QI B w qb x y p c H) {a b : Value} {K : Value -> World -> Prop} (h : FnP Tryz.prog zeu #[.slice p H.length c, a, b] w K) : zpD Tryz.prog "Swap" (qhv qb) [a, b] w K := ztF (pr := false) (by kernel_rfl) q.recv h
theorem zE6 {a : Value} {K : Value -> World -> Prop} (h : FnP Tryz.prog zet #[.pointer (ptr qb), a] w K) : zpD Tryz.prog "Push" (qhv qb) [a] w K := ztF (pr := true) (by kernel_rfl) (zyt (e := zdR) (by kernel_rfl)) h
theorem zIC {K : Value -> World -> Prop} (h : FnP Tryz.prog ze2 #[.pointer (ptr qb)] w K) : zpD Tryz.prog "Pop" (qhv qb) [] w K := ztF (pr := true) (by kernel_rfl) (zyt (e := zdR) (by kernel_rfl)) h
theorem tdiv2 {j:Int} (h:0<=j):(j-1).tdiv 2=((par j.toNat:Nat):Int):=by
  unfold par
  by_cases h0:j=0
  · subst h0; decide
  · rw [Int.tdiv_eq_ediv_of_nonneg (by omega)]; omega
theorem up_k (q:QI B w qb x y p c H) {j:Int} {n:Nat} (j0:0<=j) (hj:j<n) (hnl:n<=H.length) (hn:H.length<=1000) (hu:Up H n j.toNat) :
    FnP Tryz.prog zcZ #[qhv qb,.int .i64 j] w fun v w'=>v=.tuple #[]/\∃ Y,QI B w' qb x y p c Y/\Y.Perm H/\(∀ k,n<=k->at_ Y k=at_ H k)/\Hp Y n/\Fr (ziR qb p H) w w':=by
  refine zjc (qhv qb) j w _ ⟨fun j1 w'=>0<=j1/\j1<n/\∃ Y,QI B w' qb x y p c Y/\Y.Perm H/\(∀ k,n<=k->at_ Y k=at_ H k)/\Up Y n j1.toNat/\Fr (ziR qb p H) w w',fun j1 _=>j1.toNat,⟨j0,hj,H,q,.refl _,fun _ _=>rfl,hu,Fr.refl _ _⟩,?_⟩
  rintro j1 w2 ⟨h0,h1,Y,qy,hp,hout,hu,hf⟩
  have hl:=hp.length_eq
  simp only [tdiv2 h0]
  have hpar:par j1.toNat<=j1.toNat:=by unfold par; omega
  refine ⟨i64 (by omega),i64 (by omega),fun he w3 h3=>?_,fun hne w3 h3=>znz (qy.ext h3) ((zye (qy.ext h3) h0 (by omega) (by omega) (by omega)).mono fun v w4 ⟨e4,qhv⟩=>⟨_,qhv,fun hb w6 h6=>?_,fun hb w6 h6=>?_⟩)⟩
  · have:j1.toNat=0:=by unfold par at he; omega
    rw [this] at hu
    exact ⟨trivial,Y,qy.ext h3,hp,hout,zDj hu,hf.tr (zac h3)⟩
  · simp only [Int.toNat_natCast,decide_eq_false_iff_not] at hb
    exact ⟨trivial,Y,((qy.ext h3).ext e4).ext h6,hp,hout,zJy hu hb,((hf.tr (zac h3)).tr (zac e4)).tr (zac h6)⟩
  · simp only [Int.toNat_natCast,decide_eq_true_eq] at hb
    have q6:=((qy.ext h3).ext e4).ext h6
    have hlt:par j1.toNat<j1.toNat:=by unfold par at hne ⊢; omega
    refine zrF q6 ((zC5 q6 (by omega) (by omega) h0 (by omega)).mono fun v w7 ⟨qhv,q7,f7⟩=>⟨qhv,⟨by omega,by omega,_,q7,?_,fun k hk=>?_,?_,?_⟩,by omega⟩)
    · exact (znQ Y (by omega) (by omega)).trans hp
    · rw [zpj Y (by omega) (by omega),if_neg (by omega),if_neg (by omega)]; exact hout k hk
    · simp only [Int.toNat_natCast]
      exact zJx (by omega) (by omega) (by omega) hu hb
    · exact (((hf.tr (zac h3)).tr (zac e4)).tr (zac h6)).tr (f7.mono fun b=>(zon hp b).1)
theorem down_k (q:QI B w qb x y p c H) {i0 n:Int} (h00:0<=i0) (n0:0<=n) (hn:n<=H.length) (hH:H.length<=1000) (hi:i0<=1000) (hu:Dn H n.toNat i0.toNat i0.toNat) :
    FnP Tryz.prog zcp #[qhv qb,.int .i64 i0,.int .i64 n] w fun v w'=>∃ (r:Bool) (Y:List Th),v=.bool r/\QI B w' qb x y p c Y/\Y.Perm H/\(∀ k,n.toNat<=k->at_ Y k=at_ H k)/\(r=true->Hp Y n.toNat)/\(r=false->Y=H/\Up Y n.toNat i0.toNat)/\Fr (ziR qb p H) w w':=by
  refine zhV (qhv qb) i0 n w _ ⟨fun i w'=>i0<=i/\(i<n\/i=i0)/\∃ Y,QI B w' qb x y p c Y/\Y.Perm H/\(∀ k,n.toNat<=k->at_ Y k=at_ H k)/\(i=i0->Y=H)/\Dn Y n.toNat i0.toNat i.toNat/\Fr (ziR qb p H) w w',fun i _=>(2001-i).toNat,⟨Int.le_refl _,.inr rfl,H,q,.refl _,fun _ _=>rfl,fun _=>rfl,hu,Fr.refl _ _⟩,?_⟩
  rintro i w2 ⟨hi0,hin,Y,qy,hp,hout,hsame,hd,hf⟩
  have hl:=hp.length_eq
  have stop:∀ w',QI B w' qb x y p c Y->Fr (ziR qb p H) w w'->(∀ k,1<=k->k<n.toNat->par k=i.toNat->¬ ahead (at_ Y k) (at_ Y i.toNat))->∃ (r:Bool) (Y:List Th),Value.bool (decide (i0<i))=.bool r/\QI B w' qb x y p c Y/\Y.Perm H/\(∀ k,n.toNat<=k->at_ Y k=at_ H k)/\(r=true->Hp Y n.toNat)/\(r=false->Y=H/\Up Y n.toNat i0.toNat)/\Fr (ziR qb p H) w w':=by
    intro w' qw fw hs
    refine ⟨_,Y,rfl,qw,hp,hout,fun h=>?_,fun h=>?_,fw⟩
    · simp only [decide_eq_true_eq] at h
      exact zrs hd (by omega) hs
    · simp only [decide_eq_false_iff_not] at h
      obtain rfl:i=i0:=by omega
      exact ⟨hsame rfl,ztg hd hs⟩
  have kid:∀ k,1<=k->k<n.toNat->par k=i.toNat->(k:Int)=2*i+1\/(k:Int)=2*i+1+1:=fun k k1 kn hk=>by unfold par at hk; omega
  have step:∀ (j:Int) (w6:World),(j=2*i+1\/j=2*i+1+1)->j<n->QI B w6 qb x y p c Y->Fr (ziR qb p H) w w6->ahead (at_ Y j.toNat) (at_ Y i.toNat)->(∀ k,1<=k->k<n.toNat->par k=i.toNat->¬ ahead (at_ Y k) (at_ Y j.toNat)) ->
      zpD Tryz.prog "Swap" (qhv qb) [.int .i64 i, .int .i64 j] w6 fun v7 w7 => v7 = .tuple #[] /\ ((i0 <= j /\ (j < n \/ j = i0) /\ ∃ Y, QI B w7 qb x y p c Y /\ Y.Perm H /\ (∀ k, n.toNat <= k -> at_ Y k = at_ H k) /\ (j = i0 -> Y = H) /\ Dn Y n.toNat i0.toNat j.toNat /\ Fr (ziR qb p H) w w7) /\ (2001 - j).toNat < (2001 - i).toNat) := by
    intro j w6 hj hjn qw fw ha hs
    refine zrF qw ((zC5 qw (by omega) (by omega) (by omega) (by omega)).mono fun v w7 ⟨qhv,q7,f7⟩=>⟨qhv,⟨by omega,.inl hjn,_,q7,?_,fun k hk=>?_,fun h=>by omega,?_,?_⟩,by omega⟩)
    · exact (znQ Y (by omega) (by omega)).trans hp
    · rw [zpj Y (by omega) (by omega),if_neg (by omega),if_neg (by omega)]; exact hout k hk
    · exact zH0 (by omega) (by omega) (by omega) (by unfold par; omega) (by omega) hd ha hs
    · exact fw.tr (f7.mono fun b=>(zon hp b).1)
  refine ⟨i64 (by omega),i64 (by omega),fun hge w3 h3=>stop w3 (qy.ext h3) (hf.tr (zac h3)) fun k k1 kn hk=>by rcases kid k k1 kn hk with h|h<;>omega,fun hlt=>⟨i64 (by omega),fun h2 w3 h3=>?_,fun h2 w3 h3=>?_⟩⟩
  · have q3:=qy.ext h3
    refine znz q3 ((zye q3 (by omega) (by omega) (by omega) (by omega)).mono fun v w4 ⟨e4,qhv⟩=>⟨_,qhv,fun hb w6 h6=>?_,fun hb w6 h6=>?_⟩)
    all_goals
      have q6:=(q3.ext e4).ext h6
      have f6:=((hf.tr (zac h3)).tr (zac e4)).tr (zac h6)
      simp only [decide_eq_true_eq,decide_eq_false_iff_not] at hb
      refine znz q6 ((zye q6 (by omega) (by omega) (by omega) (by omega)).mono fun v w7 ⟨e7,qhv⟩=>⟨_,qhv,fun hc w9 h9=>?_,fun hc w9 h9=>?_⟩)
      all_goals
        have q9:=(q6.ext e7).ext h9
        have f9:=(f6.tr (zac e7)).tr (zac h9)
        simp only [decide_eq_true_eq,decide_eq_false_iff_not] at hc
    · refine stop w9 q9 f9 fun k k1 kn hk=>?_
      rcases kid k k1 kn hk with h|h
      · have:k=(2*i+1).toNat:=by omega
        rw [this]; exact fun h'=>hc (zn2 hb h')
      · have:k=(2*i+1+1).toNat:=by omega
        rw [this]; exact hc
    · refine step _ w9 (.inr rfl) h2 q9 f9 hc fun k k1 kn hk=>?_
      rcases kid k k1 kn hk with h|h
      · have:k=(2*i+1).toNat:=by omega
        rw [this]; exact zjH hb
      · have:k=(2*i+1+1).toNat:=by omega
        rw [this]; unfold ahead; omega
    · refine stop w9 q9 f9 fun k k1 kn hk=>?_
      rcases kid k k1 kn hk with h|h
      · have:k=(2*i+1).toNat:=by omega
        rw [this]; exact hc
      · have:k=(2*i+1+1).toNat:=by omega
        rw [this]; exact zdu hb hc
    · refine step _ w9 (.inl rfl) hlt.1 q9 f9 hc fun k k1 kn hk=>?_
      rcases kid k k1 kn hk with h|h
      · have:k=(2*i+1).toNat:=by omega
        rw [this]; unfold ahead; omega
      · have:k=(2*i+1+1).toNat:=by omega
        rw [this]; exact hb
  · have q3:=qy.ext h3
    refine znz q3 ((zye q3 (by omega) (by omega) (by omega) (by omega)).mono fun v w4 ⟨e4,qhv⟩=>⟨_,qhv,fun hb w6 h6=>?_,fun hb w6 h6=>?_⟩)
    all_goals
      have q6:=(q3.ext e4).ext h6
      have f6:=((hf.tr (zac h3)).tr (zac e4)).tr (zac h6)
      simp only [decide_eq_true_eq,decide_eq_false_iff_not] at hb
    · refine stop w6 q6 f6 fun k k1 kn hk=>?_
      rcases kid k k1 kn hk with h|h
      · have:k=(2*i+1).toNat:=by omega
        rw [this]; exact hb
      · omega
    · refine step _ w6 (.inl rfl) hlt.1 q6 f6 hb fun k k1 kn hk=>?_
      rcases kid k k1 kn hk with h|h
      · have:k=(2*i+1).toNat:=by omega
        rw [this]; unfold ahead; omega
      · omega
end
section
variable {B qb:Nat} {x y:Value} {p:Option Addr} {c:Nat} {H:List Th} {w:World}
def tv (b:Nat):Value:=.iface za2 (.pointer (ptr b))
theorem zec {H:List Th} {t:Th} {k:Nat} (h:k<H.length):at_ (H++[t]) k=at_ H k:=by
  unfold at_; rw [List.getD_eq_getElem?_getD,List.getD_eq_getElem?_getD,List.getElem?_append_left h]
theorem zie {H:List Th} {t:Th}:at_ (H++[t]) H.length=t:=by
  unfold at_; rw [List.getD_eq_getElem?_getD,List.getElem?_append_right (Nat.le_refl _)]; simp
theorem zlE {H:List Th} {m k:Nat} (h:k<m):at_ (H.take m) k=at_ H k:=by
  unfold at_; rw [List.getD_eq_getElem?_getD,List.getD_eq_getElem?_getD,List.getElem?_take,if_pos h]
theorem push_k (q:QI B w qb x y p c H) (hn:H.length<=999) (hB:B<=w.heap.size) {t:Th} {j:Nat} (ht:Own B w zaj 4 (ptr t.b) 1 1 (thc t j)) (hf:¬ ziR qb p H t.b) :
    FnP Tryz.prog zet #[.pointer (ptr qb),tv t.b] w fun v w'=>v=.tuple #[]/\∃ p' c',QI B w' qb x y p' c' (H++[t])/\Fr (ziR qb p (t::H)) w w'/\(∀ a,p'=some a->(∃ a',p=some a'/\a'.block=a.block)\/w.heap.size<=a.block):=by
  have hq:t.b≠qb:=fun h=>hf (.inl h)
  have hpa:∀ a,p=some a->t.b≠a.block:=fun a ha h=>hf (.inr (.inl ⟨a,ha,h.symm⟩))
  have hth:∀ k,k<H.length->(at_ H k).b≠t.b:=fun k hk h=>hf (.inr (.inr ⟨_,zAS H hk,h⟩))
  refine zmd (ptr qb) (tv t.b) w _ fun w0 h0=>zq7 (d:=.pointer zaj) (by kernel_rfl) (by simp) ⟨Ext.refl _,_,rfl,zaF _,_,_,_,(q.slot.ext h0).cellAt (i:=0) rfl,zaF _,zaF _,?_⟩
  have q0:=q.ext h0
  refine zb7 (ht.ext h0) (by simp [thc]) rfl (by simp) fun w6 o6 g6=>?_
  have o6':Own B w6 zaj 4 (ptr t.b) 1 1 (thc t H.length):=o6
  have s6:=q0.slot.st (zbS (Ne.symm hq)) g6
  have a6:=q0.arr.st (fun u v hu qhv=>by cases qhv; exact Ne.symm (hpa u hu)) g6
  have t6:∀ k,k<H.length->Own B w6 zaj 4 (ptr (at_ H k).b) 1 1 (thc (at_ H k) k):=fun k hk=>(q0.th k hk).st (zbS (hth k hk)) g6
  have f6:Fr (ziR qb p (t::H)) w w6:=(zac h0).tr (zaO g6 fun a ha=>by cases ha; exact .inr (.inr ⟨t,List.mem_cons_self ..,rfl⟩))
  have hB6:B<=w6.heap.size:=Nat.le_trans hB f6.size
  refine ⟨zaF _,_,_,_,s6.cellAt (i:=0) rfl,?_⟩
  refine push zpI (by omega) a6 hB6 rfl (by intro u hu; simp [Value.cells] at hu; subst hu; rfl) (by omega) (by omega) (by omega) fun p' c' w16 o16 g16 hp'=>⟨zaF _,?_⟩
  have s16:=s6.st (fun u v hu qhv=>by cases hu; exact Ne.symm (q.ap v qhv).1) g16
  have t16:∀ k,k<H.length->Own B w16 zaj 4 (ptr (at_ H k).b) 1 1 (thc (at_ H k) k):=fun k hk=>(t6 k hk).st (ziT fun v qhv=>(q.ap v qhv).2 k hk) g16
  have o16t:=o6'.st (ziT fun v qhv=>hpa v qhv) g16
  have np:∀ a,p'=some a->(∃ a',p=some a'/\a'.block=a.block)\/w6.heap.size<=a.block:=fun a ha=>by
    rcases g16.new with h|h
    · subst ha
      cases p with
      |none => simp [blk] at h
      |some z => simp [blk] at h; exact .inl ⟨z,rfl,h.symm⟩
    · exact .inr (h a ha)
  have ap':∀ a,p'=some a->a.block≠qb/\a.block≠t.b/\∀ k,k<H.length->(at_ H k).b≠a.block:=fun a ha=>by
    rcases np a ha with ⟨z,hz,he⟩|h
    · rw [<- he]
      exact ⟨(q.ap z hz).1,Ne.symm (hpa z hz),(q.ap z hz).2⟩
    · have l1:=(s6.lt _ rfl).2
      have l2:=(o6'.lt _ rfl).2
      exact ⟨fun e=>by simp [ptr] at l1; omega,fun e=>by simp [ptr] at l2; omega,fun k hk e=>by have:=((t6 k hk).lt _ rfl).2; simp at this; omega⟩
  have st16:zam w16 (ptr qb) [.slice p' (H.length+1) c'] [] fun w20=>∀ w21,Ext w20 w21->(Value.tuple #[]=.tuple #[]/\∃ p' c',QI B w21 qb x y p' c' (H++[t])/\Fr (ziR qb p (t::H)) w w21/\(∀ a,p'=some a->(∃ a',p=some a'/\a'.block=a.block)\/w.heap.size<=a.block)):=by
    have:=zb7 (off:=0) s16 (by simp) (v:=.slice p' (H.length+1) c') rfl (ns:=[]) (by simp) (K:=fun w20=>∀ w21,Ext w20 w21->(Value.tuple #[]=.tuple #[]/\∃ p' c',QI B w21 qb x y p' c' (H++[t])/\Fr (ziR qb p (t::H)) w w21/\(∀ a,p'=some a->(∃ a',p=some a'/\a'.block=a.block)\/w.heap.size<=a.block))) fun w20 o20 g20 w21 h21=>?_
    · rw [zaK] at this; exact this
    have hl:(H++[t]).length=H.length+1:=by simp
    refine ⟨rfl,p',c',QI.ext ⟨?_,?_,fun k hk=>?_,fun i k hi hk he=>?_,fun i hi=>?_,fun a ha=>⟨(ap' a ha).1,fun i hi=>?_⟩⟩ h21,?_,fun a ha=>?_⟩
    · rw [hl]; exact o20
    · rw [hl,List.map_append]
      have:Own B w16 za2 1 p' (H.length+1) c' (H.map pv++[t].map pv):=o16
      exact this.st (fun u v hu qhv=>by cases qhv; exact (ap' u hu).1) g20
    · rw [hl] at hk
      by_cases h:k<H.length
      · rw [zec h]; exact (t16 k h).st (zbS (q.aq k h)) g20
      · obtain rfl:k=H.length:=by omega
        rw [zie]; exact o16t.st (zbS hq) g20
    · rw [hl] at hi hk
      by_cases h1:i<H.length<;>by_cases h2:k<H.length
      · rw [zec h1,zec h2] at he; exact q.inj i k h1 h2 he
      · obtain rfl:k=H.length:=by omega
        rw [zec h1,zie] at he; exact absurd he (hth i h1)
      · obtain rfl:i=H.length:=by omega
        rw [zec h2,zie] at he; exact absurd he.symm (hth k h2)
      · omega
    · rw [hl] at hi
      by_cases h1:i<H.length
      · rw [zec h1]; exact q.aq i h1
      · obtain rfl:i=H.length:=by omega
        rw [zie]; exact hq
    · rw [hl] at hi
      by_cases h1:i<H.length
      · rw [zec h1]; exact (ap' a ha).2.2 i h1
      · obtain rfl:i=H.length:=by omega
        rw [zie]; exact Ne.symm (ap' a ha).2.1
    · refine ((f6.tr (zaO g16 fun a ha=>.inr (.inl ⟨a,ha,rfl⟩))).tr (zaO g20 fun a ha=>by cases ha; exact .inl rfl)).tr (zac h21)
    · rcases np a ha with h|h
      · exact .inl h
      · exact .inr (Nat.le_trans f6.size h)
  exact st16
theorem pop_k (q:QI B w qb x y p c H) (hl:0<H.length) :
    FnP Tryz.prog ze2 #[.pointer (ptr qb)] w fun v w'=>v=tv (at_ H (H.length-1)).b/\QI B w' qb x y p c (H.take (H.length-1))/\Fr (fun b=>b=qb) w w'/\Own B w' zaj 4 (ptr (at_ H (H.length-1)).b) 1 1 (thc (at_ H (H.length-1)) (H.length-1)):=by
  have hp:=q.ne hl
  have s0:=q.slot.cellAt (i:=0) rfl
  have hc:=q.arr.le
  have e1:((H.length:Int)-1).toNat=H.length-1:=by omega
  have ca:=zn4 q.arr (i:=(H.length:Int)-1) (by omega) (by omega)
  rw [e1] at ca
  refine zng (ptr qb) w _ ⟨zaF _,_,_,_,s0,i64 (by omega),zaF _,_,_,_,s0,hp,by omega,by omega,_,ca,zaF _,_,_,_,s0,by omega,by omega,by omega,zaF _,?_⟩
  rw [show (((H.length:Int)-1)-0).toNat=H.length-1 by omega,show c-(0:Int).toNat=c by simp,zfe]
  have st:=zb7 (off:=0) q.slot (by simp) (v:=.slice p (H.length-1) c) rfl (ns:=[]) (by simp) (K:=fun w10=>∀ w11,Ext w10 w11->Run Tryz.prog (.makeInterface za2 (.pointer (ptr (at_ H (H.length-1)).b))) w11 fun v12 w12=>Ext w11 w12/\∃ t13:Value,v12=t13/\∀ w14,Ext w12 w14 ->
    (t13=tv (at_ H (H.length-1)).b/\QI B w14 qb x y p c (H.take (H.length-1))/\Fr (fun b=>b=qb) w w14/\Own B w14 zaj 4 (ptr (at_ H (H.length-1)).b) 1 1 (thc (at_ H (H.length-1)) (H.length-1)))) fun w10 o10 g10 w11 h11=>?_
  · rw [zaK] at st; exact st
  refine zfh (d:=.pointer zaj) (by kernel_rfl) (by simp) ⟨Ext.refl _,_,rfl,fun w14 h14=>⟨rfl,?_,((zaO g10 fun a ha=>by cases ha; rfl).tr (zac h11)).tr (zac h14),?_⟩⟩
  · refine QI.ext (QI.ext ?_ h11) h14
    have hm:(H.take (H.length-1)).length=H.length-1:=by simp
    have th:∀ k,k<H.length->Own B w10 zaj 4 (ptr (at_ H k).b) 1 1 (thc (at_ H k) k):=fun k hk=>(q.th k hk).st (zbS (q.aq k hk)) g10
    refine ⟨?_,?_,fun k hk=>?_,fun i k hi hk he=>?_,fun i hi=>?_,fun a ha=>⟨(q.ap a ha).1,fun i hi=>?_⟩⟩
    · rw [hm]; exact o10
    · have:=(q.arr.st (fun u v hu qhv=>by cases qhv; exact (q.ap u hu).1) g10).pre (m:=H.length-1) (by omega)
      rw [hm,List.map_take]; rw [Nat.mul_one] at this; exact this
    · rw [hm] at hk; rw [zlE hk]; exact th k (by omega)
    · rw [hm] at hi hk; rw [zlE hi,zlE hk] at he; exact q.inj i k (by omega) (by omega) he
    · rw [hm] at hi; rw [zlE hi]; exact q.aq i (by omega)
    · rw [hm] at hi; rw [zlE hi]; exact (q.ap a ha).2 i (by omega)
  · exact (((q.th (H.length-1) (by omega)).st (zbS (q.aq _ (by omega))) g10).ext h11).ext h14
theorem zom {p':Option Addr} {t:Th} {G:List Th} {n:Nat} (hg:∀ u∈G,u=t\/u∈H) (hp:∀ a,p'=some a->(∃ a',p=some a'/\a'.block=a.block)\/n<=a.block) (b:Nat) (h:ziR qb p' G b):ziR qb p (t::H) b\/n<=b:=by
  rcases h with h|⟨a,ha,rfl⟩|⟨u,hu,rfl⟩
  · exact .inl (.inl h)
  · rcases hp a ha with ⟨z,hz,he⟩|h
    · exact .inl (.inr (.inl ⟨z,hz,he⟩))
    · exact .inr h
  · refine .inl (.inr (.inr ⟨u,?_,rfl⟩))
    rcases hg u hu with rfl|h
    · exact List.mem_cons_self ..
    · exact List.mem_cons_of_mem _ h
theorem zv8 (q:QI B w qb x y p c H) (hh:Hp H H.length) (hn:H.length<=999) (hB:B<=w.heap.size) {t:Th} {j:Nat} (ht:Own B w zaj 4 (ptr t.b) 1 1 (thc t j)) (hf:¬ ziR qb p H t.b) :
    FnP Tryz.prog zco #[qhv qb,tv t.b] w fun v w'=>v=.tuple #[]/\∃ p' c' Y,QI B w' qb x y p' c' Y/\Y.Perm (t::H)/\Hp Y Y.length/\Fr (ziR qb p (t::H)) w w'/\(∀ a,p'=some a->(∃ a',p=some a'/\a'.block=a.block)\/w.heap.size<=a.block):=by
  refine zhU (qhv qb) (tv t.b) w _ fun w0 h0=>zE6 ((push_k (q.ext h0) hn (Nat.le_trans hB h0.size) (ht.ext h0) hf).mono fun v w1 ⟨qhv,p',c',q1,f1,np⟩=>⟨qhv,fun w2 h2=>?_⟩)
  have q2:=q1.ext h2
  have hl:(H++[t]).length=H.length+1:=by simp
  refine zBN q2 (len_k.mono fun v w3 ⟨e3,qhv⟩=>⟨_,qhv,i64 (by omega),fun w5 h5=>?_⟩)
  have q5:=(q2.ext e3).ext h5
  have hup:Up (H++[t]) (H.length+1) H.length:=zF9 (zx2 hh fun k hk=>zec hk)
  rw [show (((H++[t]).length:Int)-1)=(H.length:Int) by omega]
  refine (up_k q5 (j:=(H.length:Int)) (n:=H.length+1) (by omega) (by omega) (by omega) (by omega) hup).mono fun v w6 ⟨qhv,Y,q6,hp,_,hhp,f6⟩=>⟨qhv,fun w7 h7=>⟨rfl,p',c',Y,q6.ext h7,hp.trans (List.perm_append_comm (l₁:=H) (l₂:=[t])),?_,?_,fun a ha=>?_⟩⟩
  · rw [hp.length_eq,hl]; exact hhp
  · have f5:Fr (ziR qb p (t::H)) w w5:=((((zac h0).tr f1).tr (zac h2)).tr (zac e3)).tr (zac h5)
    refine (f5.trans f6 fun b hb=>zom (fun u hu=>?_) (fun a ha=>?_) b hb).tr (zac h7)
    · rcases List.mem_append.1 hu with h|h
      · exact .inr h
      · exact .inl (by simpa using h)
    · rcases np a ha with h|h
      · exact .inl h
      · exact .inr (Nat.le_trans h0.size h)
  · rcases np a ha with h|h
    · exact .inl h
    · exact .inr (Nat.le_trans h0.size h)
theorem zC9 {Y:List Th} (h:0<Y.length):Y.take (Y.length-1)++[at_ Y (Y.length-1)]=Y:=by
  have:=List.take_append_drop (Y.length-1) Y
  have hd:Y.drop (Y.length-1)=[at_ Y (Y.length-1)]:=by
    rw [List.drop_eq_getElem_cons (by omega),List.drop_of_length_le (by omega)]
    unfold at_
    rw [List.getD_eq_getElem?_getD,List.getElem?_eq_getElem (by omega)]; rfl
  rw [<- hd]; exact this
theorem zCu {Y G:List Th} (h:0<Y.length) (hp:Y.Perm G):(at_ Y (Y.length-1)::Y.take (Y.length-1)).Perm G:=by
  refine List.Perm.trans ?_ hp
  have:=zC9 h
  refine List.Perm.trans (List.perm_append_comm (l₁:=[_])) ?_
  rw [this]
theorem zzw (q:QI B w qb x y p c H) (hh:Hp H H.length) (h0:0<H.length) (hn:H.length<=1000) :
    FnP Tryz.prog zcL #[qhv qb] w fun v w'=>∃ (t:Th) (j:Nat) (Y:List Th),v=tv t.b/\QI B w' qb x y p c Y/\(t::Y).Perm H/\Hp Y Y.length/\(∀ u∈H,¬ ahead u t)/\Own B w' zaj 4 (ptr t.b) 1 1 (thc t j)/\Fr (ziR qb p H) w w':=by
  refine ziv (qhv qb) w _ fun w0 h0'=>zBN (q.ext h0') (len_k.mono fun v w1 ⟨e1,qhv⟩=>⟨_,qhv,i64 (by omega),fun w3 h3=>?_⟩)
  have q3:=((q.ext h0').ext e1).ext h3
  have f3:Fr (ziR qb p H) w w3:=((zac h0').tr (zac e1)).tr (zac h3)
  refine zrF q3 ((zC5 q3 (by omega) (by omega) (by omega) (by omega)).mono fun v w4 ⟨qhv,q4,f4⟩=>⟨qhv,fun w5 h5=>?_⟩)
  have e0:((H.length:Int)-1).toNat=H.length-1:=by omega
  rw [e0] at q4
  have q5:=q4.ext h5
  have hl:=zC6 H (0:Int).toNat (H.length-1)
  have sa:=zpj H (i:=(0:Int).toNat) (j:=H.length-1) (by simpa using h0) (by omega)
  refine (down_k q5 (by omega) (by omega) (by omega) (by omega) (by omega) ?_).mono fun v w6 ⟨r,Y,qhv,q6,hp,hout,ht,hf,f6⟩=>⟨_,qhv,fun w8 h8=>?_⟩
  · rw [e0]
    by_cases h1:H.length-1=0
    · rw [h1]; exact ⟨fun k _ hk=>by omega,fun h=>by simp at h⟩
    · refine zEy (zIA hh (by omega)) (fun k hk hk0=>?_) (by simp; omega)
      rw [sa k,if_neg (by omega),if_neg hk0]
  · have hYl:Y.length=H.length:=by rw [hp.length_eq,hl]
    have hY:Hp Y (H.length-1):=by
      rw [e0] at ht hf
      cases r with
      |true => exact ht rfl
      |false => exact zDj (hf rfl).2
    have q8:=q6.ext h8
    have hlast:at_ Y (Y.length-1)=at_ H 0:=by
      rw [hYl,hout _ (by omega),sa,if_pos rfl]; rfl
    have hpH:Y.Perm H:=hp.trans (znQ H (by simpa using h0) (by omega))
    refine zIC ((pop_k q8 (by omega)).mono fun v w9 ⟨qhv,q9,f9,o9⟩=>⟨v,rfl,fun w11 h11=>⟨at_ Y (Y.length-1),Y.length-1,Y.take (Y.length-1),qhv,q9.ext h11,zCu (by omega) hpH,?_,fun u hu=>?_,o9.ext h11,?_⟩⟩)
    · rw [List.length_take,Nat.min_eq_left (by omega),hYl]
      exact zx2 hY fun k hk=>zlE hk
    · rw [hlast]
      obtain ⟨k,hk,rfl⟩:=zGM hu
      exact zE3 hh k hk
    · have fp:∀ b,ziR qb p (swp H (0:Int).toNat (H.length-1)) b->ziR qb p H b:=fun b=>(zon (znQ H (by simpa using h0) (by omega)) b).1
      exact (((((f3.tr f4).tr (zac h5)).tr (f6.mono fp)).tr (zac h8)).tr (f9.mono fun b hb=>.inl hb)).tr (zac h11)
end
def zIe:Int->Value:=Value.int .i64
theorem kq:zAa Tryz.prog zgX zIe (.int .i64):=zFc (by kernel_rfl)
theorem mapq:Tryz.prog.underlying zfV=some (.map zgX za2):=by kernel_rfl
def Rel (H:List Th) (m:List (Int×Value)):Prop:=(∀ t∈H,zhT m t.id=some (pv t))/\∀ id v,zhT m id=some v->∃ t∈H,t.id=id/\v=pv t
structure QQ (B:Nat) (w:World) (qb mb:Nat) (born:Int) (p:Option Addr) (c:Nat) (H:List Th) (m:List (Int×Value)):Prop where
  qi:QI B w qb (.map (some mb)) (.int .i64 born) p c H
  mp:zcO zIe w mb m
  hp:Hp H H.length
  mB:B<=mb
  mf:¬ ziR qb p H mb
def zhQ (mb qb:Nat) (p:Option Addr) (H:List Th) (b:Nat):Prop:=b=mb\/ziR qb p H b
section
variable {B qb mb:Nat} {born:Int} {p:Option Addr} {c:Nat} {H:List Th} {m:List (Int×Value)} {w:World}
theorem QQ.ext {w':World} (q:QQ B w qb mb born p c H m) (h:Ext w w'):QQ B w' qb mb born p c H m:=⟨q.qi.ext h,q.mp.ext h,q.hp,q.mB,q.mf⟩
theorem QQ.fr {S:Nat->Prop} {w':World} (q:QQ B w qb mb born p c H m) (h:Fr S w w') (hs:∀ b,zhQ mb qb p H b->¬ S b):QQ B w' qb mb born p c H m:=⟨q.qi.fr h fun b hb=>hs b (.inr hb),q.mp.fr h (hs _ (.inl rfl)),q.hp,q.mB,q.mf⟩
theorem QQ.foot (q:QQ B w qb mb born p c H m) {b:Nat} (h:zhQ mb qb p H b):B<=b/\b<w.heap.size:=by
  rcases h with rfl|h
  · exact ⟨q.mB,q.mp.lt⟩
  · exact q.qi.foot h
theorem QI.reslot {x y y':Value} {w':World} (q:QI B w qb x y p c H) (o:Own B w' zkn 3 (ptr qb) 1 1 [.slice p H.length c,x,y']) (g:zb5 w w' (ptr qb) (ptr qb)):QI B w' qb x y' p c H :=
  ⟨o,q.arr.st (fun u v hu qhv=>by cases qhv; exact (q.ap u hu).1) g,fun k hk=>(q.th k hk).st (zbS (q.aq k hk)) g,q.inj,q.aq,q.ap⟩
theorem qnew_k:FnP Tryz.prog zjF #[] w fun v w'=>Ext w w'/\∃ qb mb,v=.pointer (ptr qb)/\w.heap.size<=qb/\∀ B,B<=w.heap.size->QQ B w' qb mb 0 none 0 [] []:=by
  refine zuo w _ fun w0 h0=>zj6 (enc:=zIe) fun w1 m1 e1=>⟨e1,_,rfl,rfl,fun w3 h3=>zbt (by simp [Value.oneCell']) fun w4 o4 e4 w5 h5=>⟨(((h0.trans e1).trans h3).trans e4).trans h5,w3.heap.size,w0.heap.size,rfl,?_,fun B hB=>?_⟩⟩
  · exact Nat.le_trans (Nat.le_trans h0.size e1.size) h3.size
  · have hm:=m1.lt
    refine QQ.ext ⟨⟨o4 B (Nat.le_trans (Nat.le_trans (Nat.le_trans hB h0.size) e1.size) h3.size),Own.nil,fun k hk=>by simp at hk,fun i k hi=>by simp at hi,fun i hi=>by simp at hi,fun a ha=>by cases ha⟩,(m1.ext h3).ext e4,fun k k1 kn=>by simp at kn,Nat.le_trans hB h0.size,?_⟩ h5
    rintro (h|⟨a,ha,_⟩|⟨t,ht,_⟩)
    · have:=h3.size; omega
    · cases ha
    · cases ht
theorem zFG (hr:Rel H m) (id:Int):∃ t3:Option Addr,(zhT m id).getD (.pointer none)=.pointer t3/\(t3=none↔∀ t∈H,t.id≠id)/\(t3≠none->∃ t∈H,t.id=id/\t3=ptr t.b):=by
  cases hm:zhT m id with
  |none =>
    refine ⟨none,rfl,⟨fun _ t ht he=>?_,fun _=>rfl⟩,fun h=>absurd rfl h⟩
    have:=hr.1 t ht; rw [he,hm] at this; cases this
  |some v =>
    obtain ⟨t,ht,he,rfl⟩:=hr.2 id v hm
    exact ⟨ptr t.b,rfl,⟨fun h=>absurd h (zaF _),fun h=>absurd he (h t ht)⟩,fun _=>⟨t,ht,he,rfl⟩⟩
theorem zJb {t:Th} {Y:List Th} (hr:Rel H m) (hn:∀ u∈H,u.id≠t.id) (hp:Y.Perm (t::H)):Rel Y (zpA m t.id (pv t)):=by
  refine ⟨fun u hu=>?_,fun id v qhv=>?_⟩
  · rw [zkN]
    rcases List.mem_cons.1 (hp.mem_iff.1 hu) with rfl|h
    · rw [if_pos rfl]
    · rw [if_neg (Ne.symm (hn u h))]; exact hr.1 u h
  · rw [zkN] at qhv
    split at qhv
    · rename_i h
      exact ⟨t,hp.mem_iff.2 (List.mem_cons_self ..),h,(Option.some.inj qhv).symm⟩
    · obtain ⟨u,hu,h1,h2⟩:=hr.2 id v qhv
      exact ⟨u,hp.mem_iff.2 (List.mem_cons_of_mem _ hu),h1,h2⟩
def Ids (H:List Th):Prop:=(H.map (·.id)).Nodup
theorem zJa {t:Th} {Y:List Th} (hr:Rel H m) (hn:(zde m).Nodup) (hi:Ids H) (hp:(t::Y).Perm H):Rel Y (ztV m t.id)/\Ids Y:=by
  have h1:((t::Y).map (·.id)).Nodup:=(hp.map _).nodup_iff.2 hi
  simp only [List.map_cons,List.nodup_cons] at h1
  have hne:∀ u∈Y,u.id≠t.id:=fun u hu he=>h1.1 (by rw [<- he]; exact List.mem_map_of_mem hu)
  refine ⟨⟨fun u hu=>?_,fun id v qhv=>?_⟩,h1.2⟩
  · rw [ztW m hn,if_neg (Ne.symm (hne u hu))]
    exact hr.1 u (hp.mem_iff.1 (List.mem_cons_of_mem _ hu))
  · rw [ztW m hn] at qhv
    split at qhv
    · cases qhv
    · rename_i h
      obtain ⟨u,hu,h2,h3⟩:=hr.2 id v qhv
      rcases List.mem_cons.1 (hp.mem_iff.2 hu) with rfl|hy
      · exact absurd h2 h
      · exact ⟨u,hy,h2,h3⟩
theorem qput_k (q:QQ B w qb mb born p c H m) (hr:Rel H m) (hn:H.length<=200) (hb:-1<=born/\born<=1000000000) (hB:B<=w.heap.size) (prio id:Int) :
    FnP Tryz.prog zdO #[.pointer (ptr qb),.int .i64 prio,.int .i64 id] w fun v w'=>∃ e:Int,v=.int .i64 e /\
      (e≠0->Ext w w'/\((∃ t∈H,t.id=id)/\e=6\/H.length=200/\e=7)) /\
      (e=0->(∀ t∈H,t.id≠id)/\H.length≠200/\∃ b p' c' Y,QQ B w' qb mb (born+1) p' c' Y (zpA m id (pv ⟨b,prio,id,born+1⟩))/\Y.Perm (⟨b,prio,id,born+1⟩::H)/\Fr (zhQ mb qb p H) w w' /\
        (∀ k,zhQ mb qb p' Y k->zhQ mb qb p H k\/w.heap.size<=k)):=by
  obtain ⟨t3,e3,hnone,hsome⟩:=zFG hr id
  have ne:=zaF qb
  refine zk2 (ptr qb) prio id w _ ⟨ne,ne,_,q.qi.slot.cellAt0 (i:=1) rfl,fun w1 h1=>zFN kq mapq zg4 (a:=id) (q.mp.ext h1) ⟨Ext.refl _,t3,e3,fun hs w4 h4=>⟨_,rfl,fun _=>⟨h1.trans h4,.inl ⟨?_,rfl⟩⟩,fun h=>by cases h⟩,fun hs=>⟨ne,ne,_,_,_,(q.ext h1).qi.slot.cellAt0 (i:=0) rfl,fun h200 w7 h7=>⟨_,rfl,fun _=>⟨h1.trans h7,.inr ⟨by omega,rfl⟩⟩,fun h=>by cases h⟩,fun h200=>?_⟩⟩⟩
  · obtain ⟨t,ht,he,_⟩:=hsome hs; exact ⟨t,ht,he⟩
  have q1:=q.ext h1
  refine ⟨ne,ne,_,q1.qi.slot.cellAt0 (i:=2) rfl,i64 (by omega),ne,ne,?_⟩
  refine zb7 q1.qi.slot (by simp) rfl (by simp) fun w8 o8 g8=>⟨ne,ne,_,o8.cellAt0 (i:=2) rfl,fun w10 h10=>?_⟩
  have qi8:=q1.qi.reslot (y':=.int .i64 (born+1)) o8 g8
  have m8:=q1.mp.grew (p:=ptr qb) (q:=ptr qb) (fun x hx=>by cases hx; exact fun h=>q.mf (.inl h.symm)) g8
  have f8:Fr (zhQ mb qb p H) w w8:=(zac h1).tr (zaO g8 fun a ha=>by cases ha; exact .inr (.inl rfl))
  refine zbt (by simp [Value.oneCell']) fun w11 o11 e11=>⟨ne,ne,_,((qi8.ext h10).ext e11).slot.cellAt0 (i:=1) rfl,fun w13 h13=>?_⟩
  have sz10:w.heap.size<=w10.heap.size:=Nat.le_trans f8.size h10.size
  have o11:=o11 B (Nat.le_trans hB sz10)
  have t13:=o11.ext h13
  have qi13:=((qi8.ext h10).ext e11).ext h13
  have f13:Fr (zhQ mb qb p H) w w13:=((f8.tr (zac h10)).tr (zac e11)).tr (zac h13)
  have hfr:¬ zhQ mb qb p H w10.heap.size:=fun h=>by have:=(q.foot h).2; omega
  refine zhl kq mapq (a:=id) (((m8.ext h10).ext e11).ext h13) fun w14 m14 g14=>⟨ne,ne,fun w15 h15=>?_⟩
  have g14':Fr (fun b=>b=mb) w13 w14:=zaO g14 fun a ha=>by cases ha; rfl
  have qi14:=qi13.fr g14' fun b hb h=>q.mf (h▸hb)
  have t14:=t13.fr g14' fun a ha h=>by cases ha; exact hfr (.inl h)
  rw [zaK]
  refine zfh (d:=.pointer zdR) (by kernel_rfl) (by simp) ⟨Ext.refl _,_,rfl,fun w18 h18=>zfh (d:=.pointer zaj) (by kernel_rfl) (by simp) ⟨Ext.refl _,_,rfl,fun w21 h21=>?_⟩⟩
  have qi21:=((qi14.ext h15).ext h18).ext h21
  have t21:=((t14.ext h15).ext h18).ext h21
  have f21:Fr (zhQ mb qb p H) w w21:=(((f13.tr (g14'.mono fun b hb=>.inl hb)).tr (zac h15)).tr (zac h18)).tr (zac h21)
  refine (zv8 (t:=⟨w10.heap.size,prio,id,born+1⟩) (j:=0) qi21 q.hp (by omega) (Nat.le_trans hB f21.size) t21 fun h=>hfr (.inr h)).mono fun v w22 ⟨qhv,p',c',Y,qi22,hp,hh,f22,np⟩=>⟨qhv,fun w23 h23=>⟨0,rfl,fun h=>absurd rfl h,fun _=>⟨hnone.1 hs,by omega,w10.heap.size,p',c',Y,QQ.ext ⟨qi22,?_,hh,q.mB,?_⟩ h23,hp,?_,fun k hk=>?_⟩⟩⟩
  · have m21:=((m14.ext h15).ext h18).ext h21
    refine m21.fr f22 ?_
    rintro (h|h|⟨t,ht,h⟩)
    · exact q.mf (.inl h)
    · exact q.mf (.inr (.inl h))
    · rcases List.mem_cons.1 ht with rfl|ht
      · exact hfr (.inl h)
      · exact q.mf (.inr (.inr ⟨t,ht,h⟩))
  · intro h
    rcases zom (fun u hu=>List.mem_cons.1 (hp.mem_iff.1 hu)) np mb h with h|h
    · rcases h with h|h|⟨t,ht,h⟩
      · exact q.mf (.inl h)
      · exact q.mf (.inr (.inl h))
      · rcases List.mem_cons.1 ht with rfl|ht
        · exact hfr (.inl h)
        · exact q.mf (.inr (.inr ⟨t,ht,h⟩))
    · have:=((m14.ext h15).ext h18 |>.ext h21).lt; omega
  · refine (f21.trans f22 fun b hb=>?_).tr (zac h23)
    rcases hb with h|h|⟨t,ht,h⟩
    · exact .inl (.inr (.inl h))
    · exact .inl (.inr (.inr (.inl h)))
    · rcases List.mem_cons.1 ht with rfl|ht
      · simp only at h; exact .inr (by omega)
      · exact .inl (.inr (.inr (.inr ⟨t,ht,h⟩)))
  · rcases hk with rfl|hk
    · exact .inl (.inl rfl)
    · rcases zom (fun u hu=>List.mem_cons.1 (hp.mem_iff.1 hu)) np k hk with h|h
      · rcases h with h|h|⟨t,ht,h⟩
        · exact .inl (.inr (.inl h))
        · exact .inl (.inr (.inr (.inl h)))
        · rcases List.mem_cons.1 ht with rfl|ht
          · simp only at h; exact .inr (by omega)
          · exact .inl (.inr (.inr (.inr ⟨t,ht,h⟩)))
      · exact .inr (Nat.le_trans f21.size h)
theorem zI8 (q:QQ B w qb mb born p c H m) (hn:H.length<=1000) :
    FnP Tryz.prog zaW #[.pointer (ptr qb)] w fun v w' =>
      (H=[]/\v=.tuple #[.agg #[.int .i64 0,.int .i64 0],.bool false]/\Ext w w') \/
      ∃ t Y,v=.tuple #[.agg #[.int .i64 t.prio,.int .i64 t.id],.bool true]/\QQ B w' qb mb born p c Y (ztV m t.id)/\(t::Y).Perm H/\(∀ u∈H,¬ ahead u t)/\Fr (zhQ mb qb p H) w w':=by
  have ne:=zaF qb
  refine zj2 (ptr qb) w _ fun b0 hb0=>⟨ne,ne,_,_,_,q.qi.slot.cellAt0 (i:=0) rfl,fun h0 w4 h4=>.inl ⟨List.length_eq_zero_iff.1 (by omega),rfl,h4⟩,fun h0=>⟨ne,ne,fun w4 x4=>?_⟩⟩
  have h4:=zaa x4
  rw [zaK]
  refine zfh (d:=.pointer zdR) (by kernel_rfl) (by simp) ⟨Ext.refl _,_,rfl,fun w7 x7=>?_⟩
  have h7:=zaa x7
  have q7:=(q.ext h4).ext h7
  have lt4:=x4.lt b0 (by simp)
  have nf:∀ k,zhQ mb qb p H k->k≠b0:=fun k hk h=>by have:=(q.foot hk).2; omega
  refine (zzw q7.qi q.hp (by omega) hn).mono fun v w8 ⟨t,j,Y,qhv,q8,hp,hh,hmin,ht,f8⟩=>⟨?_,v,rfl,fun w10 x10=>?_⟩
  · refine f8.kept fun b hb=>?_
    obtain rfl:b=b0:=by simpa using hb
    exact ⟨x7.lt b (by simp),fun h=>nf b (.inr h) rfl⟩
  subst qhv
  have h10:=zaa x10
  have hth:t∈H:=hp.mem_iff.1 (List.mem_cons_self ..)
  have mfY:¬ ziR qb p Y mb:=by
    rintro (h|h|⟨u,hu,h⟩)
    · exact q.mf (.inl h)
    · exact q.mf (.inr (.inl h))
    · exact q.mf (.inr (.inr ⟨u,hp.mem_iff.1 (List.mem_cons_of_mem _ hu),h⟩))
  have tb:t.b≠mb:=fun h=>q.mf (.inr (.inr ⟨t,hth,h⟩))
  have tb0:t.b≠b0:=nf _ (.inr (.inr (.inr ⟨t,hth,rfl⟩)))
  have m10:=(q7.mp.fr f8 q.mf).ext h10
  have net:=zaF t.b
  refine zq7 (d:=.pointer zaj) (by kernel_rfl) (by simp) ⟨Ext.refl _,_,rfl,ne,ne,_,(q8.ext h10).slot.cellAt0 (i:=1) rfl,net,net,by rw [zaK]; exact net,_,(by rw [zaK]; exact (ht.ext h10).cellAt0 (i:=1) rfl),fun w15 x15=>?_⟩
  have h15:=zaa x15
  have lt15:=x15.lt b0 (by simp)
  refine zzT (ts:=[3]) kq mapq (a:=t.id) (m10.ext h15) fun w16 m16 g16=>?_
  have f16:Fr (fun b=>b=mb) w15 w16:=zaO g16 fun a ha=>by cases ha; rfl
  have q16:=((q8.ext h10).ext h15).fr f16 fun b hb h=>mfY (h▸hb)
  have t16:=((ht.ext h10).ext h15).fr f16 fun a ha h=>by cases ha; exact tb h
  rw [zaK]
  refine ⟨f16.kept fun b hb=>?_,rfl,net,net,net,_,t16.cellAt (i:=0) rfl,_,t16.cellAt (i:=1) rfl,fun w19 x19=>.inr ⟨t,Y,rfl,?_,hp,hmin,?_⟩⟩
  · obtain rfl:b=b0:=by simpa using hb
    exact ⟨lt15,fun h=>nf b (.inl h) rfl⟩
  · have f19:Fr (fun b=>b=b0) w16 w19:=zbB x19 fun d hd=>.inl (by simpa using hd)
    have hY:∀ k,zhQ mb qb p Y k->zhQ mb qb p H k:=fun k hk=>by
      rcases hk with h|h|h|⟨u,hu,h⟩
      · exact .inl h
      · exact .inr (.inl h)
      · exact .inr (.inr (.inl h))
      · exact .inr (.inr (.inr ⟨u,hp.mem_iff.1 (List.mem_cons_of_mem _ hu),h⟩))
    exact QQ.fr ⟨q16,m16,hh,q.mB,mfY⟩ f19 fun k hk h=>nf k (hY k hk) h
  · have f16':Fr (zhQ mb qb p H) w w16:=(((((zac h4).tr (zac h7)).tr (f8.mono fun b hb=>.inr hb)).tr (zac h10)).tr (zac h15)).tr (f16.mono fun b hb=>.inl hb)
    refine f16'.trans (zbB (S:=fun b=>b=b0) x19 fun d hd=>.inl (by simpa using hd)) fun b hb=>.inr (by omega)
end
def Far (n:Nat) (w:World) (X:World->Prop):Prop:=∀ S:Nat->Prop,(∀ b,S b->b<n)->∀ w'',Fr S w w''->X w''
theorem Far.at {n:Nat} {w:World} {X:World->Prop} (h:Far n w X):X w:=h (fun _=>False) (fun _ h=>h.elim) w (Fr.refl _ w)
structure AR where
  t:AT
  p:Option Addr
  c:Nat
abbrev zEI (x:AR):List Value:=znw x.t x.p x.c
theorem zID {w:World} {t:AT} {q:Option Addr} {d:Nat} {L:List AR} (hm:L.map (·.t)=t.xs) (hle:t.xs.length<=d) (hR:zgm 5 zEI w q L) (hT:∀ x∈L,IsT w x.t x.p x.c):IsT w t q d:=by
  rw [AT.eta t]
  unfold IsT
  refine ⟨hle,IsL.of fun j x hx=>?_⟩
  rw [<- hm,List.getElem?_map] at hx
  obtain ⟨r,hr,rfl⟩:=Option.map_eq_some_iff.1 hx
  exact ⟨r.p,r.c,fun m u hu=>by rw [Nat.zero_add]; exact hR j r hr m u hu,hT r (List.mem_of_getElem? hr)⟩
def AOut (w:World) (t:AT) (v:Value) (w':World):Prop:=Ext w w'/\∃ q d,v=av t q d/\Far w.heap.size w' fun w''=>IsT w'' t q d
theorem zFs:∀ (t:AT) (p:Option Addr) (c:Nat) (w:World),IsT w t p c->zey t=0->FnP Tryz.prog zeH #[av t p c] w (AOut w t):=by
  intro t
  induction t using AT.ind with
  |h k key val n xs ih =>
    intro p c w hT hE
    have hEx:=(zgp hE).2
    have h2:xs.length<=2:=by
      have:=zry (zgp hE).1
      have h3:zfr k<=2:=by unfold zfr; split<;>(try split)<;>omega
      show xs.length<=2
      have h4:xs.length=zfr k:=this
      omega
    refine zpW k key val n p xs.length c w _ fun b0 hb0 b1 hb1=>?_
    refine ⟨fun l ll lc k' w'=>Ext w w'/\0<=k'/\k'<=xs.length/\ll=k'.toNat/\(∀ b∈[b0,b1],∀ y,l=some y->y.block≠b)/\∃ L:List AR,L.map (·.t)=xs.take k'.toNat/\Own w.heap.size w' zdD 5 l ll lc (L.flatMap zEI) /\
        ∀ x∈L,∀ w'',Fr (fun b=>b<w.heap.size\/b=b0\/b=b1\/∃ a,l=some a/\a.block=b) w' w''->IsT w'' x.t x.p x.c,
      fun _ _ _ k' _=>(xs.length-k').toNat,⟨Ext.refl _,by omega,by omega,rfl,fun b _ y hy=>(by cases hy),[],rfl,Own.nil,fun x hx=>(by cases hx)⟩,?_⟩
    rintro l ll lc k' w5 ⟨x5,hk0,hk1,rfl,hbl,L,hL,oL,hTL⟩
    have hLl:L.length=k'.toNat:=by have:=congrArg List.length hL; rw [List.length_map,List.length_take] at this; omega
    refine ⟨fun hlt=>?_,fun hge w6 x6=>?_⟩
    · have hT5:=hT.ext x5 _ _ _
      obtain ⟨x,p',c',hx,hmem,hIx,a1,a2,g0,g1,g2,g3,g4⟩:=hT5.at hk0 (by exact hlt)
      refine ⟨a1,hk0,hlt,a2,_,g0,_,g1,_,g2,_,g3,_,_,_,g4,fun b13 hb13 w14 x14=>?_⟩
      have h14:=zaa x14
      have hw14:=x5.trans h14
      refine (ih x hmem p' c' w14 (hIx.ext h14 _ _ _) (hEx x hmem)).mono fun v w15 ⟨e15,q,d,hv,hF⟩=>⟨e15,x.k,x.key,x.val,x.n,q,x.xs.length,d,hv,?_⟩
      have h515:=h14.trans e15
      have hw15:=x5.trans h515
      have oL15:=oL.ext h515
      have hns:∀ b∈[b0,b1,b13],∀ y,l=some y->y.block≠b:=fun b hb y hy=>by
        simp only [List.mem_cons,List.not_mem_nil,or_false] at hb
        rcases hb with rfl|rfl|rfl
        · exact hbl _ (by simp) y hy
        · exact hbl _ (by simp) y hy
        · have:=(oL.lt y hy).2; omega
      refine zo4 (v:=av x q d) ze7 (by omega) oL15 hw15.size hns rfl (by intro u hu; simp [Value.cells] at hu; rcases hu with rfl|rfl|rfl|rfl|rfl<;>rfl) (by omega) (by omega) (by omega) fun l' lc' w29 o29 g29 _ hb29=>⟨i64 (by omega),⟨g29.ext hw15 oL15,by omega,by omega,by omega,fun b hb y hy=>hb29 b (by simp at hb ⊢; omega) y hy,L++[⟨x,q,d⟩],?_,?_,?_⟩,by simp only []; omega⟩
      · rw [show (k'+1).toNat=k'.toNat+1 by omega,List.map_append,hL,List.take_add_one]
        have hx':xs[k'.toNat]?=some x:=hx
        rw [hx']; rfl
      · rw [List.flatMap_append]
        simpa [Value.cells,zEI,znw] using o29
      · have step:∀ (w0 w'':World),Ext w0 w15->w0.heap.size<=w15.heap.size->(∀ b,b<w.heap.size\/b=b0\/b=b1\/(∃ a,l=some a/\a.block=b)->True)->Fr (fun b=>b<w.heap.size\/b=b0\/b=b1\/∃ a,l'=some a/\a.block=b) w29 w''->Fr (fun b=>b<w.heap.size\/b=b0\/b=b1\/∃ a,l=some a/\a.block=b) w0 w'':=fun w0 w'' h0 hs _ fw=>by
          have f1:Fr (fun b=>b<w.heap.size\/b=b0\/b=b1\/∃ a,l=some a/\a.block=b) w0 w29:=(zac h0).tr (zaO g29 fun a ha=>.inr (.inr (.inr ⟨a,ha,rfl⟩)))
          refine f1.trans fw fun b hb=>?_
          rcases hb with h|h|h|⟨a2,ha2,hk2⟩
          · exact .inl (.inl h)
          · exact .inl (.inr (.inl h))
          · exact .inl (.inr (.inr (.inl h)))
          rcases g29.new with hn|hn
          · left
            rw [ha2] at hn
            cases hout:l with
            |none => rw [hout] at hn; simp [blk] at hn
            |some y => rw [hout] at hn; simp [blk] at hn; exact .inr (.inr (.inr ⟨y,rfl,by omega⟩))
          · right
            have:=hn a2 ha2
            omega
        intro y hy w'' fw
        rcases List.mem_append.1 hy with hy|hy
        · exact hTL y hy w'' (step w5 w'' h515 h515.size (fun _ _=>trivial) fw)
        · simp at hy; subst hy
          refine hF _ (fun b hb=>?_) w'' (step w15 w'' (Ext.refl _) (Nat.le_refl _) (fun _ _=>trivial) fw)
          rcases hb with h|h|h|⟨a,ha,rfl⟩
          · have:=hw14.size; omega
          · subst h; exact x14.lt _ (by simp)
          · subst h; exact x14.lt _ (by simp)
          · have:=(oL.lt a ha).2; have:=h14.size; omega
    · have hkl:k'.toNat=xs.length:=by omega
      rw [hkl,List.take_length] at hL
      rw [hkl] at oL hLl
      have hx6:Ext w w6:=zau x6 x5 (by intro d hd; simp at hd; omega)
      have f6:Fr (fun b=>b<w.heap.size\/b=b0\/b=b1\/∃ a,l=some a/\a.block=b) w5 w6:=zbB x6 (fun d hd=>by simp at hd; rcases hd with rfl|rfl<;>simp)
      refine ⟨hx6,l,lc,by rw [hkl]; rfl,fun S hS w'' fw=>?_⟩
      have fall:Fr (fun b=>b<w.heap.size\/b=b0\/b=b1\/∃ a,l=some a/\a.block=b) w5 w'':=f6.tr (fw.mono fun b hb=>.inl (hS b hb))
      have ol6:=(oL.but x6.toBut (fun d hd y hy=>hbl d (by simp at hd ⊢; omega) y hy)).fr fw (fun a ha hs=>by
        have:=hS _ hs
        have:=(oL.lt a ha).1
        omega)
      exact zID (t:=.mk k key val n xs) hL (by show xs.length<=lc; have:=oL.le; omega) (ol6.recs fun _ _=>rfl) fun x hx=>hTL x hx w'' fall
structure St where
  job:Jb
  what:Int
  host:Int
  since:Int
  again:Int
  tries:Int
structure StR where
  s:St
  pa:Option Addr
  ca:Nat
  pf:Option Addr
  cf:Nat
abbrev ztl (r:StR):List Value:=[.string r.s.job.user,.int .i64 r.s.job.prio,.int .i64 r.s.job.nd.c,.int .i64 r.s.job.nd.m,.int .i64 r.s.job.nd.g,.int .i64 r.s.job.ask.k,.string r.s.job.ask.key,.string r.s.job.ask.val,.int .i64 r.s.job.ask.n,.slice r.pa r.s.job.ask.xs.length r.ca,.slice r.pf r.s.job.aft.length r.cf,
  .int .i64 r.s.what,.int .i64 r.s.host,.int .i64 r.s.since,.int .i64 r.s.again,.int .i64 r.s.tries]
abbrev sv (r:StR):Value:=.agg #[.string r.s.job.user,.int .i64 r.s.job.prio,.int .i64 r.s.job.nd.c,.int .i64 r.s.job.nd.m,.int .i64 r.s.job.nd.g,.int .i64 r.s.job.ask.k,.string r.s.job.ask.key,.string r.s.job.ask.val,.int .i64 r.s.job.ask.n,.slice r.pa r.s.job.ask.xs.length r.ca,.slice r.pf r.s.job.aft.length r.cf,
  .int .i64 r.s.what,.int .i64 r.s.host,.int .i64 r.s.since,.int .i64 r.s.again,.int .i64 r.s.tries]
theorem zxQ (r:StR):(ztl r).length=16:=rfl
theorem zxR (r:StR):∀ u∈ztl r,u.oneCell'=true:=by
  intro u hu
  simp only [List.mem_cons,List.not_mem_nil,or_false] at hu
  rcases hu with rfl|rfl|rfl|rfl|rfl|rfl|rfl|rfl|rfl|rfl|rfl|rfl|rfl|rfl|rfl|rfl<;>rfl
theorem zDP (q:Option Addr) (c:Nat) (D:List Int) (h60:D.length<=1000) (w:World) (hD:zd4 .i64 w q D) :
    FnP Tryz.prog zce #[.slice q D.length c] w fun v w'=>Ext w w'/\∃ p' c',v=.slice p' D.length c'/\Own w.heap.size w' zgX 1 p' D.length c' (D.map (.int .i64)):=by
  refine zhh q D.length c w _ ⟨fun hn w0 h0=>?_,fun hn=>?_⟩
  · cases D with
    |nil => exact ⟨h0,none,0,rfl,Own.nil⟩
    |cons x r => exact absurd hn fun hq => zak (zd4.idx hD (i:=0) (by omega) (by simp)) (zah.2 hq)
  · exact zkt (Q:=fun v w'=>Ext w w'/\∃ p' c',v=.slice p' D.length c'/\Own w.heap.size w' zgX 1 p' D.length c' (D.map (.int .i64))) ze8 (by omega) hD (by simp) (by intro u hu; simp at hu; obtain ⟨x,_,rfl⟩:=hu; rfl) (by omega) (by omega) hn fun p' c' w' hx o=>⟨hx,p',c',rfl,o⟩
def SOut (w:World) (s:St) (v:Value) (w':World):Prop:=Ext w w'/\∃ r:StR,v=sv r/\r.s=s/\Far w.heap.size w' fun w''=>IsJ w'' s.job r.pa r.ca r.pf
theorem zCq (r:StR) (w:World) (hJ:IsJ w r.s.job r.pa r.ca r.pf) (hE:zey r.s.job.ask=0) (h8:r.s.job.aft.length<=8):FnP Tryz.prog ziP #[sv r] w (SOut w r.s):=by
  refine zwy r.s.job.user r.s.job.prio r.s.job.nd.c r.s.job.nd.m r.s.job.nd.g r.s.job.ask.k r.s.job.ask.key r.s.job.ask.val r.s.job.ask.n r.pa r.s.job.ask.xs.length r.ca r.pf r.s.job.aft.length r.cf r.s.what r.s.host r.s.since r.s.again r.s.tries w _ fun b0 hb0 b1 hb1 w2 x2=>?_
  have h2:=zaa x2
  refine (zDP r.pf r.cf r.s.job.aft (by omega) w2 (hJ.2.ext h2)).mono fun v w3 ⟨e3,pf,cf,hv,oF⟩=>⟨e3,pf,_,cf,hv,fun w7 x7=>?_⟩
  have h7:Ext w w7:=zau x7 (h2.trans e3) (by intro d hd; simp at hd; omega)
  have oF7:=oF.but x7.toBut (fun d hd y hy=>by simp at hd; subst hd; have:=(oF.lt y hy).1; have:=x2.lt d (by simp); omega)
  refine (zFs r.s.job.ask r.pa r.ca w7 (hJ.1.ext h7 _ _ _) hE).mono fun v w8 ⟨e8,pa,ca,hv,hF⟩=>⟨e8,_,_,_,_,pa,_,ca,hv,fun w16 x16=>?_⟩
  have h16:Ext w w16:=zau x16 (h7.trans e8) (by intro d hd; simp at hd; omega)
  refine ⟨h16,⟨r.s,pa,ca,pf,cf⟩,rfl,rfl,fun S hS w'' fw=>?_⟩
  have f816:Fr (fun b=>b=b0\/b=b1) w8 w16:=zbB x16 (fun d hd=>by simp at hd; rcases hd with rfl|rfl<;>simp)
  have fall:Fr (fun b=>b<w.heap.size\/b=b0\/b=b1) w8 w'':=(f816.mono fun b hb=>.inr hb).tr (fw.mono fun b hb=>.inl (hS b hb))
  have hb0':b0<w2.heap.size:=x2.lt b0 (by simp)
  have hb1':b1<w2.heap.size:=x2.lt b1 (by simp)
  have h27:w2.heap.size<=w7.heap.size:=Nat.le_trans e3.size x7.size
  refine ⟨hF _ (fun b hb=>?_) w'' fall,?_⟩
  · rcases hb with h|rfl|rfl
    · have:=h2.size; omega
    · omega
    · omega
  · exact ((oF7.ext e8).fr fall (fun a ha hs=>by
      have:=(oF.lt a ha).1
      have:=h2.size
      omega)).cells
theorem zGU (p:Option Addr) (c:Nat) (L:List Ht) (h30:L.length<=30) (h8:∀ h∈L,h.labels.length<=8) (w:World) (hL:zi8 w p L) :
    FnP Tryz.prog zdj #[.slice p L.length c] w fun v w'=>Ext w w'/\∃ p' c',∃ M:List Hm,v=.slice p' L.length c'/\M.map (·.h)=L/\Own w.heap.size w' ze3 8 p' L.length c' (M.flatMap ziV)/\(∀ m∈M,LbA w' p' m)/\∀ m∈M,LbN w.heap.size m:=by
  refine zne p L.length c w _ fun w0 h0=>?_
  obtain ⟨M0,hM0,hR0,hl0⟩:=hs_ms (hL.ext h0)
  have hlen0:M0.length=L.length:=by rw [<- hM0]; simp
  rw [<- hlen0]
  refine (zrd p c M0 (by omega) w0 hR0).mono fun v w1 ⟨e1,p',c',hv,o1⟩=>⟨e1,p',M0.length,c',hv,?_⟩
  have lt0:∀ m∈M0,LbA w1 p' m:=fun m hm=>⟨(hl0 m hm).ext e1,by
    cases hlb:m.h.labels with
    |nil => exact .inl rfl
    |cons x r =>
      refine .inr fun a b ha hb=>?_
      have:=(hl0 m hm).lt (x:=x) (by rw [hlb]; exact List.mem_cons_self ..) (by simp) a ha
      have:=(o1.lt b hb).1
      omega⟩
  refine ⟨fun k w'=>Ext w w'/\0<=k/\k<=M0.length/\∃ M:List Hm,M.map (·.h)=L/\Own w0.heap.size w' ze3 8 p' M0.length c' (M.flatMap ziV)/\(∀ m∈M,LbA w' p' m)/\∀ j,j<k.toNat->∀ m,M[j]?=some m->LbN w.heap.size m,fun k _=>(M0.length-k).toNat,⟨h0.trans e1,by omega,by omega,M0,hM0,o1,lt0,fun j hj=>by simp at hj⟩,?_⟩
  rintro k w7 ⟨x7,hk0,hk1,M,hM,o7,hA7,hN7⟩
  have hlen:M.length=M0.length:=by rw [hlen0,<- hM]; simp
  refine ⟨fun hlt=>?_,fun hge w8 h8=>⟨x7.trans h8,p',c',M,rfl,hM,(o7.ext h8).weak h0.size,fun m hm=>⟨(hA7 m hm).1.ext h8,(hA7 m hm).2⟩,fun m hm=>by
    obtain ⟨j,hj⟩:=List.mem_iff_getElem?.1 hm
    have hjl:=(List.getElem?_eq_some_iff.1 hj).1
    exact hN7 j (by omega) m hj⟩⟩
  have r7:zgm 8 ziV w7 p' M:=o7.recs fun _ _=>rfl
  have g:=r7.idx default hk0 (by omega) (j:=1) rfl
  have hp':=o7.ne1 (by omega) (by omega)
  have hm:=zap M default (i:=k.toNat) (by omega)
  generalize hmd:M.getD k.toNat default=m at g hm
  have hml:m.h∈L:=by rw [<- hM]; exact List.mem_map_of_mem hm
  refine ⟨hp',hk0,hlt,fun hq=>hp' (zah.1 hq),m.q,m.h.labels.length,m.d,by rw [zal]; exact g,fun w11 h11=>?_⟩
  refine (zxj m.q m.d m.h.labels (h8 _ hml) w11 ((hA7 m hm).1.ext h11)).mono fun v w12 ⟨e12,q',d',hv,hl',hn'⟩=>⟨e12,q',_,d',hv,hp',hk0,hlt,fun hq=>hp' (zah.1 hq),?_⟩
  have x12:=h11.trans e12
  have o12:=o7.ext x12
  refine zaR o12 znI (by rw [zeQ zfH]; simp; omega) (by simp) (by intro v hv; simp at hv; subst hv; rfl) (by simp) fun w16 o16 g16=>?_
  rw [zk5 zfH M k.toNat 1 [.slice q' m.h.labels.length d'] ⟨m.h,q',d'⟩ default (by omega) (by simp) (by rw [hmd]; rfl)] at o16
  have hmap:(M.set k.toNat ⟨m.h,q',d'⟩).map (·.h)=L:=by
    rw [List.map_set,hM]
    have hk:k.toNat<L.length:=by omega
    have:L[k.toNat]=m.h:=by
      have h1:(M.map (·.h)).getD k.toNat default=m.h:=by
        rw [<- hmd,List.getD_eq_getElem?_getD,List.getD_eq_getElem?_getD,List.getElem?_map,List.getElem?_eq_getElem (by omega:k.toNat<M.length)]; rfl
      rw [hM] at h1
      simpa [List.getD_eq_getElem?_getD,hk] using h1
    rw [<- this,List.set_getElem_self]
  refine ⟨i64 (by omega),⟨?_,by omega,by omega,_,hmap,o16,fun m' hm'=>?_,fun j hj m' hm'=>?_⟩,by simp only []; omega⟩
  · exact g16.ext (x7.trans x12) (o12.weak (by have:=h0.size; omega))
  · rcases List.mem_or_eq_of_mem_set hm' with hm'|rfl
    · exact ⟨ziY ((hA7 m' hm').1.ext x12) (hA7 m' hm').2 g16,(hA7 m' hm').2⟩
    · have ha:zbz q' p':=fun a b ha hb=>by
        have:=hn' a ha
        have:=(o7.lt b hb).2
        have:=h11.size
        omega
      exact ⟨ziY hl' (.inr ha) g16,.inr ha⟩
  · by_cases hjk:j=k.toNat
    · subst hjk
      rw [List.getElem?_set_self (by omega)] at hm'
      obtain rfl:=Option.some.inj hm'
      exact .inr fun a ha=>(by have:=hn' a ha; have:=x7.size; have:=h11.size; omega)
    · rw [List.getElem?_set_ne (by omega)] at hm'
      exact hN7 j (by omega) m' hm'
theorem zg3:zfu Tryz.prog zy2=some (zjG,16,184,.agg #[.string ⟨#[]⟩,.int .i64 0,.int .i64 0,.int .i64 0,.int .i64 0,.int .i64 0,.string ⟨#[]⟩,.string ⟨#[]⟩,.int .i64 0,.slice none 0 0,.slice none 0 0,.int .i64 0,.int .i64 0,.int .i64 0,.int .i64 0,.int .i64 0]):=by kernel_rfl
structure Pol where
  first:Int
  times:Int
  most:Int
  tries:Int
structure Fm where
  hosts:List Ht
  pol:Pol
  now:Int
  jobs:List St
structure Pl where
  hp:Option Addr
  hc:Nat
  jp:Option Addr
  jc:Nat
  R:List StR
instance:Inhabited St:=⟨⟨zc7,0,0,0,0,0⟩⟩
instance:Inhabited StR:=⟨⟨default,none,0,none,0⟩⟩
def ft (fb:Nat) (jp:Option Addr) (b:Nat):Prop:=b=fb\/∃ a,jp=some a/\a.block=b
def ftO (O:Nat->Prop) (fb:Nat) (jp:Option Addr) (b:Nat):Prop:=O b\/ft fb jp b
abbrev fcs (P:Pl) (F:Fm):List Value:=[.slice P.hp F.hosts.length P.hc,.int .i64 F.pol.first,.int .i64 F.pol.times,.int .i64 F.pol.most,.int .i64 F.pol.tries,.int .i64 F.now,.slice P.jp P.R.length P.jc]
structure FXO (O:Nat->Prop) (B:Nat) (w:World) (fb:Nat) (P:Pl) (F:Fm):Prop where
  slot:Own B w zc3 7 (ptr fb) 1 1 (fcs P F)
  arr:Own B w zjG 16 P.jp P.R.length P.jc (P.R.flatMap ztl)
  map:P.R.map (·.s)=F.jobs
  hs:∀ w'',Fr (ftO O fb P.jp) w w''->zi8 w'' P.hp F.hosts
  js:∀ r∈P.R,∀ w'',Fr (ftO O fb P.jp) w w''->IsJ w'' r.s.job r.pa r.ca r.pf
  ap:∀ a,P.jp=some a->a.block≠fb
  hO:F.hosts.length<=30/\∀ h∈F.hosts,zvh h
  jO:F.jobs.length<=60/\∀ s∈F.jobs,okJ s.job/\WfJ s.job
  olt:∀ b,O b->b<w.heap.size
  odis:∀ b,O b->¬ ft fb P.jp b
abbrev FX (B:Nat):=FXO (fun b=>b<B) B
section
variable {O:Nat->Prop} {B fb:Nat} {w:World} {P:Pl} {F:Fm}
theorem FXO.len (x:FXO O B w fb P F):P.R.length=F.jobs.length:=by have:=congrArg List.length x.map; simpa using this
theorem FXO.foot (x:FXO O B w fb P F) {b:Nat} (h:ft fb P.jp b):B<=b/\b<w.heap.size:=by
  rcases h with rfl|⟨a,ha,rfl⟩
  · exact x.slot.lt _ rfl
  · exact x.arr.lt a ha
theorem FXO.fr {S:Nat->Prop} {w':World} (x:FXO O B w fb P F) (f:Fr S w w') (hS:∀ b,S b->O b):FXO O B w' fb P F :=
  ⟨x.slot.fr f fun a ha hs=>x.odis _ (hS _ hs) (.inl (by cases ha; rfl)),x.arr.fr f fun a ha hs=>x.odis _ (hS _ hs) (.inr ⟨a,ha,rfl⟩),x.map,
    fun w'' k=>x.hs w'' ((f.mono fun b hb=>.inl (hS b hb)).tr k),fun r hr w'' k=>x.js r hr w'' ((f.mono fun b hb=>.inl (hS b hb)).tr k),x.ap,x.hO,x.jO,fun b hb=>Nat.lt_of_lt_of_le (x.olt b hb) f.size,x.odis⟩
theorem FXO.ext {w':World} (x:FXO O B w fb P F) (e:Ext w w'):FXO O B w' fb P F:=x.fr (zac (S:=fun _=>False) e) fun _ h=>h.elim
theorem FXO.recs (x:FXO O B w fb P F):zgm 16 ztl w P.jp P.R:=x.arr.recs fun _ _=>rfl
theorem FXO.cell (x:FXO O B w fb P F) {i:Nat} {v:Value} (h:(fcs P F)[i]?=some v):Go.Sx.cell w (pAdd (ptr fb) i) 0=some v:=by rw [zal]; exact x.slot.cells i v h
theorem FXO.st (x:FXO O B w fb P F) {k:Int} (h0:0<=k) (h1:k<F.jobs.length):∃ r,P.R[k.toNat]?=some r/\F.jobs[k.toNat]?=some r.s/\P.jp≠none/\pIdx P.jp k 16≠none/\(∀ (m:Nat) u,(ztl r)[m]?=some u->Go.Sx.cell w (pIdx P.jp k 16) m=some u)/\(∀ (m:Nat) u,(ztl r)[m]?=some u->Go.Sx.cell w (pAdd (pIdx P.jp k 16) m) 0=some u)/\IsJ w r.s.job r.pa r.ca r.pf/\okJ r.s.job/\WfJ r.s.job:=by
  have hl:=x.len
  obtain ⟨r,hr⟩:∃ r,P.R[k.toNat]?=some r:=⟨_,List.getElem?_eq_getElem (by omega)⟩
  have hm:=List.mem_of_getElem? hr
  have g:∀ (m:Nat) u,(ztl r)[m]?=some u->Go.Sx.cell w (pIdx P.jp k 16) m=some u:=fun m u hu=>x.recs.at h0 hr hu
  have g0:=g 0 _ rfl
  have hF:F.jobs[k.toNat]?=some r.s:=by rw [<- x.map,List.getElem?_map,hr]; rfl
  have hj:=x.jO.2 r.s (List.mem_of_getElem? hF)
  exact ⟨r,hr,hF,fun h=>zak g0 (zah.2 h),zak g0,g,fun m u hu=>by rw [zal]; exact g m u hu,x.js r hm w (Fr.refl _ w),hj.1,hj.2⟩
theorem FXO.slot_to {w':World} {F':Fm} {P':Pl} (x:FXO O B w fb P F) (o:Own B w' zc3 7 (ptr fb) 1 1 (fcs P' F')) (g:zb5 w w' (ptr fb) (ptr fb)) (hj:F'.jobs=F.jobs) (hR:P'.R=P.R) (hjp:P'.jp=P.jp) (hjc:P'.jc=P.jc)
    (hs:∀ w'',Fr (ftO O fb P.jp) w' w''->zi8 w'' P'.hp F'.hosts) (hO:F'.hosts.length<=30/\∀ h∈F'.hosts,zvh h):FXO O B w' fb P' F'/\Fr (ft fb P.jp) w w':=by
  have f:Fr (ft fb P.jp) w w':=zaO g fun a ha=>by cases ha; exact .inl rfl
  refine ⟨⟨o,?_,by rw [hR,hj]; exact x.map,by rw [hjp]; exact hs,fun r hr w'' k=>?_,by rw [hjp]; exact x.ap,hO,by rw [hj]; exact x.jO,fun b hb=>Nat.lt_of_lt_of_le (x.olt b hb) f.size,by rw [hjp]; exact x.odis⟩,f⟩
  · rw [hjp,hR,hjc]
    exact x.arr.st (fun u v hu hv=>by cases hv; exact x.ap u hu) g
  · rw [hR] at hr
    rw [hjp] at k
    exact x.js r hr w'' ((f.mono fun b hb=>.inr hb).tr k)
def zi4 (m:Nat) (v:Int) (s:St):St:=match m with
  |11 => { s with what:=v }
  |12 => { s with host:=v }
  |13 => { s with since:=v }
  |14 => { s with again:=v }
  |_ => { s with tries:=v }
def setF (F:Fm) (k:Nat) (s:St):Fm:={ F with jobs:=F.jobs.set k s }
def setP (P:Pl) (k:Nat) (s:St):Pl:={ P with R:=P.R.set k { P.R.getD k default with s:=s } }
theorem zk8 (m:Nat) (v:Int) (s:St):(zi4 m v s).job=s.job:=by unfold zi4; split<;>rfl
theorem FXO.set (x:FXO O B w fb P F) {k:Int} (h0:0<=k) (h1:k<F.jobs.length) {m:Nat} (hm:11<=m/\m<=15) (v:Int) {ns:List Nat} (hns:∀ b∈ns,¬ ft fb P.jp b) {K:World->Prop}
    (hk:∀ w',FXO O B w' fb (setP P k.toNat (zi4 m v (F.jobs.getD k.toNat default))) (setF F k.toNat (zi4 m v (F.jobs.getD k.toNat default)))->Fr (ft fb P.jp) w w'->K w'):zam w (pAdd (pIdx P.jp k 16) m) [.int .i64 v] ns K:=by
  have hl:=x.len
  have hg:(P.R.getD k.toNat default).s=F.jobs.getD k.toNat default:=by
    rw [<- x.map,List.getD_eq_getElem?_getD,List.getD_eq_getElem?_getD,List.getElem?_map,List.getElem?_eq_getElem (by omega:k.toNat<P.R.length)]; rfl
  refine zaR x.arr znI (by rw [zeQ zxQ]; simp; omega) (by simp) (by intro u hu; simp at hu; subst hu; rfl) (fun b hb y hy he=>hns b hb (.inr ⟨y,hy,he⟩)) fun w' o g=>?_
  have f:Fr (ft fb P.jp) w w':=zaO g fun a ha=>.inr ⟨a,ha,rfl⟩
  refine hk w' ⟨?_,?_,?_,fun w'' kf=>?_,fun r hr w'' kf=>?_,x.ap,x.hO,?_,fun b hb=>Nat.lt_of_lt_of_le (x.olt b hb) f.size,x.odis⟩ f
  · have:=x.slot.st (fun u y hu hy=>by cases hu; exact fun h=>x.ap y hy h.symm) g
    show Own B w' zc3 7 (ptr fb) 1 1 [_,_,_,_,_,_,.slice P.jp (P.R.set _ _).length P.jc]
    rw [List.length_set]
    exact this
  · rw [zk5 zxQ P.R k.toNat m [.int .i64 v] { P.R.getD k.toNat default with s:=zi4 m v (F.jobs.getD k.toNat default) } default (by omega) (by simp; omega) (by
      rw [<- hg]
      have:m=11\/m=12\/m=13\/m=14\/m=15:=by omega
      rcases this with rfl|rfl|rfl|rfl|rfl<;>rfl)] at o
    show Own B w' zjG 16 P.jp (P.R.set _ _).length P.jc _
    rw [List.length_set]
    exact o
  · show (P.R.set _ _).map (·.s)=F.jobs.set _ _
    rw [List.map_set,x.map]
  · exact x.hs w'' ((f.mono fun b hb=>.inr hb).tr kf)
  · have hr:r∈P.R.set k.toNat { P.R.getD k.toNat default with s:=zi4 m v (F.jobs.getD k.toNat default) }:=hr
    rcases List.mem_or_eq_of_mem_set hr with hr|rfl
    · exact x.js r hr w'' ((f.mono fun b hb=>.inr hb).tr kf)
    · have:=x.js _ (zap P.R default (i:=k.toNat) (by omega)) w'' ((f.mono fun b hb=>.inr hb).tr kf)
      rw [hg] at this
      show IsJ w'' (zi4 m v (F.jobs.getD k.toNat default)).job _ _ _
      rw [zk8]
      exact this
  · refine ⟨by show (F.jobs.set _ _).length<=60; rw [List.length_set]; exact x.jO.1,fun s hs=>?_⟩
    have hs:s∈F.jobs.set k.toNat (zi4 m v (F.jobs.getD k.toNat default)):=hs
    rcases List.mem_or_eq_of_mem_set hs with hs|rfl
    · exact x.jO.2 s hs
    · rw [zk8]
      exact x.jO.2 _ (zap F.jobs default (i:=k.toNat) (by omega))
theorem zEc (x:FXO O B w fb P F) (id:Int) (hid:InR .i64 id):FnP Tryz.prog za4 #[.pointer (ptr fb),.int .i64 id] w fun v w'=>Ext w w'/\((¬ (1<=id/\id<=F.jobs.length)/\v=.pointer none)\/(1<=id/\id<=F.jobs.length/\v=.pointer (pIdx P.jp (id-1) 16))):=by
  have hl:=x.len
  have hj:=x.jO.1
  have ne:=zaF fb
  refine zoY (ptr fb) id w _ ⟨fun _=>ne,fun _=>ne,fun h w0 h0=>⟨h0,.inl ⟨by omega,rfl⟩⟩,fun h=>⟨_,_,_,x.cell (i:=6) rfl,fun h2 w3 h3=>⟨h3,.inl ⟨by omega,rfl⟩⟩,fun h2=>⟨ne,ne,_,_,_,x.cell (i:=6) rfl,i64 (by omega),?_,by omega,by omega,fun w6 h6=>⟨h6,.inr ⟨h,by omega,rfl⟩⟩⟩⟩⟩
  obtain ⟨r,_,_,hp,_⟩:=x.st (k:=id-1) (by omega) (by omega)
  exact hp
def zko (F:Fm):Prop:=∀ (i:Nat) s,F.jobs[i]?=some s->∀ y∈s.job.aft,1<=y/\y<=i
def zaU (F:Fm) (id:Int):Int:=(F.jobs.getD (id-1).toNat default).what
theorem zlF (x:FXO O B w fb P F) {id:Int} (h:1<=id/\id<=F.jobs.length) {w':World} (e:Ext w w'):∃ q,pIdx P.jp (id-1) 16=q/\q≠none/\Go.Sx.cell w' (pAdd q 11) 0=some (.int .i64 (zaU F id)):=by
  obtain ⟨r,hr,hF,_,hne,_,g,_⟩:=(x.ext e).st (k:=id-1) (by omega) (by omega)
  refine ⟨_,rfl,hne,?_⟩
  have:=g 11 _ rfl
  unfold zaU
  rw [List.getD_eq_getElem?_getD,hF]
  exact this
theorem zFC (x:FXO O B w fb P F) {p1:Option Addr} (hc:Go.Sx.cell w p1 0=some (.pointer (ptr fb))) {id:Int} (h:1<=id/\id<=F.jobs.length):FnP Tryz.prog zc0 #[.int .i64 id,.pointer p1] w fun v w'=>Ext w w'/\v=.bool (decide (zaU F id≠3)):=by
  have hj:=x.jO.1
  refine zjd id p1 w _ ⟨_,hc,fun w1 h1=>(zEc (x.ext h1) id (i64 (by omega))).mono fun v w2 ⟨e2,hv⟩=>?_⟩
  rcases hv with ⟨hno,_⟩|⟨_,_,rfl⟩
  · exact absurd h hno
  · obtain ⟨q,hq,hne,hg⟩:=zlF x h (h1.trans e2)
    exact ⟨e2,_,rfl,by rw [hq]; exact hne,by rw [hq]; exact hne,_,by rw [hq]; exact hg,fun w5 h5=>⟨(h1.trans e2).trans h5,rfl⟩⟩
theorem zIQ (x:FXO O B w fb P F) {p1:Option Addr} (hc:Go.Sx.cell w p1 0=some (.pointer (ptr fb))) {id:Int} (h:1<=id/\id<=F.jobs.length):FnP Tryz.prog zdi #[.int .i64 id,.pointer p1] w fun v w'=>Ext w w'/\v=.bool (decide (zaU F id=4)||decide (zaU F id=5)):=by
  have hj:=x.jO.1
  refine zj1 id p1 w _ ⟨_,hc,fun w1 h1=>(zEc (x.ext h1) id (i64 (by omega))).mono fun v w2 ⟨e2,hv⟩=>?_⟩
  rcases hv with ⟨hno,_⟩|⟨_,_,rfl⟩
  · exact absurd h hno
  · obtain ⟨q,hq,hne,hg⟩:=zlF x h (h1.trans e2)
    exact ⟨e2,_,rfl,by rw [hq]; exact hne,by rw [hq]; exact hne,_,by rw [hq]; exact hg,fun w5 h5=>⟨(h1.trans e2).trans h5,rfl⟩⟩
def zfN (F:Fm) (s:St):Bool:=decide (s.what=1)&&decide (s.again<=F.now)&&s.job.aft.all fun y=>decide (zaU F y=3)
theorem zI9 (x:FXO O B w fb P F) (ha:zko F) {k:Int} (h0:0<=k) (h1:k<F.jobs.length):FnP Tryz.prog zdL #[.pointer (ptr fb),.pointer (pIdx P.jp k 16)] w fun v w'=>Ext w w'/\v=.bool (zfN F (F.jobs.getD k.toNat default)):=by
  refine zk0 (ptr fb) (pIdx P.jp k 16) w _ fun w0 e0=>zbt (by simp [Value.oneCell']) fun w1 o1 e1=>?_
  have e01:=e0.trans e1
  have x1:=x.ext e01
  obtain ⟨r,hr,hF,_,hne,_,g,hJ,hok,hwf⟩:=x1.st h0 h1
  have hg:F.jobs.getD k.toNat default=r.s:=by rw [List.getD_eq_getElem?_getD,hF]; rfl
  rw [hg]
  have c1:Go.Sx.cell w1 (some ⟨w0.heap.size,0,none⟩) 0=some (.pointer (ptr fb)):=(o1 0 (Nat.zero_le _)).cells 0 _ rfl
  have ne:=zaF fb
  refine ⟨hne,hne,_,g 11 _ rfl,fun _=>hne,fun _=>hne,fun hw=>⟨_,g 14 _ rfl,_,c1,ne,ne,_,x1.cell (i:=5) rfl,fun _=>hne,fun _=>hne,fun _=>by rw [zaK]; exact hne,fun hn=>⟨_,_,_,by rw [zaK]; exact g 10 _ rfl,fun w9 h9=>?_⟩,fun hn w6 h6=>⟨e01.trans h6,?_⟩⟩,fun hw w3 h3=>⟨e01.trans h3,?_⟩⟩
  · have hin:∀ y∈r.s.job.aft,1<=y/\y<=F.jobs.length:=fun y hy=>by have:=ha _ _ hF y hy; omega
    have hlen:=hok.len
    refine (znX r.pf r.cf r.s.job.aft (by omega) _ (fun y=>decide (zaU F y≠3)) w9 (hJ.2.ext h9) fun y hy w' hw'=>⟨zc0,#[.pointer (some ⟨w0.heap.size,0,none⟩)],rfl,zFC (x1.ext (h9.trans hw')) (zaG (h9.trans hw') c1) (hin y hy)⟩).mono fun v w10 ⟨e10,b,hv,hb⟩=>⟨e10,b,hv,fun w12 h12=>⟨e01.trans h12,?_⟩⟩
    unfold zfN
    have h1:decide (r.s.what=1)=true:=decide_eq_true hw
    have h2:decide (r.s.again<=F.now)=true:=decide_eq_true hn
    rw [h1,h2]
    simp only [Bool.true_and]
    congr 1
    cases b with
    |true =>
      obtain ⟨y,hy,h3⟩:=hb.1 rfl
      have:(r.s.job.aft.all fun y=>decide (zaU F y=3))=false:=by
        rw [List.all_eq_false]
        exact ⟨y,hy,by simpa using h3⟩
      rw [this]; rfl
    |false =>
      have:(r.s.job.aft.all fun y=>decide (zaU F y=3))=true:=by
        rw [List.all_eq_true]
        intro y hy
        by_cases h:zaU F y=3
        · simp [h]
        · exact absurd (hb.2 ⟨y,hy,by simpa using h⟩) (by simp)
      rw [this]; rfl
  · unfold zfN
    have:decide (r.s.again<=F.now)=false:=decide_eq_false (by omega)
    rw [this]; simp
  · unfold zfN
    have:decide (r.s.what=1)=false:=decide_eq_false hw
    rw [this]; simp
end
def okP (p0 p1 p2 p3:Int):Prop:=1<=p0/\p0<=1000000000/\1<=p1/\p1<=10/\p0<=p2/\p2<=1000000000/\0<=p3/\p3<=50
def dl (p0 p1 p2:Int):Nat->Int
  |0 => p0
  |k+1 => min (dl p0 p1 p2 k*p1) p2
theorem zGN {a b:Int} (ha:0<=a) (hb:1<=b):a<=a*b:=by
  have:=Int.mul_le_mul_of_nonneg_left hb ha
  omega
theorem zFh {a b:Int} (ha:0<=a) (hb:b<=10):a*b<=a*10:=Int.mul_le_mul_of_nonneg_left hb ha
theorem zog {p0 p1 p2 p3:Int} (h:okP p0 p1 p2 p3):∀ k,p0<=dl p0 p1 p2 k/\dl p0 p1 p2 k<=p2
  |0 => by unfold okP at h; simp only [dl]; omega
  |k+1 => by
    have ih:=zog h k
    unfold okP at h
    have:=zGN (a:=dl p0 p1 p2 k) (b:=p1) (by omega) (by omega)
    simp only [dl]
    omega
theorem zwb {x:Int} (h:-9223372036854775808<=x/\x<=9223372036854775807):InR .i64 x:=h
theorem zg7 {x:Int} (h:InR .i64 x):-9223372036854775808<=x/\x<=9223372036854775807:=h
theorem zyr (p0 p1 p2 p3:Int) (w:World):FnP Tryz.prog zeJ #[.agg #[.int .i64 p0,.int .i64 p1,.int .i64 p2,.int .i64 p3]] w fun v w'=>Ext w w'/\∃ e,v=.int .i64 e/\(okP p0 p1 p2 p3->e=0)/\(¬ okP p0 p1 p2 p3->e=4):=by
  refine zp5 _ _ _ _ w _ ?_
  intro b0 hb
  refine ⟨fun h w1 he=>⟨he,4,rfl,fun hk=>?_,fun _=>rfl⟩,fun h w1 he=>⟨he,0,rfl,fun _=>rfl,fun hn=>?_⟩⟩<;>unfold okP at *<;>omega
def errD (p0 p1 p2 p3 n e:Int):Prop:=(¬ okP p0 p1 p2 p3->e=4)/\(okP p0 p1 p2 p3->(n<1\/p3<n)->e=5)/\(okP p0 p1 p2 p3->(1<=n/\n<=p3)->e=0)
theorem zHX (p0 p1 p2 p3 n:Int) (hn:InR .i64 n) (w:World):FnP Tryz.prog zeK #[.agg #[.int .i64 p0,.int .i64 p1,.int .i64 p2,.int .i64 p3],.int .i64 n] w fun v w' =>
    Ext w w'/\∃ a e,v=.tuple #[.int .i64 a,.int .i64 e]/\errD p0 p1 p2 p3 n e/\(e≠0->a=0)/\(e=0->a=dl p0 p1 p2 (n-1).toNat):=by
  refine zp6 _ _ _ _ _ w _ ?_
  have hn:=zg7 hn
  intro b0 hb w1 h1
  refine (zyr _ _ _ _ w1).mono fun v w2 ⟨h2,e,he,ho,hno⟩=>⟨h2,e,he,fun hne w4 h4=>⟨h4,0,e,rfl,?_,fun _=>rfl,fun h0=>absurd h0 hne⟩,fun he0=>?_⟩
  · have:¬ okP p0 p1 p2 p3:=fun h=>hne (ho h)
    exact ⟨hno,fun h=>absurd h this,fun h=>absurd h this⟩
  · have hok:okP p0 p1 p2 p3:=by
      by_cases h:okP p0 p1 p2 p3
      · exact h
      · have:=hno h; omega
    refine ⟨fun hr w4 h4=>⟨h4,0,5,rfl,⟨fun h=>absurd hok h,fun _ _=>rfl,fun _ h=>by omega⟩,fun _=>rfl,fun h=>by omega⟩,fun hr=>⟨zwb (by omega),?_⟩⟩
    refine ⟨fun d k w'=>Ext w w'/\0<=k/\k<=n-1/\d=dl p0 p1 p2 k.toNat,fun d k _=>(n-1-k).toNat,⟨Ext.refl w,by omega,by omega,rfl⟩,?_⟩
    rintro d k w7 ⟨hw,hk0,hk1,rfl⟩
    have hd:=zog hok k.toNat
    have hm1:=zFh (a:=dl p0 p1 p2 k.toNat) (b:=p1) (by unfold okP at hok; omega) (by unfold okP at hok; omega)
    have hm2:=zGN (a:=dl p0 p1 p2 k.toNat) (b:=p1) (by unfold okP at hok; omega) (by unfold okP at hok; omega)
    unfold okP at hok
    refine ⟨fun hlt=>⟨zwb (by omega),zwb (by omega),⟨hw,by omega,by omega,?_⟩,by simp only []; omega⟩,fun hge w8 h8=>⟨hw.trans h8,_,0,rfl,⟨fun h=>absurd hok h,fun _ h=>by omega,fun _ _=>rfl⟩,fun h=>absurd rfl h,fun _=>?_⟩⟩
    · rw [show (k+1).toNat=k.toNat+1 by omega]; rfl
    · rw [show k=n-1 by omega]
abbrev zoO (p:Pol):Prop:=okP p.first p.times p.most p.tries
def zxL (p:Pol) (n:Int):Int:=dl p.first p.times p.most (n-1).toNat
def stF (F:Fm) (k m:Nat) (v:Int):Fm:=setF F k (zi4 m v (F.jobs.getD k default))
def zaf (F:Fm) (k:Nat):St:=F.jobs.getD k default
theorem zcv (F:Fm) (k m:Nat) (v:Int):(stF F k m v).jobs.length=F.jobs.length:=by simp [stF,setF]
theorem znO (F:Fm) (k m:Nat) (v:Int):(stF F k m v).hosts=F.hosts:=rfl
theorem zqa (F:Fm) {k m:Nat} (v:Int) (hk:k<F.jobs.length) (i:Nat):zaf (stF F k m v) i=if i=k then zi4 m v (zaf F k) else zaf F i:=by
  unfold zaf stF setF
  simp only [List.getD_eq_getElem?_getD,List.getElem?_set]
  by_cases h:k=i
  · subst h; simp [hk]
  · have h':¬ i=k:=fun h2=>h h2.symm
    simp [h,h']
theorem zsu (F:Fm) {k m:Nat} (v:Int) (hk:k<F.jobs.length):(stF F k m v).jobs.map (·.job)=F.jobs.map (·.job):=by
  unfold stF setF
  rw [List.map_set,zk8]
  refine List.ext_getElem? fun i=>?_
  rw [List.getElem?_set]
  by_cases h:k=i
  · subst h
    simp [List.getD_eq_getElem?_getD,hk]
  · simp [h]
theorem zD7 {F G:Fm} (h:G.jobs.map (·.job)=F.jobs.map (·.job)) (ha:zko F):zko G:=by
  intro i s hs y hy
  have h1:(G.jobs.map (·.job))[i]?=some s.job:=by rw [List.getElem?_map,hs]; rfl
  rw [h,List.getElem?_map] at h1
  obtain ⟨s',hs',e⟩:=Option.map_eq_some_iff.1 h1
  exact ha i s' hs' y (by rw [e]; exact hy)
theorem zqA {F:Fm} {k m:Nat} {v:Int} (hk:k<F.jobs.length) (ha:zko F):zko (stF F k m v):=zD7 (zsu F v hk) ha
theorem zzy {F:Fm} {k:Nat} (h:k<F.jobs.length):F.jobs[k]?=some (zaf F k):=by simp [zaf,List.getD_eq_getElem?_getD,h]
theorem zg8 {F:Fm} {k:Nat} {s:St} (h:F.jobs[k]?=some s):zaf F k=s:=by simp [zaf,List.getD_eq_getElem?_getD,h]
section
variable {O:Nat->Prop} {B fb:Nat} {w:World} {P:Pl} {F:Fm}
theorem zG5 (x:FXO O B w fb P F) (hn0:0<=F.now/\F.now<=1099511627776) (n:Int):FnP Tryz.prog zcX #[.pointer (ptr fb),.int .i64 n] w fun v w'=>∃ e:Int,v=.int .i64 e /\
    ((e≠0/\e=4/\Ext w w')\/(e=0/\(0<=n/\n<=1000000000/\F.now+n<=1099511627776)/\FXO O B w' fb P { F with now:=F.now+n }/\Fr (ft fb P.jp) w w'))/\(e=0↔(0<=n/\n<=1000000000/\F.now+n<=1099511627776)):=by
  have ne:=zaF fb
  refine zma (ptr fb) n w _ ⟨fun _=>ne,fun _=>ne,fun h w0 h0=>⟨4,rfl,.inl ⟨by decide,rfl,h0⟩,by omega⟩,fun h=>⟨_,x.cell (i:=5) rfl,i64 (by omega),fun h2 w1 h1=>⟨4,rfl,.inl ⟨by decide,rfl,h1⟩,by omega⟩,fun h2=>⟨ne,ne,_,x.cell (i:=5) rfl,i64 (by omega),ne,ne,?_⟩⟩⟩
  refine zaR (off:=5) x.slot rfl (by simp) (by simp) (by intro u hu; simp at hu; subst hu; rfl) (by simp) fun w2 o2 g2 w3 h3=>?_
  obtain ⟨y,f⟩:=x.slot_to (F':={ F with now:=F.now+n }) (P':=P) o2 g2 rfl rfl rfl rfl (fun w'' k=>x.hs w'' (((zaO g2 fun a ha=>by cases ha; exact .inr (.inl rfl))).tr k)) x.hO
  exact ⟨0,rfl,.inr ⟨rfl,⟨h.1,h.2,h2⟩,y.ext h3,f.tr (zac h3)⟩,by omega⟩
def zJM (F:Fm) (s:St):Bool:=s.job.aft.any fun y=>decide (zaU F y=4)||decide (zaU F y=5)
def zb2 (F:Fm) (k:Nat):Fm:=if (zaf F k).what=1/\zJM F (zaf F k)=true then stF F k 11 5 else F
def lostTo (F:Fm):Nat->Fm
  |0 => F
  |n+1 => zb2 (lostTo F n) n
def zpO (F:Fm):Fm:=lostTo F F.jobs.length
theorem ztT (F:Fm) (k:Nat):(zb2 F k).jobs.length=F.jobs.length:=by unfold zb2; split<;>simp [zcv]
theorem zgu (F:Fm):∀ n,(lostTo F n).jobs.length=F.jobs.length
  |0 => rfl
  |n+1 => by rw [lostTo,ztT,zgu F n]
theorem zqU {F:Fm} (ha:zko F):∀ n,n<=F.jobs.length->zko (lostTo F n)
  |0,_ => ha
  |n+1,h => by
    have ih:=zqU ha n (by omega)
    rw [lostTo,zb2]
    split
    · exact zqA (by rw [zgu]; omega) ih
    · exact ih
theorem FXO.put (x:FXO O B w fb P F) {k:Int} (h0:0<=k) (h1:k<F.jobs.length) {m:Nat} (hm:11<=m/\m<=15) (v:Int) {ns:List Nat} (hns:∀ b∈ns,¬ ft fb P.jp b) {K:World->Prop}
    (hk:∀ w' P',P'.jp=P.jp->FXO O B w' fb P' (stF F k.toNat m v)->Fr (ft fb P.jp) w w'->K w'):zam w (pAdd (pIdx P.jp k 16) m) [.int .i64 v] ns K:=x.set h0 h1 hm v hns fun w' y f=>hk w' (setP P k.toNat (zi4 m v (F.jobs.getD k.toNat default))) rfl y f
theorem zGK (x:FXO O B w fb P F) (ha:zko F):FnP Tryz.prog zaz #[.pointer (ptr fb)] w fun v w'=>v=.tuple #[]/\∃ P',P'.jp=P.jp/\FXO O B w' fb P' (zpO F)/\Fr (ft fb P.jp) w w':=by
  have ne:=zaF fb
  refine zmb (ptr fb) w _ fun w0 e0=>zbt (by simp [Value.oneCell']) fun w1 o1 e1=>?_
  have e01:=e0.trans e1
  have x1:=x.ext e01
  generalize hp1:(some ⟨w0.heap.size,0,none⟩:Option Addr)=p1
  rw [hp1] at o1
  have o1':=o1 w0.heap.size (Nat.le_refl _)
  have c1:Go.Sx.cell w1 p1 0=some (.pointer (ptr fb)):=o1'.cells 0 _ rfl
  have np:∀ a,p1=some a->¬ ft fb P.jp a.block:=fun a ha hf=>by
    have:=(x.foot hf).2
    have:=(o1'.lt a ha).1
    have:=e0.size
    omega
  have hl0:=x.jO.1
  refine ⟨_,c1,ne,ne,_,_,_,x1.cell (i:=6) rfl,?_⟩
  rw [x1.len]
  refine ⟨fun k w'=>0<=k/\k<=F.jobs.length/\Fr (ft fb P.jp) w1 w'/\∃ P',P'.jp=P.jp/\FXO O B w' fb P' (lostTo F k.toNat),fun k _=>(F.jobs.length-k).toNat,⟨by omega,by omega,Fr.refl _ _,P,rfl,x1⟩,?_⟩
  rintro k w8 ⟨hk0,hk1,f8,P',hP,x8⟩
  have ll:=zgu F k.toNat
  refine ⟨fun hlt=>?_,fun hge w9 h9=>⟨rfl,P',hP,?_,((zac e01).tr f8).tr (zac h9)⟩⟩
  · have c8:Go.Sx.cell w8 p1 0=some (.pointer (ptr fb)):=zdm c1 f8 np
    obtain ⟨r,hr,hF,hjp,hne,_,g,hJ,hok,hwf⟩:=x8.st hk0 (by omega)
    have hja:zaf (lostTo F k.toNat) k.toNat=r.s:=zg8 hF
    have nxt:∀ {w},FXO O B w fb P' (zb2 (lostTo F k.toNat) k.toNat)->FXO O B w fb P' (lostTo F (k+1).toNat):=fun h=>by rw [show (k+1).toNat=k.toNat+1 by omega]; exact h
    have same:¬ (r.s.what=1/\zJM (lostTo F k.toNat) r.s=true)->lostTo F (k+1).toNat=lostTo F k.toNat:=fun h=>by
      rw [show (k+1).toNat=k.toNat+1 by omega,lostTo,zb2,hja,if_neg h]
    refine ⟨_,c8,ne,ne,_,_,_,x8.cell (i:=6) rfl,hjp,hk0,by rw [x8.len]; omega,hne,hne,_,g 11 _ rfl,fun _=>hne,fun _=>hne,fun _=>by rw [zaK]; exact hne,fun hw=>?_,fun hw=>⟨i64 (by omega),⟨by omega,by omega,f8,P',hP,by rw [same fun h=>hw h.1]; exact x8⟩,by simp only []; omega⟩⟩
    refine ⟨_,_,_,by rw [zaK]; exact g 10 _ rfl,fun w17 h17=>?_⟩
    have hin:∀ y∈r.s.job.aft,1<=y/\y<=(lostTo F k.toNat).jobs.length:=fun y hy=>by have:=zqU ha k.toNat (by omega) _ _ hF y hy; omega
    have hlen:=hok.len
    refine (znX r.pf r.cf r.s.job.aft (by omega) _ (fun y=>decide (zaU (lostTo F k.toNat) y=4)||decide (zaU (lostTo F k.toNat) y=5)) w17 (hJ.2.ext h17) fun y hy w' hw'=>⟨zdi,#[.pointer p1],rfl,zIQ (x8.ext (h17.trans hw')) (zaG (h17.trans hw') c8) (hin y hy)⟩).mono fun v w18 ⟨e18,b,hv,hb⟩=>⟨e18,b,hv,fun hbt=>⟨hne,hne,?_⟩,fun hbf=>⟨i64 (by omega),⟨by omega,by omega,f8,P',hP,?_⟩,by simp only []; omega⟩⟩
    · have hbad:zJM (lostTo F k.toNat) r.s=true:=by
        obtain ⟨y,hy,h3⟩:=hb.1 hbt
        exact List.any_eq_true.2 ⟨y,hy,h3⟩
      refine x8.put hk0 (by omega) (by omega) 5 (by simp) fun w20 P'' hP'' x20 f20=>⟨i64 (by omega),⟨by omega,by omega,f8.tr (by rw [hP] at f20; exact f20),P'',hP''.trans hP,?_⟩,by simp only []; omega⟩
      rw [show (k+1).toNat=k.toNat+1 by omega,lostTo,zb2,hja,if_pos ⟨hw,hbad⟩]
      exact x20
    · rw [same fun h=>?_]
      · exact x8
      · obtain ⟨y,hy,h3⟩:=List.any_eq_true.1 h.2
        have:=hb.2 ⟨y,hy,h3⟩
        rw [hbf] at this; cases this
  · have:k.toNat=F.jobs.length:=by omega
    rw [this] at x8
    exact x8.ext h9
def LvOk (F:Fm) (k:Nat):Prop:=zjW F.hosts/\0<=(zaf F k).host/\(zaf F k).host<F.hosts.length/\zjn (zaf F k).job.nd (F.hosts.getD (zaf F k).host.toNat default).used
def zkD (F:Fm) (k:Nat):Fm:={ F with hosts:=F.hosts.set (zaf F k).host.toNat (zhX (F.hosts.getD (zaf F k).host.toNat default) (zhK (F.hosts.getD (zaf F k).host.toNat default).used (zaf F k).job.nd)) }
def zdI (F:Fm) (k:Nat):Fm:=stF (stF (zkD F k) k 12 0) k 13 0
theorem zBZ (x:FXO O B w fb P F) {k:Int} (h0:0<=k) (h1:k<F.jobs.length) (hv:LvOk F k.toNat):FnP Tryz.prog zbO #[.pointer (ptr fb),.pointer (pIdx P.jp k 16)] w fun v w'=>v=.tuple #[]/\∃ P',P'.jp=P.jp/\FXO O B w' fb P' (zdI F k.toNat)/\Fr (ft fb P.jp) w w':=by
  have ne:=zaF fb
  obtain ⟨r,hr,hF,hjp,hne,_,g,hJ,hok,hwf⟩:=x.st h0 h1
  have hja:zaf F k.toNat=r.s:=zg8 hF
  unfold LvOk at hv
  rw [hja] at hv
  refine zkZ (ptr fb) (pIdx P.jp k 16) w _ ⟨ne,ne,_,_,_,x.cell (i:=0) rfl,hne,hne,_,g 12 _ rfl,hne,hne,by rw [zaK]; exact hne,by rw [zaK]; exact fun h=>hne (zcV.1 h),_,by rw [zaK]; exact g 2 _ rfl,_,by rw [zaK,zal]; have:=g 3 _ rfl; rw [zal] at this; exact this,_,by rw [zaK,zal]; have:=g 4 _ rfl; rw [zal] at this; exact this,fun w7 h7=>?_⟩
  have x7:=x.ext h7
  have hO:=x.hO
  refine (Give_k P.hp P.hc F.hosts (by omega) hO.2 r.s.host r.s.job.nd w7 (x7.hs w7 (Fr.refl _ _))).mono fun v w8 ⟨e8,p',n',c',e,hv',hcase⟩=>⟨e8,p',n',c',e,hv',ne,ne,?_⟩
  rcases hcase with ⟨_,_,hno⟩|⟨_,_,_,_,rfl,_,hS⟩
  · exact absurd ⟨hok.nd,hv.2.2.2⟩ (hno hv.1 hv.2.1 hv.2.2.1)
  have x8:=x7.ext e8
  refine zaR (off:=0) x8.slot rfl (by simp) (by simp) (by intro u hu; simp at hu; subst hu; rfl) (by simp) fun w13 o13 g13=>⟨hne,hne,?_⟩
  have hG:zkD F k.toNat={ F with hosts:=F.hosts.set r.s.host.toNat (zhX (F.hosts.getD r.s.host.toNat default) (zhK (F.hosts.getD r.s.host.toNat default).used r.s.job.nd)) }:=by unfold zkD; rw [hja]
  have fg:Fr (ft fb P.jp) w8 w13:=zaO g13 fun a ha=>by cases ha; exact .inl rfl
  obtain ⟨y,f13⟩:=x8.slot_to (F':=zkD F k.toNat) (P':={ P with hp:=p',hc:=c' }) (by
    rw [hG]
    show Own B w13 zc3 7 (ptr fb) 1 1 [.slice p' (F.hosts.set _ _).length c',_,_,_,_,_,_]
    rw [List.length_set]; exact o13) g13 rfl rfl rfl rfl (fun w'' kf=>by
      rw [hG]
      exact hS (ftO O fb P.jp) (fun b hb=>by
        rcases hb with hb|hb
        · exact x7.olt b hb
        · exact (x7.foot hb).2) w'' ((fg.mono fun b hb=>.inr hb).tr kf)) (by
    rw [hG]
    refine ⟨by show (F.hosts.set _ _).length<=30; rw [List.length_set]; exact hO.1,fun h hh=>?_⟩
    have hh:h∈F.hosts.set r.s.host.toNat (zhX (F.hosts.getD r.s.host.toNat default) (zhK (F.hosts.getD r.s.host.toNat default).used r.s.job.nd)):=hh
    rcases List.mem_or_eq_of_mem_set hh with hh|rfl
    · exact hO.2 h hh
    · have:=hO.2 _ (zap F.hosts default (i:=r.s.host.toNat) (by omega))
      exact ⟨this.1,this.2.1,this.2.2⟩)
  refine y.put (k:=k) h0 h1 (by omega) 0 (by simp) fun w14 P1 hP1 y14 f14=>⟨hne,hne,?_⟩
  have hP1:P1.jp=P.jp:=hP1
  have:=y14.put (k:=k) (m:=13) h0 (by rw [zcv]; exact h1) (by omega) 0 (ns:=[]) (by simp) (K:=fun w15=>∀ w16,Ext w15 w16->Value.tuple #[]=.tuple #[]/\∃ P',P'.jp=P.jp/\FXO O B w16 fb P' (zdI F k.toNat)/\Fr (ft fb P.jp) w w16) fun w15 P2 hP2 y15 f15 w16 h16=>⟨rfl,P2,hP2.trans hP1,y15.ext h16,?_⟩
  · rw [hP1] at this; exact this
  · rw [hP1] at f15
    exact (((((zac h7).tr (zac e8)).tr f13).tr f14).tr f15).tr (zac h16)
end
def ztZ (j:Jb):St:=⟨j,1,0,0,0,0⟩
def zsY (F:Fm) (j:Jb):Fm:={ F with jobs:=F.jobs++[ztZ j] }
def zzL (F:Fm) (j:Jb):Prop:=okJ j/\F.jobs.length≠60/\∀ y∈j.aft,y<=F.jobs.length/\zaU F y≠4/\zaU F y≠5
structure Pre (F:Fm):Prop where
  aft:zko F
  pol:zoO F.pol
  now:0<=F.now/\F.now<=1099511627776
  run:∀ k,k<F.jobs.length->(zaf F k).what=2->LvOk F k
  tries:∀ k,k<F.jobs.length->0<=(zaf F k).tries/\(zaf F k).tries<=100
def zE1 (w:World) (fb:Nat) (jp jp':Option Addr):Prop:=∀ b,ft fb jp' b->ft fb jp b\/w.heap.size<=b
def inJ (F:Fm) (id:Int):Prop:=1<=id/\id<=F.jobs.length
def zHj (F:Fm) (j:Jb) (e:Int):Prop:=(zsV j≠0/\e=zsV j)\/(zsV j=0/\((F.jobs.length=60/\e=7)\/(F.jobs.length≠60/\(((∃ y∈j.aft,¬ (1<=y/\y<=F.jobs.length))/\e=5)\/((∀ y∈j.aft,1<=y/\y<=F.jobs.length) /\
  (((∃ y∈j.aft,zaU F y=4\/zaU F y=5)/\e=9)\/((∀ y∈j.aft,zaU F y≠4/\zaU F y≠5)/\e=0)))))))
theorem zHj.one {F:Fm} {j:Jb} {e f:Int} (h:zHj F j e) (g:zHj F j f):e=f:=by
  rcases h with ⟨h1,rfl⟩|⟨h1,h⟩<;>rcases g with ⟨g1,rfl⟩|⟨g1,g⟩
  · rfl
  · exact absurd g1 h1
  · exact absurd h1 g1
  rcases h with ⟨h2,rfl⟩|⟨h2,h⟩<;>rcases g with ⟨g2,rfl⟩|⟨g2,g⟩
  · rfl
  · exact absurd h2 g2
  · exact absurd g2 h2
  rcases h with ⟨⟨y,hy,h3⟩,rfl⟩|⟨h3,h⟩<;>rcases g with ⟨⟨z,hz,g3⟩,rfl⟩|⟨g3,g⟩
  · rfl
  · exact absurd (g3 y hy) h3
  · exact absurd (h3 z hz) g3
  rcases h with ⟨⟨y,hy,h4⟩,rfl⟩|⟨h4,rfl⟩<;>rcases g with ⟨⟨z,hz,g4⟩,rfl⟩|⟨g4,rfl⟩
  · rfl
  · have:=g4 y hy; omega
  · have:=h4 z hz; omega
  · rfl
def zsS (F:Fm) (id e:Int):Prop:=(¬ inJ F id/\e=5)\/(inJ F id/\e=9)
theorem zsS.one {F:Fm} {id e f:Int} (h:zsS F id e) (g:zsS F id f):e=f:=by
  rcases h with ⟨h1,rfl⟩|⟨h1,rfl⟩<;>rcases g with ⟨g1,rfl⟩|⟨g1,rfl⟩
  · rfl
  · exact absurd g1 h1
  · exact absurd h1 g1
  · rfl
section
variable {O:Nat->Prop} {B fb:Nat} {w:World} {P:Pl} {F:Fm}
theorem zds (F:Fm) (k:Nat):(zdI F k).jobs.length=F.jobs.length:=by unfold zdI; rw [zcv,zcv]; rfl
theorem zrP {F:Fm} {k:Nat} (hk:k<F.jobs.length) (i:Nat):zaf (zdI F k) i=if i=k then { zaf F k with host:=0,since:=0 } else zaf F i:=by
  unfold zdI
  have hk':k<(zkD F k).jobs.length:=hk
  rw [zqa _ _ (by rw [zcv]; exact hk'),zqa _ _ hk',if_pos rfl]
  split
  · rfl
  · rename_i h
    rw [zqa _ _ hk',if_neg h]; rfl
theorem zs8 {F:Fm} {k:Nat} (hk:k<F.jobs.length) (ha:zko F):zko (zdI F k):=by
  unfold zdI
  have hk':k<(zkD F k).jobs.length:=hk
  exact zqA (by rw [zcv]; exact hk') (zqA hk' ha)
def zfl (F:Fm) (k:Nat):Fm:=stF (zdI F k) k 15 ((zaf F k).tries+1)
def zsW (F:Fm) (k:Nat) (ok:Bool):Fm :=
  if ok=true then stF (zdI F k) k 11 3
  else if (zaf F k).tries+1<=F.pol.tries then stF (stF (zfl F k) k 11 1) k 14 (F.now+zxL F.pol ((zaf F k).tries+1))
  else zpO (stF (zfl F k) k 11 4)
def zy9 (F:Fm) (k:Nat):Fm:=zpO (stF (if (zaf F k).what=2 then zdI F k else F) k 11 5)
theorem FXO.at_ (x:FXO O B w fb P F) {id:Int} (h:inJ F id):pIdx P.jp (id-1) 16≠none/\(∀ (m:Nat) u,(ztl ⟨zaf F (id-1).toNat,none,0,none,0⟩)[m]?=some u->11<=m->Go.Sx.cell w (pAdd (pIdx P.jp (id-1) 16) m) 0=some u):=by
  obtain ⟨r,hr,hF,_,hne,_,g,_⟩:=x.st (k:=id-1) (by have:=h.1; omega) (by have:=h.2; omega)
  refine ⟨hne,fun m u hu hm=>g m u ?_⟩
  rw [zg8 hF] at hu
  match m,hm with
  |m+11,_ =>
    rw [<- hu]
    rfl
theorem zyy (x:FXO O B w fb P F) (hp:Pre F) (id:Int) (hid:InR .i64 id) (ok:Bool) :
    FnP Tryz.prog zbe #[.pointer (ptr fb),.int .i64 id,.bool ok] w fun v w'=>∃ e:Int,v=.int .i64 e/\(e=0↔inJ F id/\(zaf F (id-1).toNat).what=2)/\((e≠0/\zsS F id e/\Ext w w')\/(e=0/\∃ P',P'.jp=P.jp/\FXO O B w' fb P' (zsW F (id-1).toNat ok)/\Fr (ft fb P.jp) w w')):=by
  have ne:=zaF fb
  refine zj0 (ptr fb) id ok w _ fun w0 h0=>(zEc (x.ext h0) id hid).mono fun v w1 ⟨e1,hv⟩=>⟨e1,?_⟩
  have h1:=h0.trans e1
  rcases hv with ⟨hno,rfl⟩|⟨hi0,hi1,rfl⟩
  · exact ⟨_,rfl,fun _ w3 h3=>⟨5,rfl,⟨fun h=>(by cases h),fun h=>absurd h.1 hno⟩,.inl ⟨by decide,.inl ⟨hno,rfl⟩,h1.trans h3⟩⟩,fun h=>absurd rfl h⟩
  have hin:inJ F id:=⟨hi0,hi1⟩
  have x1:=x.ext h1
  obtain ⟨hne,g⟩:=x1.at_ hin
  have hk:(id-1).toNat<F.jobs.length:=by omega
  refine ⟨_,rfl,fun h=>absurd h hne,fun _=>⟨hne,hne,_,g 11 _ rfl (by omega),fun hw w4 h4=>⟨9,rfl,⟨fun h=>(by cases h),fun h=>absurd h.2 hw⟩,.inl ⟨by decide,.inr ⟨hin,rfl⟩,h1.trans h4⟩⟩,fun hw w4 h4=>?_⟩⟩
  have hiff:(0:Int)=0↔inJ F id/\(zaf F (id-1).toNat).what=2:=⟨fun _=>⟨hin,hw⟩,fun _=>rfl⟩
  refine (zBZ (x1.ext h4) (k:=id-1) (by omega) (by omega) (hp.run _ hk hw)).mono fun v w5 ⟨hv,P1,hP1,y5,f5⟩=>⟨hv,fun hok=>⟨hne,hne,?_⟩,fun hok=>?_⟩
  · have hin5:inJ (zdI F (id-1).toNat) id:=⟨hi0,by rw [zds]; exact hi1⟩
    have:=y5.put (k:=id-1) (m:=11) (by omega) (by rw [zds]; omega) (by omega) 3 (ns:=[]) (by simp) (K:=fun w6=>∀ w7,Ext w6 w7->∃ e:Int,Value.int .i64 0=.int .i64 e/\(e=0↔inJ F id/\(zaf F (id-1).toNat).what=2)/\((e≠0/\zsS F id e/\Ext w w7)\/(e=0/\∃ P',P'.jp=P.jp/\FXO O B w7 fb P' (zsW F (id-1).toNat ok)/\Fr (ft fb P.jp) w w7))) fun w6 P2 hP2 y6 f6 w7 h7=>⟨0,rfl,hiff,.inr ⟨rfl,P2,hP2.trans hP1,?_,?_⟩⟩
    · rw [hP1] at this; exact this
    · unfold zsW; rw [if_pos hok]; exact y6.ext h7
    · rw [hP1] at f6
      exact ((((zac h1).tr (zac h4)).tr f5).tr f6).tr (zac h7)
  have hkl:(id-1).toNat<(zdI F (id-1).toNat).jobs.length:=by rw [zds]; exact hk
  have hin5:inJ (zdI F (id-1).toNat) id:=⟨hi0,by rw [zds]; exact hi1⟩
  obtain ⟨_,g5⟩:=y5.at_ hin5
  rw [hP1,zrP hk,if_pos rfl] at g5
  have htr:=hp.tries _ hk
  refine ⟨hne,hne,_,g5 15 _ rfl (by omega),i64 (by simp only []; omega),hne,hne,?_⟩
  have goal:∀ {w7:World} {P2:Pl},P2.jp=P.jp->FXO O B w7 fb P2 (zfl F (id-1).toNat)->Fr (ft fb P.jp) w w7->(ptr fb≠none/\ptr fb≠none/\(pAdd (ptr fb) 1)≠none /\
      ∃ t8:Int,Go.Sx.cell w7 (pAdd (ptr fb) 1) 0=some (.int .i64 t8)/\∃ t9:Int,Go.Sx.cell w7 (pAdd (ptr fb) 1) 1=some (.int .i64 t9)/\∃ t10:Int,Go.Sx.cell w7 (pAdd (ptr fb) 1) 2=some (.int .i64 t10)/\∃ t11:Int,Go.Sx.cell w7 (pAdd (ptr fb) 1) 3=some (.int .i64 t11) /\
      (pIdx P.jp (id-1) 16)≠none/\(pIdx P.jp (id-1) 16)≠none/\∃ t12:Int,Go.Sx.cell w7 (pAdd (pIdx P.jp (id-1) 16) 15) 0=some (.int .i64 t12) /\
      ∀ w13,Ext w7 w13->FnP Tryz.prog zeK #[(.agg #[(.int .i64 t8),(.int .i64 t9),(.int .i64 t10),(.int .i64 t11)]),(.int .i64 t12)] w13 fun v14 w14=>Ext w13 w14/\∃ t15:Int,∃ t16:Int,v14=(.tuple #[(.int .i64 t15),(.int .i64 t16)]) /\
        (((t16≠0)->(pIdx P.jp (id-1) 16)≠none/\(pIdx P.jp (id-1) 16)≠none/\zam w7 (pAdd (pIdx P.jp (id-1) 16) 11) [(.int .i64 4)] [] fun w17=>∀ w18,Ext w17 w18 ->
           FnP Tryz.prog zaz #[(.pointer (ptr fb))] w18 fun v19 w19=>v19=(.tuple #[])/\∀ w20,Ext w19 w20->∃ e:Int,Value.int .i64 0=.int .i64 e/\(e=0↔inJ F id/\(zaf F (id-1).toNat).what=2)/\((e≠0/\zsS F id e/\Ext w w20)\/(e=0/\∃ P',P'.jp=P.jp/\FXO O B w20 fb P' (zsW F (id-1).toNat ok)/\Fr (ft fb P.jp) w w20)))) /\
        ((t16=0)->ptr fb≠none/\ptr fb≠none/\∃ t17:Int,Go.Sx.cell w7 (pAdd (ptr fb) 5) 0=some (.int .i64 t17)/\InR .i64 (t17+t15)/\(pIdx P.jp (id-1) 16)≠none/\(pIdx P.jp (id-1) 16)≠none /\
          zam w7 (pAdd (pIdx P.jp (id-1) 16) 11) [(.int .i64 1)] [] fun w18=>(pIdx P.jp (id-1) 16)≠none/\(pIdx P.jp (id-1) 16)≠none/\zam w18 (pAdd (pIdx P.jp (id-1) 16) 14) [(.int .i64 (t17+t15))] [] fun w19=>∀ w20,Ext w19 w20 ->
            ∃ e:Int,Value.int .i64 0=.int .i64 e/\(e=0↔inJ F id/\(zaf F (id-1).toNat).what=2)/\((e≠0/\zsS F id e/\Ext w w20)\/(e=0/\∃ P',P'.jp=P.jp/\FXO O B w20 fb P' (zsW F (id-1).toNat ok)/\Fr (ft fb P.jp) w w20)))):=by
    intro w7 P2 hP2 y7 f7
    have hin7:inJ (zfl F (id-1).toNat) id:=⟨hi0,by unfold zfl; rw [zcv,zds]; exact hi1⟩
    obtain ⟨_,g7⟩:=y7.at_ hin7
    have hat7:zaf (zfl F (id-1).toNat) (id-1).toNat={ zaf F (id-1).toNat with host:=0,since:=0,tries:=(zaf F (id-1).toNat).tries+1 }:=by
      unfold zfl
      rw [zqa _ _ hkl,if_pos rfl,zrP hk,if_pos rfl]; rfl
    rw [hP2,hat7] at g7
    have hlt:(zfl F (id-1).toNat).jobs.length=F.jobs.length:=by unfold zfl; rw [zcv,zds]
    have hpl:(zfl F (id-1).toNat).pol=F.pol:=rfl
    have hnw:(zfl F (id-1).toNat).now=F.now:=rfl
    have pc:∀ (i:Nat) (v:Value),(fcs P2 (zfl F (id-1).toNat))[1+i]?=some v->Go.Sx.cell w7 (pAdd (ptr fb) 1) i=some v:=fun i v hv=>by
      have:=y7.cell hv
      rw [zal] at this ⊢
      exact this
    have hdly:1<=(zaf F (id-1).toNat).tries+1:=by omega
    refine ⟨ne,ne,(fun h=>ne (zcV.1 h)),_,pc 0 _ rfl,_,pc 1 _ rfl,_,pc 2 _ rfl,_,pc 3 _ rfl,hne,hne,_,g7 15 _ rfl (by omega),fun w13 h13=>?_⟩
    refine (zHX F.pol.first F.pol.times F.pol.most F.pol.tries _ (i64 (by simp only []; omega)) w13).mono fun v w14 ⟨e14,d,e,hv,herr,_,hd⟩=>⟨e14,d,e,hv,fun hne'=>⟨hne,hne,?_⟩,fun hz=>⟨ne,ne,_,y7.cell (i:=5) rfl,?_,hne,hne,?_⟩⟩
    · have hgt:¬ (zaf F (id-1).toNat).tries+1<=F.pol.tries:=fun h=>hne' (herr.2.2 hp.pol ⟨hdly,h⟩)
      have:=y7.put (k:=id-1) (m:=11) (by omega) (by rw [hlt]; omega) (by omega) 4 (ns:=[]) (by simp) (K:=fun w17=>∀ w18,Ext w17 w18 ->
           FnP Tryz.prog zaz #[(.pointer (ptr fb))] w18 fun v19 w19=>v19=(.tuple #[])/\∀ w20,Ext w19 w20->∃ e:Int,Value.int .i64 0=.int .i64 e/\(e=0↔inJ F id/\(zaf F (id-1).toNat).what=2)/\((e≠0/\zsS F id e/\Ext w w20)\/(e=0/\∃ P',P'.jp=P.jp/\FXO O B w20 fb P' (zsW F (id-1).toNat ok)/\Fr (ft fb P.jp) w w20))) fun w17 P3 hP3 y17 f17 w18 h18=>(zGK (y17.ext h18) (zqA (by rw [hlt]; exact hk) (zqA hkl (zs8 hk hp.aft)))).mono fun v w19 ⟨hv,P4,hP4,y19,f19⟩=>⟨hv,fun w20 h20=>⟨0,rfl,hiff,.inr ⟨rfl,P4,hP4.trans (hP3.trans hP2),?_,?_⟩⟩⟩
      · rw [hP2] at this; exact this
      · unfold zsW; rw [if_neg (by rw [hok]; simp),if_neg hgt]; exact y19.ext h20
      · rw [hP3,hP2] at f19
        rw [hP2] at f17
        exact (((f7.tr f17).tr (zac h18)).tr f19).tr (zac h20)
    · have hle:(zaf F (id-1).toNat).tries+1<=F.pol.tries:=by
        by_cases h:(zaf F (id-1).toNat).tries+1<=F.pol.tries
        · exact h
        · have:=herr.2.1 hp.pol (.inr (by simp only []; omega)); omega
      have hdb:=zog hp.pol ((zaf F (id-1).toNat).tries+1-1).toNat
      have hd':d=dl F.pol.first F.pol.times F.pol.most ((zaf F (id-1).toNat).tries+1-1).toNat:=hd hz
      have hpp:=hp.pol
      have hnn:=hp.now
      unfold zoO okP at hpp
      rw [hnw]
      exact i64 (by omega)
    · have hle:(zaf F (id-1).toNat).tries+1<=F.pol.tries:=by
        by_cases h:(zaf F (id-1).toNat).tries+1<=F.pol.tries
        · exact h
        · have:=herr.2.1 hp.pol (.inr (by simp only []; omega)); omega
      have hd':d=zxL F.pol ((zaf F (id-1).toNat).tries+1):=hd hz
      have:=y7.put (k:=id-1) (m:=11) (by omega) (by rw [hlt]; omega) (by omega) 1 (ns:=[]) (by simp) (K:=fun w18=>(pIdx P.jp (id-1) 16)≠none/\(pIdx P.jp (id-1) 16)≠none/\zam w18 (pAdd (pIdx P.jp (id-1) 16) 14) [(.int .i64 (F.now+d))] [] fun w19=>∀ w20,Ext w19 w20 ->
            ∃ e:Int,Value.int .i64 0=.int .i64 e/\(e=0↔inJ F id/\(zaf F (id-1).toNat).what=2)/\((e≠0/\zsS F id e/\Ext w w20)\/(e=0/\∃ P',P'.jp=P.jp/\FXO O B w20 fb P' (zsW F (id-1).toNat ok)/\Fr (ft fb P.jp) w w20))) fun w18 P3 hP3 y18 f18=>⟨hne,hne,?_⟩
      · rw [hP2] at this; exact this
      have hP3:=hP3.trans hP2
      have:=y18.put (k:=id-1) (m:=14) (by omega) (by rw [zcv,hlt]; omega) (by omega) (F.now+d) (ns:=[]) (by simp) (K:=fun w19=>∀ w20,Ext w19 w20 ->
            ∃ e:Int,Value.int .i64 0=.int .i64 e/\(e=0↔inJ F id/\(zaf F (id-1).toNat).what=2)/\((e≠0/\zsS F id e/\Ext w w20)\/(e=0/\∃ P',P'.jp=P.jp/\FXO O B w20 fb P' (zsW F (id-1).toNat ok)/\Fr (ft fb P.jp) w w20))) fun w19 P4 hP4 y19 f19 w20 h20=>⟨0,rfl,hiff,.inr ⟨rfl,P4,hP4.trans hP3,?_,?_⟩⟩
      · rw [hP3] at this; exact this
      · unfold zsW; rw [if_neg (by rw [hok]; simp),if_pos hle,<- hd']; exact y19.ext h20
      · rw [hP3] at f19
        rw [hP2] at f18
        exact ((f7.tr f18).tr f19).tr (zac h20)
  have:=y5.put (k:=id-1) (m:=15) (by omega) (by rw [zds]; omega) (by omega) ((zaf F (id-1).toNat).tries+1) (ns:=[]) (by simp) fun w7 P2 hP2 y7 f7=>goal (hP2.trans hP1) y7 (by
    rw [hP1] at f7
    exact (((zac h1).tr (zac h4)).tr f5).tr f7)
  rw [hP1] at this
  exact this
theorem zxC (x:FXO O B w fb P F) (hp:Pre F) (id:Int) (hid:InR .i64 id) :
    FnP Tryz.prog zcj #[.pointer (ptr fb),.int .i64 id] w fun v w'=>∃ e:Int,v=.int .i64 e/\(e=0↔inJ F id/\((zaf F (id-1).toNat).what=1\/(zaf F (id-1).toNat).what=2))/\((e≠0/\zsS F id e/\Ext w w')\/(e=0/\∃ P',P'.jp=P.jp/\FXO O B w' fb P' (zy9 F (id-1).toNat)/\Fr (ft fb P.jp) w w')):=by
  have ne:=zaF fb
  refine zjZ (ptr fb) id w _ fun w0 h0=>(zEc (x.ext h0) id hid).mono fun v w1 ⟨e1,hv⟩=>⟨e1,?_⟩
  have h1:=h0.trans e1
  rcases hv with ⟨hno,rfl⟩|⟨hi0,hi1,rfl⟩
  · exact ⟨_,rfl,fun _ w3 h3=>⟨5,rfl,⟨fun h=>(by cases h),fun h=>absurd h.1 hno⟩,.inl ⟨by decide,.inl ⟨hno,rfl⟩,h1.trans h3⟩⟩,fun h=>absurd rfl h⟩
  have hin:inJ F id:=⟨hi0,hi1⟩
  have x1:=x.ext h1
  obtain ⟨hne,g⟩:=x1.at_ hin
  have hk:(id-1).toNat<F.jobs.length:=by omega
  have g11:=g 11 _ rfl (by omega)
  have fin:∀ {w6:World} {P1:Pl} {G:Fm},P1.jp=P.jp->FXO O B w6 fb P1 G->G.jobs.length=F.jobs.length->zko G->Fr (ft fb P.jp) w w6->zy9 F (id-1).toNat=zpO (stF G (id-1).toNat 11 5)->((zaf F (id-1).toNat).what=1\/(zaf F (id-1).toNat).what=2) ->
      zam w6 (pAdd (pIdx P.jp (id-1) 16) 11) [(.int .i64 5)] [] fun w7=>∀ w8,Ext w7 w8->FnP Tryz.prog zaz #[(.pointer (ptr fb))] w8 fun v9 w9=>v9=(.tuple #[])/\∀ w10,Ext w9 w10 ->
        ∃ e:Int,Value.int .i64 0=.int .i64 e/\(e=0↔inJ F id/\((zaf F (id-1).toNat).what=1\/(zaf F (id-1).toNat).what=2))/\((e≠0/\zsS F id e/\Ext w w10)\/(e=0/\∃ P',P'.jp=P.jp/\FXO O B w10 fb P' (zy9 F (id-1).toNat)/\Fr (ft fb P.jp) w w10)):=by
    intro w6 P1 G hP1 y6 hGl hGa f6 hc hw
    have:=y6.put (k:=id-1) (m:=11) (by omega) (by omega) (by omega) 5 (ns:=[]) (by simp) (K:=fun w7=>∀ w8,Ext w7 w8->FnP Tryz.prog zaz #[(.pointer (ptr fb))] w8 fun v9 w9=>v9=(.tuple #[])/\∀ w10,Ext w9 w10 ->
        ∃ e:Int,Value.int .i64 0=.int .i64 e/\(e=0↔inJ F id/\((zaf F (id-1).toNat).what=1\/(zaf F (id-1).toNat).what=2))/\((e≠0/\zsS F id e/\Ext w w10)\/(e=0/\∃ P',P'.jp=P.jp/\FXO O B w10 fb P' (zy9 F (id-1).toNat)/\Fr (ft fb P.jp) w w10))) fun w7 P2 hP2 y7 f7 w8 h8=>(zGK (y7.ext h8) (zqA (by omega) hGa)).mono fun v w9 ⟨hv,P3,hP3,y9,f9⟩=>⟨hv,fun w10 h10=>⟨0,rfl,⟨fun _=>⟨hin,hw⟩,fun _=>rfl⟩,.inr ⟨rfl,P3,hP3.trans (hP2.trans hP1),?_,?_⟩⟩⟩
    · rw [hP1] at this; exact this
    · rw [hc]; exact y9.ext h10
    · rw [hP2,hP1] at f9
      rw [hP1] at f7
      exact (((f6.tr f7).tr (zac h8)).tr f9).tr (zac h10)
  refine ⟨_,rfl,fun h=>absurd h hne,fun _=>⟨hne,hne,_,g11,fun _=>hne,fun _=>hne,fun hw1=>⟨_,g11,fun hw2 w5 h5=>⟨9,rfl,⟨fun h=>(by cases h),fun h=>(h.2.elim (fun h=>hw1 h) (fun h=>hw2 h)).elim⟩,.inl ⟨by decide,.inr ⟨hin,rfl⟩,h1.trans h5⟩⟩,fun hw2=>⟨hne,hne,_,g11,fun _ w6 h6=>?_,fun h=>absurd hw2 h⟩⟩,fun hw1=>⟨hne,hne,_,g11,fun h=>by omega,fun hw2=>⟨hne,hne,?_⟩⟩⟩⟩
  · refine (zBZ (x1.ext h6) (k:=id-1) (by omega) (by omega) (hp.run _ hk hw2)).mono fun v w7 ⟨hv,P1,hP1,y7,f7⟩=>⟨hv,hne,hne,?_⟩
    exact fin hP1 y7 (zds _ _) (zs8 hk hp.aft) (((zac h1).tr (zac h6)).tr f7) (by unfold zy9; rw [if_pos hw2]) (.inr hw2)
  · exact fin rfl x1 rfl hp.aft (zac h1) (by unfold zy9; rw [if_neg hw2]) (.inl hw1)
end
def zo3 (F:Fm) (id:Int):Int:=(zaf F (id-1).toNat).job.prio
def zcr (F:Fm) (a b:Int):Prop:=zo3 F b<zo3 F a\/zo3 F a=zo3 F b/\a<b
def zjg (F:Fm):Nat->List Int
  |0 => []
  |k+1 => if zfN F (zaf F k)=true then zjg F k++[(k:Int)+1] else zjg F k
abbrev rdy (F:Fm):List Int:=zjg F F.jobs.length
theorem zgv {F:Fm} {x:Int}:∀ {k:Nat},x∈zjg F k↔1<=x/\x<=k/\zfN F (zaf F (x-1).toNat)=true
  |0 => by simp [zjg]; omega
  |k+1 => by
    have ih:=zgv (F:=F) (x:=x) (k:=k)
    unfold zjg
    split
    · rename_i h
      rw [List.mem_append,ih]
      constructor
      · rintro (⟨h1,h2,h3⟩|h1)
        · exact ⟨h1,by omega,h3⟩
        · simp at h1; subst h1
          exact ⟨by omega,by omega,by rw [show ((k:Int)+1-1).toNat=k by omega]; exact h⟩
      · rintro ⟨h1,h2,h3⟩
        by_cases h4:x<=k
        · exact .inl ⟨h1,h4,h3⟩
        · exact .inr (by simp; omega)
    · rename_i h
      rw [ih]
      constructor
      · rintro ⟨h1,h2,h3⟩; exact ⟨h1,by omega,h3⟩
      · rintro ⟨h1,h2,h3⟩
        refine ⟨h1,?_,h3⟩
        by_cases h4:x<=k
        · exact h4
        · have:(x-1).toNat=k:=by omega
          rw [this] at h3
          exact absurd h3 h
theorem zhj (F:Fm):∀ k,(zjg F k).Nodup
  |0 => by simp [zjg]
  |k+1 => by
    unfold zjg
    split
    · refine List.nodup_append.2 ⟨zhj F k,by simp,fun a ha b hb=>?_⟩
      simp at hb; subst hb
      have:=(zgv.1 ha).2.1
      omega
    · exact zhj F k
theorem zo5 (F:Fm):∀ k,(zjg F k).length<=k
  |0 => by simp [zjg]
  |k+1 => by
    have:=zo5 F k
    unfold zjg
    split
    · rw [List.length_append]; simp; omega
    · omega
def zqM (F:Fm) (k:Int):Ht:=F.hosts.getD k.toNat default
def zld (G:Fm) (k0:Nat) (k:Int):Fm:={ G with hosts:=G.hosts.set k.toNat (zhX (zqM G k) (zvl (zqM G k).used (zaf G k0).job.nd)) }
def zsX (G:Fm) (k0:Nat) (k:Int):Fm:=stF (stF (stF (zld G k0 k) k0 11 2) k0 12 k) k0 13 G.now
theorem zJh (G:Fm) (k0:Nat) (k:Int):(zsX G k0 k).jobs.length=G.jobs.length:=by unfold zsX; rw [zcv,zcv,zcv]; rfl
theorem run_at {G:Fm} {k0:Nat} (hk:k0<G.jobs.length) (k:Int) (i:Nat):zaf (zsX G k0 k) i=if i=k0 then { zaf G k0 with what:=2,host:=k,since:=G.now } else zaf G i:=by
  unfold zsX
  have hk':k0<(zld G k0 k).jobs.length:=hk
  rw [zqa _ _ (by rw [zcv,zcv]; exact hk'),zqa _ _ (by rw [zcv]; exact hk'),zqa _ _ hk',if_pos rfl,if_pos rfl]
  split
  · rfl
  · rename_i h
    rw [zqa _ _ (by rw [zcv]; exact hk'),if_neg h,zqa _ _ hk',if_neg h]; rfl
theorem zFM {G:Fm} {k0:Nat} (hk:k0<G.jobs.length) (k:Int):(zsX G k0 k).jobs.map (·.job)=G.jobs.map (·.job):=by
  unfold zsX
  have hk':k0<(zld G k0 k).jobs.length:=hk
  rw [zsu _ _ (by rw [zcv,zcv]; exact hk'),zsu _ _ (by rw [zcv]; exact hk'),zsu _ _ hk']; rfl
theorem zIZ {a b c:Nd} (ha:okN a) (hb:okN b) (hc:okN c) (h:zjn a (zhK c b)):okN (zvl b a)/\zjn (zvl b a) c:=by
  unfold okN zjn zhK zvl at *
  simp only at *
  omega
theorem zt5 {L:List Ht} {i:Nat} (h:zjW L) (hi:i<L.length) {s:Nd} (h1:okN s) (h2:zjn s (L.getD i default).has):zjW (L.set i (zhX (L.getD i default) s)):=by
  have hm:=zap L default (i:=i) hi
  refine ⟨by rw [List.length_set]; exact h.1,fun x hx=>?_,?_⟩
  · rcases List.mem_or_eq_of_mem_set hx with hx|rfl
    · exact h.2.1 x hx
    · obtain ⟨a,b,c,d,_,_⟩:=h.2.1 _ hm
      exact ⟨a,b,c,d,h1,h2⟩
  · have:(L.set i (zhX (L.getD i default) s)).map (·.name)=L.map (·.name):=by
      rw [List.map_set]
      refine List.ext_getElem? fun j=>?_
      rw [List.getElem?_set]
      by_cases hj:i=j
      · subst hj
        simp [List.getD_eq_getElem?_getD,hi,zhX]
      · simp [hj]
    rw [this]
    exact h.2.2
theorem zt4 {G:Fm} {k0:Nat} {k:Int} (h:zjW G.hosts) (h0:0<=k) (h1:k<G.hosts.length) (ha:okN (zaf G k0).job.nd) (hf:zjn (zaf G k0).job.nd (zhK (zqM G k).has (zqM G k).used)):zjW (zld G k0 k).hosts:=by
  have hm:=zap G.hosts default (i:=k.toNat) (by omega)
  obtain ⟨_,_,_,c,d,_⟩:=h.2.1 _ hm
  obtain ⟨a1,a2⟩:=zIZ ha d c hf
  exact zt5 h (by omega) a1 a2
abbrev zzo (G:Fm) (id:Int):List Int:=zcs G.hosts (zaf G (id-1).toNat).job.ask (zaf G (id-1).toNat).job.nd G.hosts.length
inductive zpE:Fm->List Int->Fm->List (Int×Int)->Prop
  |nil (F:Fm):zpE F [] F []
  |skip {F F':Fm} {id:Int} {ids:List Int} {out:List (Int×Int)}:zzo F id=[]->zpE F ids F' out->zpE F (id::ids) F' out
  |run {F F':Fm} {id k:Int} {ids:List Int} {out:List (Int×Int)}:zh2 F.hosts (zaf F (id-1).toNat).job.ask (zaf F (id-1).toNat).job.nd k->zpE (zsX F (id-1).toNat k) ids F' out->zpE F (id::ids) F' ((id,k)::out)
theorem zpE.snoc_skip {F F':Fm} {id:Int} {ids:List Int} {out:List (Int×Int)} (h:zpE F ids F' out) (hs:zzo F' id=[]):zpE F (ids++[id]) F' out:=by
  induction h with
  |nil F => exact .skip hs (.nil F)
  |skip h1 _ ih => exact .skip h1 (ih hs)
  |run h1 _ ih => exact .run h1 (ih hs)
theorem zpE.snoc_run {F F':Fm} {id k:Int} {ids:List Int} {out:List (Int×Int)} (h:zpE F ids F' out) (hs:zh2 F'.hosts (zaf F' (id-1).toNat).job.ask (zaf F' (id-1).toNat).job.nd k):zpE F (ids++[id]) (zsX F' (id-1).toNat k) (out++[(id,k)]):=by
  induction h with
  |nil F => exact .run hs (.nil _)
  |skip h1 _ ih => exact .skip h1 (ih hs)
  |run h1 _ ih => exact .run h1 (ih hs)
theorem zpE.one {F F1:Fm} {ids:List Int} {o1:List (Int×Int)} (h:zpE F ids F1 o1):∀ {F2:Fm} {o2:List (Int×Int)},zpE F ids F2 o2->F1=F2/\o1=o2:=by
  induction h with
  |nil F => intro F2 o2 g; cases g; exact ⟨rfl,rfl⟩
  |skip h1 _ ih =>
    intro F2 o2 g
    cases g with
    |skip _ g2 => exact ih g2
    |run g1 _ => have:=g1.1; unfold zzo at h1; rw [h1] at this; cases this
  |run h1 _ ih =>
    intro F2 o2 g
    cases g with
    |skip g1 _ => have:=h1.1; unfold zzo at g1; rw [g1] at this; cases this
    |run g1 g2 =>
      obtain rfl:=zEf h1 g1
      obtain ⟨rfl,rfl⟩:=ih g2
      exact ⟨rfl,rfl⟩
def zHf (F:Fm) (T:List Int):Prop:=T.Perm (rdy F)/\T.Pairwise (zcr F)
theorem zs9 {F:Fm} {a b:Int} (h:zcr F a b):¬ zcr F b a:=by unfold zcr at *; omega
theorem zCp {F:Fm}:∀ {T U:List Int},T.Perm U->T.Pairwise (zcr F)->U.Pairwise (zcr F)->T=U
  |[],U,hp,_,_ => by have:=hp.length_eq; simp at this; exact (List.eq_nil_of_length_eq_zero this.symm).symm
  |t::T,[],hp,_,_ => by have:=hp.length_eq; simp at this
  |t::T,u::U,hp,h1,h2 => by
    rw [List.pairwise_cons] at h1 h2
    have htu:t=u:=by
      rcases List.mem_cons.1 (hp.mem_iff.1 (List.mem_cons_self ..)) with h|h
      · exact h
      rcases List.mem_cons.1 (hp.mem_iff.2 (List.mem_cons_self ..)) with g|g
      · exact g.symm
      exact absurd (h1.1 u g) (zs9 (h2.1 t h))
    subst htu
    rw [zCp (List.Perm.cons_inv hp) h1.2 h2.2]
def zfU (F G:Fm) (out:List (Int×Int)):Prop:=∃ T,zHf F T/\zpE F T G out
theorem zj3 {F G1 G2:Fm} {o1 o2:List (Int×Int)} (h:zfU F G1 o1) (g:zfU F G2 o2):G1=G2/\o1=o2:=by
  obtain ⟨T,⟨a1,a2⟩,a3⟩:=h
  obtain ⟨U,⟨b1,b2⟩,b3⟩:=g
  obtain rfl:=zCp (a1.trans b1.symm) a2 b2
  exact a3.one b3
def encO (x:Int×Int):List Value:=[.int .i64 x.1,.int .i64 x.2]
structure QS (n:Nat) (Sq:Nat->Prop) (F:Fm) (qb:Nat) (w':World) (H:List Th):Prop where
  ex:∃ mb born p c m,QQ n w' qb mb born p c H m/\Rel H m/\∀ b,zhQ mb qb p H b->Sq b
  ids:Ids H
  pr:∀ t∈H,t.prio=zo3 F t.id
  bo:∀ t∈H,∀ u∈H,t.id<u.id->t.born<u.born
theorem QS.ext {n:Nat} {Sq:Nat->Prop} {F:Fm} {qb:Nat} {w w':World} {H:List Th} (q:QS n Sq F qb w H) (e:Ext w w'):QS n Sq F qb w' H:=by
  obtain ⟨mb,born,p,c,m,h1,h2,h3⟩:=q.ex
  exact ⟨⟨mb,born,p,c,m,h1.ext e,h2,h3⟩,q.ids,q.pr,q.bo⟩
theorem QS.fr {n:Nat} {Sq S:Nat->Prop} {F:Fm} {qb:Nat} {w w':World} {H:List Th} (q:QS n Sq F qb w H) (f:Fr S w w') (hS:∀ b,Sq b->¬ S b):QS n Sq F qb w' H:=by
  obtain ⟨mb,born,p,c,m,h1,h2,h3⟩:=q.ex
  exact ⟨⟨mb,born,p,c,m,h1.fr f fun b hb=>hS b (h3 b hb),h2,h3⟩,q.ids,q.pr,q.bo⟩
def zFz (qb:Nat) (w:World):Nat:=match Go.Sx.cell w (ptr qb) 0 with|some (.slice _ n _)=>n|_=>0
theorem QS.len {n:Nat} {Sq:Nat->Prop} {F:Fm} {qb:Nat} {w:World} {H:List Th} (q:QS n Sq F qb w H):zFz qb w=H.length:=by
  obtain ⟨mb,born,p,c,m,h1,_⟩:=q.ex
  have:Go.Sx.cell w (ptr qb) 0=some (.slice p H.length c):=h1.qi.slot.cells 0 _ rfl
  unfold zFz; rw [this]
def OQ (O Sq:Nat->Prop) (out:Option Addr) (b:Nat):Prop:=O b\/Sq b\/∃ a,out=some a/\a.block=b
structure PS (O:Nat->Prop) (B fb:Nat) (w:World) (P:Pl) (F:Fm) (Sq:Nat->Prop) (w':World) (G:Fm) (outs:List (Int×Int)) (T Rm:List Int) (out:Option Addr) (outc:Nat):Prop where
  fx:∃ PP,PP.jp=P.jp/\FXO (OQ O Sq out) B w' fb PP G
  fr:Fr (ft fb P.jp) w w'
  run:zpE F T G outs
  hs:zjW G.hosts
  job:G.jobs.map (·.job)=F.jobs.map (·.job)
  own:Own w.heap.size w' zAw 2 out outs.length outc (outs.flatMap encO)
  ap:∀ a,out=some a->¬ Sq a.block
  perm:(T++Rm).Perm (rdy F)
  pw:T.Pairwise (zcr F)
  lt:∀ a∈T,∀ b∈Rm,zcr F a b
  len:outs.length<=T.length
section
variable {O Sq:Nat->Prop} {B fb qb:Nat} {w:World} {P:Pl} {F G:Fm} {outs:List (Int×Int)} {T Rm:List Int} {out:Option Addr} {outc:Nat}
theorem PS.fr' {w1 w2:World} (s:PS O B fb w P F Sq w1 G outs T Rm out outc) (f:Fr Sq w1 w2) (hq:∀ b,Sq b->w.heap.size<=b):PS O B fb w P F Sq w2 G outs T Rm out outc:=by
  obtain ⟨PP,h1,h2⟩:=s.fx
  exact ⟨⟨PP,h1,h2.fr f fun b hb=>.inr (.inl hb)⟩,s.fr.trans f fun b hb=>.inr (hq b hb),s.run,s.hs,s.job,s.own.fr f s.ap,s.ap,s.perm,s.pw,s.lt,s.len⟩
theorem PS.ext {w1 w2:World} (s:PS O B fb w P F Sq w1 G outs T Rm out outc) (e:Ext w1 w2):PS O B fb w P F Sq w2 G outs T Rm out outc:=by
  obtain ⟨PP,h1,h2⟩:=s.fx
  exact ⟨⟨PP,h1,h2.ext e⟩,s.fr.tr (zac e),s.run,s.hs,s.job,s.own.ext e,s.ap,s.perm,s.pw,s.lt,s.len⟩
theorem PS.shift {w1:World} {Rm':List Int} (s:PS O B fb w P F Sq w1 G outs T Rm out outc) (h:Rm'.Perm Rm):PS O B fb w P F Sq w1 G outs T Rm' out outc :=
  ⟨s.fx,s.fr,s.run,s.hs,s.job,s.own,s.ap,(List.Perm.append_left T h).trans s.perm,s.pw,fun a ha b hb=>s.lt a ha b (h.mem_iff.1 hb),s.len⟩
theorem zG3 {n:Nat} {w1:World} {H:List Th} (q:QS n Sq F qb w1 H) (hn:H.length<=60) :
    FnP Tryz.prog zaW #[.pointer (ptr qb)] w1 fun v w2=>∃ (a b:Int) (is:Bool) (Y:List Th),v=.tuple #[.agg #[.int .i64 a,.int .i64 b],.bool is]/\QS n Sq F qb w2 Y/\Fr Sq w1 w2 /\
      ((is=false/\H=[]/\Y=[])\/(is=true/\Y.length<H.length/\(∀ u∈Y,zcr F b u.id)/\(b::Y.map (·.id)).Perm (H.map (·.id)))):=by
  obtain ⟨mb,born,p,c,m,h1,h2,h3⟩:=q.ex
  refine (zI8 h1 (by omega)).mono fun v w2 hr=>?_
  rcases hr with ⟨rfl,hv,e⟩|⟨t,Y,hv,q2,hp,hmin,f⟩
  · exact ⟨0,0,false,[],hv,q.ext e,zac e,.inl ⟨rfl,rfl,rfl⟩⟩
  · have f':Fr Sq w1 w2:=f.mono h3
    obtain ⟨hrel,hids⟩:=zJa h2 h1.mp.nodup q.ids hp
    have hY:∀ u∈Y,u∈H:=fun u hu=>hp.mem_iff.1 (List.mem_cons_of_mem _ hu)
    have ht:t∈H:=hp.mem_iff.1 (List.mem_cons_self ..)
    have hnd:t.id∉Y.map (·.id):=by
      have:((t::Y).map (·.id)).Nodup:=((hp.map _).nodup_iff).2 q.ids
      simp only [List.map_cons,List.nodup_cons] at this
      exact this.1
    have hb:∀ u∈Y,zcr F t.id u.id:=fun u hu=>by
      have h4:=hmin u (hY u hu)
      have h5:=q.pr t ht
      have h6:=q.pr u (hY u hu)
      have h7:t.id≠u.id:=fun h=>hnd (by rw [h]; exact List.mem_map_of_mem hu)
      unfold ahead at h4
      unfold zcr
      rw [<- h5,<- h6]
      by_cases h8:u.id<t.id
      · have:=q.bo u (hY u hu) t ht h8; omega
      · omega
    have hperm:(t.id::Y.map (·.id)).Perm (H.map (·.id)):=by
      have:=hp.map (·.id)
      simpa using this
    refine ⟨t.prio,t.id,true,Y,hv,⟨⟨mb,born,p,c,_,q2,hrel,fun b hb=>h3 b ?_⟩,hids,fun u hu=>q.pr u (hY u hu),fun u hu v hv=>q.bo u (hY u hu) v (hY v hv)⟩,f',.inr ⟨rfl,by have:=hp.length_eq; simp at this; omega,hb,hperm⟩⟩
    rcases hb with rfl|rfl|⟨a,ha,rfl⟩|⟨u,hu,rfl⟩
    · exact .inl rfl
    · exact .inr (.inl rfl)
    · exact .inr (.inr (.inl ⟨a,ha,rfl⟩))
    · exact .inr (.inr (.inr ⟨u,hY u hu,rfl⟩))
theorem FXO.go {O' S:Nat->Prop} {w9:World} (x:FXO O B w fb P F) (f:Fr S w w9) (hS:∀ b,S b->O b) (h:∀ b,O' b->O b\/(w.heap.size<=b/\b<w9.heap.size)):FXO O' B w9 fb P F:=by
  have f':=f.mono hS
  have up:∀ {w''},Fr (ftO O' fb P.jp) w9 w''->Fr (ftO O fb P.jp) w w'':=fun k=>(f'.mono fun b hb=>.inl hb).trans k fun b hb=>by
    rcases hb with hb|hb
    · rcases h b hb with h|h
      · exact .inl (.inl h)
      · exact .inr h.1
    · exact .inl (.inr hb)
  have x9:=x.fr f hS
  exact ⟨x9.slot,x9.arr,x.map,fun w'' k=>x.hs w'' (up k),fun r hr w'' k=>x.js r hr w'' (up k),x.ap,x.hO,x.jO,fun b hb=>by
    rcases h b hb with h|h
    · have:=x.olt b h; have:=f.size; omega
    · exact h.2,fun b hb hf=>by
    rcases h b hb with h|h
    · exact x.odis b h hf
    · have:=(x.foot hf).2; omega⟩
theorem FXO.more {O':Nat->Prop} {w9:World} (x:FXO O B w fb P F) (e:Ext w w9) (h:∀ b,O' b->O b\/(w.heap.size<=b/\b<w9.heap.size)):FXO O' B w9 fb P F :=
  x.go (zac (S:=fun _=>False) e) (fun _ h=>h.elim) h
theorem FXO.less {O':Nat->Prop} (x:FXO O' B w fb P F) (h:∀ b,O b->O' b):FXO O B w fb P F:=by
  have up:∀ {w''},Fr (ftO O fb P.jp) w w''->Fr (ftO O' fb P.jp) w w'':=fun k=>k.mono fun b hb=>hb.elim (fun g=>.inl (h b g)) .inr
  exact ⟨x.slot,x.arr,x.map,fun w'' k=>x.hs w'' (up k),fun r hr w'' k=>x.js r hr w'' (up k),x.ap,x.hO,x.jO,fun b hb=>x.olt b (h b hb),fun b hb=>x.odis b (h b hb)⟩
def HQ (F:Fm) (k:Nat) (born:Int) (H:List Th):Prop:=(H.map (·.id)).Perm (zjg F k)/\(∀ t∈H,t.prio=zo3 F t.id/\t.born<=born)/\(∀ t∈H,∀ u∈H,t.id<u.id->t.born<u.born)/\0<=born/\born<=k
theorem hq_put {k:Nat} {born:Int} {H Y:List Th} {b:Nat} (h:HQ F k born H) (hr:zfN F (zaf F k)=true) (hp:Y.Perm (⟨b,(zaf F k).job.prio,(k:Int)+1,born+1⟩::H)):HQ F (k+1) (born+1) Y:=by
  obtain ⟨h1,h2,h3,h4,h5⟩:=h
  have idk:∀ t∈H,t.id<=k:=fun t ht=>(zgv.1 (h1.mem_iff.1 (List.mem_map_of_mem ht))).2.1
  have mem:∀ t∈Y,t=⟨b,(zaf F k).job.prio,(k:Int)+1,born+1⟩\/t∈H:=fun t ht=>List.mem_cons.1 (hp.mem_iff.1 ht)
  refine ⟨?_,fun t ht=>?_,fun t ht u hu hlt=>?_,by omega,by omega⟩
  · unfold zjg
    rw [if_pos hr]
    have:=hp.map (·.id)
    refine this.trans ?_
    rw [List.map_cons]
    exact ((h1.cons _).trans (List.perm_append_singleton _ _).symm)
  · rcases mem t ht with rfl|ht
    · refine ⟨?_,Int.le_refl _⟩
      unfold zo3
      rw [show ((k:Int)+1-1).toNat=k by omega]
    · have:=h2 t ht
      exact ⟨this.1,by omega⟩
  · rcases mem t ht with rfl|ht<;>rcases mem u hu with rfl|hu
    · exact absurd hlt (by simp)
    · have:=idk u hu; simp only at hlt; omega
    · have:=(h2 t ht).2; simp only; omega
    · exact h3 t ht u hu hlt
end
def zHg (O:Nat->Prop) (B fb:Nat) (w:World) (P:Pl) (F:Fm) (v:Value) (w':World):Prop:=∃ (G:Fm) (outs:List (Int×Int)) (out:Option Addr) (outc:Nat) (P':Pl),
  v=.tuple #[.slice out outs.length outc,.int .i64 0]/\zfU F G outs/\zjW G.hosts/\G.jobs.map (·.job)=F.jobs.map (·.job)/\P'.jp=P.jp/\FXO O B w' fb P' G/\Fr (ft fb P.jp) w w'/\Own w.heap.size w' zAw 2 out outs.length outc (outs.flatMap encO)/\outs.length<=60
structure XC (fb:Nat) (jp:Option Addr) (Sq:Nat->Prop) (out x:Option Addr) (w:World) (a b:Int):Prop where
  own:Own 0 w zGj 2 x 1 1 [.int .i64 a,.int .i64 b]
  ap:∀ c,x=some c->¬ ft fb jp c.block/\¬ Sq c.block/\∀ o,out=some o->o.block≠c.block
theorem XC.ext {fb:Nat} {jp:Option Addr} {Sq:Nat->Prop} {out x:Option Addr} {w w':World} {a b:Int} (h:XC fb jp Sq out x w a b) (e:Ext w w'):XC fb jp Sq out x w' a b:=⟨h.own.ext e,h.ap⟩
theorem XC.c0 {fb:Nat} {jp:Option Addr} {Sq:Nat->Prop} {out x:Option Addr} {w:World} {a b:Int} (h:XC fb jp Sq out x w a b):x≠none/\Go.Sx.cell w x 0=some (.int .i64 a)/\Go.Sx.cell w x 1=some (.int .i64 b)/\Go.Sx.cell w (pAdd x 1) 0=some (.int .i64 b) :=
  ⟨h.own.ne1 (by omega) (by omega),h.own.cells 0 _ rfl,h.own.cells 1 _ rfl,by rw [zal]; exact h.own.cells 1 _ rfl⟩
def PI (O:Nat->Prop) (B fb qb:Nat) (w:World) (P:Pl) (F:Fm) (Sq:Nat->Prop) (out:Option Addr) (outl outc:Nat) (x:Option Addr) (is:Bool) (w':World):Prop:=∃ (G:Fm) (outs:List (Int×Int)) (T:List Int) (H:List Th),outl=outs.length/\QS w.heap.size Sq F qb w' H/\H.length<=60 /\
  ((is=false/\PS O B fb w P F Sq w' G outs T [] out outc)\/(is=true/\∃ a b,XC fb P.jp Sq out x w' a b/\(∀ u∈H,zcr F b u.id)/\PS O B fb w P F Sq w' G outs T (b::H.map (·.id)) out outc))
def PM (qb:Nat) (is:Bool) (w':World):Nat:=if is=true then zFz qb w'+1 else 0
section
variable {O Sq:Nat->Prop} {B fb qb:Nat} {w:World} {P:Pl} {F G:Fm} {outs:List (Int×Int)} {T:List Int} {out:Option Addr} {outc:Nat}
theorem zGW {w':World} {Rm:List Int} (s:PS O B fb w P F Sq w' G outs T Rm out outc) (hF:F.jobs.length<=60):outs.length<=60/\T.length+Rm.length<=60:=by
  have h1:=s.perm.length_eq
  rw [List.length_append] at h1
  have h2:=zo5 F F.jobs.length
  have h3:=s.len
  unfold rdy at h1
  omega
theorem zuA {w24:World} {H:List Th} {m0 n9:Nat} (h9:n9<=w24.heap.size) (q:QS w.heap.size Sq F qb w24 H) (hn:H.length<=60) (s:PS O B fb w P F Sq w24 G outs T (H.map (·.id)) out outc) (hq:∀ b,Sq b->w.heap.size<=b/\b<w24.heap.size) (hm:m0=H.length+1) (c1 c2:Int) :
    ∀ w45,Ext w24 w45->New w45 zGj [.int .i64 0,.int .i64 0] fun p46 w46=>zam w46 p46 [.int .i64 c1,.int .i64 c2] [] fun w47=>∀ w48,Ext w47 w48 ->
      FnP Tryz.prog zaW #[.pointer (ptr qb)] w48 fun v49 w49=>∃ a b:Int,∃ is:Bool,v49=.tuple #[.agg #[.int .i64 a,.int .i64 b],.bool is]/\zam w49 p46 [.int .i64 a,.int .i64 b] [] fun w53 =>
        (n9<=w53.heap.size/\PI O B fb qb w P F Sq out outs.length outc p46 is w53)/\PM qb is w53<m0:=by
  intro w45 e45
  refine zbt (by intro v hv; simp at hv; subst hv; rfl) fun w46 o46 e46=>?_
  refine zaR (off:=0) (o46 w45.heap.size (Nat.le_refl _)) (zeO _) (by simp) (by simp) (by intro v hv; simp at hv; rcases hv with rfl|rfl<;>rfl) (by simp) fun w47 o47 g47 w48 e48=>?_
  have h4548:Ext w45 w48:=(g47.ext e46 (o46 w45.heap.size (Nat.le_refl _))).trans e48
  have h2448:=e45.trans h4548
  refine (zG3 (q.ext h2448) hn).mono fun v w49 ⟨a,b,is,Y,hv,q49,f49,hcase⟩=>⟨a,b,is,hv,?_⟩
  have hsz:=e45.size
  have hps:∀ c,(some ⟨w45.heap.size,0,none⟩:Option Addr)=some c->¬ Sq c.block:=fun c hc hs=>by cases hc; have:=(hq _ hs).2; simp only at this; omega
  have o49:=(o47.ext e48).fr f49 hps
  refine zaR (off:=0) o49 (zeO _) (by simp [zdf]) (by simp) (by intro v hv; simp at hv; rcases hv with rfl|rfl<;>rfl) (by simp) fun w53 o53 g53=>?_
  have f53:Fr (fun c=>c=w45.heap.size) w49 w53:=zaO g53 fun c hc=>by cases hc; rfl
  have fall:Fr Sq w24 w53:=((zac h2448).tr f49).trans f53 fun c hc=>.inr (by subst hc; exact hsz)
  have q53:QS w.heap.size Sq F qb w53 Y:=q49.fr f53 fun c hc h=>by have:=(hq _ hc).2; omega
  have s53:=s.fr' fall fun c hc=>(hq c hc).1
  have hxap:∀ c,(some ⟨w45.heap.size,0,none⟩:Option Addr)=some c->¬ ft fb P.jp c.block/\¬ Sq c.block/\∀ o,out=some o->o.block≠c.block:=fun c hc=>by
    refine ⟨fun hf=>?_,hps c hc,fun o ho h=>?_⟩
    · obtain ⟨PP,h1,x⟩:=s.fx
      rw [<- h1] at hf
      have:=(x.foot hf).2
      cases hc
      simp only at this; omega
    · have:=(s.own.lt o ho).2
      cases hc
      simp only at h; omega
  have h953:n9<=w53.heap.size:=by have:=fall.size; omega
  rcases hcase with ⟨rfl,rfl,rfl⟩|⟨rfl,hlt,hbef,hperm⟩
  · exact ⟨⟨h953,G,outs,T,[],rfl,q53,by simp,.inl ⟨rfl,s53⟩⟩,by unfold PM; simp; omega⟩
  · refine ⟨⟨h953,G,outs,T,Y,rfl,q53,by omega,.inr ⟨rfl,a,b,⟨o53.weak (Nat.zero_le _),hxap⟩,hbef,s53.shift hperm⟩⟩,?_⟩
    unfold PM
    rw [q53.len]
    simp; omega
theorem FXO.put2 (x:FXO O B w fb P F) {jp:Option Addr} (hj:P.jp=jp) {k:Int} (h0:0<=k) (h1:k<F.jobs.length) {m:Nat} (hm:11<=m/\m<=15) (v:Int) {ns:List Nat} (hns:∀ b∈ns,¬ ft fb jp b) {K:World->Prop}
    (hk:∀ w' P',P'.jp=jp->FXO O B w' fb P' (stF F k.toNat m v)->Fr (ft fb jp) w w'->K w'):zam w (pAdd (pIdx jp k 16) m) [.int .i64 v] ns K:=by
  subst hj
  exact x.put h0 h1 hm v hns hk
theorem zI7 {A B C:List Int} {x:Int} (h:(A++(x::B)).Perm C):x∈C:=h.mem_iff.1 (by simp)
theorem zqS {F G:Fm} (h:G.jobs.map (·.job)=F.jobs.map (·.job)):G.jobs.length=F.jobs.length:=by have:=congrArg List.length h; simpa using this
theorem zGV (x:FXO O B w fb P F) (ha:zko F) (hh:zjW F.hosts):FnP Tryz.prog zcW #[.pointer (ptr fb)] w (zHg O B fb w P F):=by
  have ne:=zaF fb
  have hl0:=x.jO.1
  refine zl9 (ptr fb) w _ fun w0 h0=>qnew_k.mono fun v w1 ⟨e1,qb,mb,hv,hqb,hQ⟩=>⟨e1,_,hv,ne,ne,?_⟩
  have e01:=h0.trans e1
  have x1:=x.ext e01
  refine ⟨_,_,_,x1.cell (i:=6) rfl,?_⟩
  rw [x1.len]
  refine ⟨fun k w'=>0<=k/\k<=F.jobs.length/\Fr (ft fb P.jp) w w'/\∃ (born:Int) (p:Option Addr) (c:Nat) (m:List (Int×Value)) (H:List Th) (P':Pl),P'.jp=P.jp/\QQ w.heap.size w' qb mb born p c H m/\Rel H m/\HQ F k.toNat born H/\FXO (fun b=>O b\/zhQ mb qb p H b) B w' fb P' F,fun k _=>(F.jobs.length-k).toNat,⟨by omega,by omega,zac e01,0,none,0,[],[],P,rfl,hQ _ h0.size,⟨by simp,fun id v h=>by simp [zhT] at h⟩,⟨by simp [zjg],by simp,by simp,by omega,by omega⟩,?_⟩,?_⟩
  · exact x.more e01 fun b hb=>hb.imp id fun h=>(hQ _ h0.size).foot h
  rintro k w8 ⟨hk0,hk1,f8,born,p,c,m,H,P8,hP8,q8,r8,hq8,x8⟩
  have hkn:((k.toNat:Nat):Int)=k:=by omega
  have hk1n:(k+1).toNat=k.toNat+1:=by omega
  have hHl:H.length<=60:=by
    have:=hq8.1.length_eq
    have:=zo5 F k.toNat
    simp at *; omega
  refine ⟨fun hlt=>⟨ne,ne,_,_,_,x8.cell (i:=6) rfl,?_⟩,fun hge w9 h9=>?_⟩
  · obtain ⟨r,hr,hF,hjp,hne,_,g,hJ,hok,hwf⟩:=x8.st hk0 (by omega)
    have hja:zaf F k.toNat=r.s:=zg8 hF
    refine ⟨hjp,hk0,by rw [x8.len]; omega,fun w12 h12=>(zI9 (x8.ext h12) ha hk0 (by omega)).mono fun v w13 ⟨e13,hv⟩=>⟨e13,_,hv,fun hb=>⟨hne,hne,by rw [zaK]; exact hne,_,by rw [zaK]; exact g 1 _ rfl,i64 (by omega),fun w16 h16=>?_⟩,fun hb=>⟨i64 (by omega),⟨by omega,by omega,f8,born,p,c,m,H,P8,hP8,q8,r8,?_,x8⟩,by simp only []; omega⟩⟩⟩
    · obtain ⟨hq1,hq2,hq3,hq4,hq5⟩:=hq8
      have hidk:∀ t∈H,t.id≠k+1:=fun t ht h=>by
        have:=(zgv.1 (hq1.mem_iff.1 (List.mem_map_of_mem ht))).2.1
        omega
      refine (qput_k (q8.ext h16) r8 (by omega) (by omega) (Nat.le_trans f8.size h16.size) r.s.job.prio (k+1)).mono fun v w17 ⟨e,hv,hbad,hgood⟩=>⟨e,hv,i64 (by omega),?_⟩
      have he:e=0:=by
        by_cases h:e=0
        · exact h
        · rcases (hbad h).2 with ⟨⟨t,ht,hid⟩,_⟩|⟨h200,_⟩
          · exact absurd hid (hidk t ht)
          · omega
      obtain ⟨_,_,b,p',c',Y,qY,hp,f17,hgrow⟩:=hgood he
      have r17:=zJb r8 (t:=⟨b,r.s.job.prio,k+1,born+1⟩) hidk hp
      have hq17:=hq_put (k:=k.toNat) (b:=b) ⟨hq1,hq2,hq3,hq4,hq5⟩ (by rw [hja]; unfold zaf at hja; rw [hja] at hb; exact hb) (Y:=Y) (by
        rw [hja,hkn]; exact hp)
      have fall:Fr (zhQ mb qb p H) w8 w17:=(zac h16).tr f17
      refine ⟨⟨by omega,by omega,f8.trans fall fun b hb=>.inr ((q8.foot hb).1),born+1,p',c',_,Y,P8,hP8,qY,r17,?_,?_⟩,by simp only []; omega⟩
      · rw [hk1n]; exact hq17
      · refine x8.go fall (fun b hb=>.inr hb) fun b hb=>?_
        rcases hb with hb|hb
        · exact .inl (.inl hb)
        · rcases hgrow b hb with h|h
          · exact .inl (.inr h)
          · exact .inr ⟨Nat.le_trans h16.size h,(qY.foot hb).2⟩
    · rw [hk1n]
      obtain ⟨hq1,hq2,hq3,hq4,hq5⟩:=hq8
      refine ⟨?_,hq2,hq3,hq4,by omega⟩
      unfold zjg
      rw [if_neg (by rw [hja]; unfold zaf at hja; rw [hja] at hb; rw [hb]; simp)]
      exact hq1
  have hkl:k.toNat=F.jobs.length:=by omega
  rw [hkl] at hq8
  obtain ⟨hq1,hq2,hq3,hq4,hq5⟩:=hq8
  let Sq:Nat->Prop:=zhQ mb qb p H
  have hSq:∀ b,Sq b->w.heap.size<=b/\b<w8.heap.size:=fun b hb=>q8.foot hb
  have Q8:QS w.heap.size Sq F qb w8 H:=⟨⟨mb,born,p,c,m,q8,r8,fun b hb=>hb⟩,by
    have:(H.map (·.id)).Nodup:=(hq1.nodup_iff).2 (zhj F _)
    exact this,fun t ht=>(hq2 t ht).1,hq3⟩
  have S8:PS O B fb w P F Sq w8 F [] [] (H.map (·.id)) none 0:=⟨⟨P8,hP8,x8.less fun b hb=>by
    rcases hb with hb|hb|⟨a,ha,_⟩
    · exact .inl hb
    · exact .inr hb
    · cases ha⟩,f8,.nil F,hh,rfl,Own.nil,fun a ha=>(by cases ha),hq1,List.Pairwise.nil,by simp,by simp⟩
  refine (zG3 (Q8.ext h9) hHl).mono fun v w10 ⟨a,b,is,Y,hv,Q10,f10,hcase⟩=>⟨a,b,is,hv,fun w14 h14=>?_⟩
  have s10:=(S8.ext h9).fr' f10 fun c hc=>(hSq c hc).1
  have s14:=s10.ext h14
  have Q14:=Q10.ext h14
  refine zbt (by intro v hv; simp at hv; subst hv; rfl) fun w15 o15 e15=>?_
  refine zaR (off:=0) (o15 w14.heap.size (Nat.le_refl _)) (zeO _) (by simp) (by simp) (by intro v hv; simp at hv; rcases hv with rfl|rfl<;>rfl) (by simp) fun w16 o16 g16=>?_
  have e16:Ext w14 w16:=g16.ext e15 (o15 w14.heap.size (Nat.le_refl _))
  have s16:=s14.ext e16
  have Q16:=Q14.ext e16
  have hsz14:w8.heap.size<=w14.heap.size:=Nat.le_trans (Nat.le_trans h9.size f10.size) h14.size
  refine ⟨fun out outl outc x is w'=>w14.heap.size<=w'.heap.size/\PI O B fb qb w P F Sq out outl outc x is w',fun out outl outc x is w'=>PM qb is w',⟨e16.size,?_⟩,?_⟩
  · rcases hcase with ⟨rfl,rfl,rfl⟩|⟨rfl,hlt,hbef,hperm⟩
    · exact ⟨F,[],[],[],rfl,Q16,by simp,.inl ⟨rfl,s16⟩⟩
    · refine ⟨F,[],[],Y,rfl,Q16,by omega,.inr ⟨rfl,a,b,⟨o16.weak (Nat.zero_le _),fun c hc=>⟨fun hf=>?_,fun hs=>?_,fun o ho=>by cases ho⟩⟩,hbef,s16.shift hperm⟩⟩
      · obtain ⟨PP,h1,x14⟩:=s14.fx
        rw [<- h1] at hf
        have:=(x14.foot hf).2
        cases hc
        simp only at this; omega
      · have:=(hSq _ hs).2
        cases hc
        simp only at this; omega
  rintro out outl outc xp is w21 ⟨hsz21,G,outs,T,H,rfl,Q21,hH,hc⟩
  refine ⟨fun his=>?_,fun his w22 h22=>?_⟩
  · rcases hc with ⟨h,_⟩|⟨_,a,b,xc,hbef,s21⟩
    · rw [his] at h; cases h
    have hsq21:∀ b,Sq b->w.heap.size<=b/\b<w21.heap.size:=fun b hb=>by have:=hSq b hb; omega
    obtain ⟨xn,_,_,xb⟩:=xc.c0
    obtain ⟨PP,hPP,x21⟩:=s21.fx
    have hbin:=zgv.1 (zI7 s21.perm)
    have hGl:=zqS s21.job
    have hin:inJ G b:=⟨hbin.1,by rw [hGl]; exact hbin.2.1⟩
    have hk:(b-1).toNat<G.jobs.length:=by have:=hin.1; have:=hin.2; omega
    have hls:=zGW s21 hl0
    refine ⟨xn,b,xb,fun w23 h23=>(zEc (x21.ext h23) b (i64 (by have:=hin.1; have:=hin.2; omega))).mono fun v w24 ⟨e24,hv⟩=>⟨e24,?_⟩⟩
    rcases hv with ⟨hno,_⟩|⟨_,_,rfl⟩
    · exact absurd hin hno
    have e2124:=h23.trans e24
    have x24:=x21.ext e2124
    have s24:=s21.ext e2124
    have Q24:=Q21.ext e2124
    have xc24:=xc.ext e2124
    have hsq24:∀ b,Sq b->w.heap.size<=b/\b<w24.heap.size:=fun b hb=>by have:=hsq21 b hb; have:=e2124.size; omega
    obtain ⟨r,hr,hF,hjp,hne,g',g,hJ,hok,hwf⟩:=x24.st (k:=b-1) (by have:=hin.1; omega) (by have:=hin.2; omega)
    have hja:zaf G (b-1).toNat=r.s:=zg8 hF
    have c5:∀ (j:Nat) (v:Value),(ztl r)[5+j]?=some v->Go.Sx.cell w24 (pAdd (pAdd (pIdx PP.jp (b-1) 16) 0) 5) j=some v:=fun j v hv=>by
      rw [zaK,zal]; exact g' _ _ hv
    have c2:∀ (j:Nat) (v:Value),(ztl r)[2+j]?=some v->Go.Sx.cell w24 (pAdd (pAdd (pIdx PP.jp (b-1) 16) 0) 2) j=some v:=fun j v hv=>by
      rw [zaK,zal]; exact g' _ _ hv
    have n0:pAdd (pIdx PP.jp (b-1) 16) 0≠none:=by rw [zaK]; exact hne
    have n5:pAdd (pAdd (pIdx PP.jp (b-1) 16) 0) 5≠none:=fun h=>n0 (zcV.1 h)
    have n2:pAdd (pAdd (pIdx PP.jp (b-1) 16) 0) 2≠none:=fun h=>n0 (zcV.1 h)
    have hO:=x24.hO
    refine ⟨_,rfl,ne,ne,_,_,_,x24.cell (i:=0) rfl,hne,hne,n0,n5,_,c5 0 _ rfl,_,c5 1 _ rfl,_,c5 2 _ rfl,_,c5 3 _ rfl,_,_,_,c5 4 _ rfl,hne,hne,n0,n2,_,c2 0 _ rfl,_,c2 1 _ rfl,_,c2 2 _ rfl,fun w39 h39=>?_⟩
    refine (Best_k PP.hp PP.hc G.hosts (by omega) hO.2 r.s.job.ask r.pa r.ca hwf.ask r.s.job.nd w39 ((x24.ext h39).hs w39 (Fr.refl _ _)) (hJ.1.ext h39)).mono fun v w40 ⟨e40,k,e,hv,hres⟩=>⟨e40,k,e,hv,?_⟩
    have hall:zwo G.hosts r.s.job.ask r.s.job.nd:=⟨s24.hs,hok.ask,hok.nd⟩
    have hm:PM qb is w21=H.length+1:=by unfold PM; rw [his,if_pos rfl,Q21.len]
    refine ⟨fun he=>?_,fun he=>?_⟩
    · have hsk:zzo G b=[]:=by
        rcases hres with ⟨_,_,_,h⟩|⟨h,_⟩
        · have:=h hall
          unfold zzo
          rw [hja]
          exact this
        · exact absurd h he
      obtain ⟨_,x0,x1,_⟩:=xc24.c0
      have s':PS O B fb w P F Sq w24 G outs (T++[b]) (H.map (·.id)) out outc:=⟨s24.fx,s24.fr,s24.run.snoc_skip hsk,s24.hs,s24.job,s24.own,s24.ap,by simpa using s24.perm,List.pairwise_append.2 ⟨s24.pw,by simp,fun y hy z hz=>by simp at hz; subst hz; exact s24.lt y hy _ (by simp)⟩,fun y hy z hz=>by
        rcases List.mem_append.1 hy with hy|hy
        · exact s24.lt y hy z (List.mem_cons_of_mem _ hz)
        · simp at hy; subst hy
          obtain ⟨u,hu,rfl⟩:=List.mem_map.1 hz
          exact hbef u hu,by rw [List.length_append]; have:=s24.len; simp; omega⟩
      exact ⟨xn,_,x0,_,x1,zuA (by have:=e2124.size; omega) Q24 hH s' hsq24 hm a b⟩
    · obtain ⟨_,_,hbest⟩:e=0/\zwo G.hosts r.s.job.ask r.s.job.nd/\zh2 G.hosts r.s.job.ask r.s.job.nd k:=by
        rcases hres with ⟨h,_⟩|h
        · exact absurd he h
        · exact h
      obtain ⟨hk0,hk1,hfit⟩:=znC.1 hbest.1
      have hkI:InR .i64 k:=i64 (by omega)
      refine ⟨ne,ne,_,_,_,x24.cell (i:=0) rfl,hne,hne,n0,n2,_,c2 0 _ rfl,_,c2 1 _ rfl,_,c2 2 _ rfl,fun w49 h49=>?_⟩
      have x49:=x24.ext h49
      refine (Take_k PP.hp PP.hc G.hosts (by omega) hO.2 k r.s.job.nd w49 (x49.hs w49 (Fr.refl _ _))).mono fun v w50 ⟨e50,p',n',c',e',hv,htk⟩=>⟨e50,p',n',c',e',hv,ne,ne,?_⟩
      have hfN:zjn r.s.job.nd (zhK (G.hosts.getD k.toNat default).has (G.hosts.getD k.toNat default).used):=by
        unfold zEU at hfit
        rw [Bool.and_eq_true,decide_eq_true_iff] at hfit
        exact hfit.2
      rcases htk with ⟨_,_,hno⟩|⟨_,_,_,_,rfl,_,_,_,hS⟩
      · exact absurd ⟨hok.nd,hfN⟩ (hno s24.hs hk0 hk1)
      have x50:=x49.ext e50
      refine zaR (off:=0) x50.slot rfl (by simp) (by simp) (by intro u hu; simp at hu; subst hu; rfl) (by simp) fun w55 o55 g55=>⟨ne,ne,?_⟩
      have hG:zld G (b-1).toNat k={ G with hosts:=G.hosts.set k.toNat (zhX (G.hosts.getD k.toNat default) (zvl (G.hosts.getD k.toNat default).used r.s.job.nd)) }:=by unfold zld zqM; rw [hja]
      have fg:Fr (ft fb PP.jp) w50 w55:=zaO g55 fun a ha=>by cases ha; exact .inl rfl
      obtain ⟨y55,f55⟩:=x50.slot_to (F':=zld G (b-1).toNat k) (P':={ PP with hp:=p',hc:=c' }) (by
        rw [hG]
        show Own B w55 zc3 7 (ptr fb) 1 1 [.slice p' (G.hosts.set _ _).length c',_,_,_,_,_,_]
        rw [List.length_set]; exact o55) g55 rfl rfl rfl rfl (fun w'' kf=>by
          rw [hG]
          exact hS (ftO (OQ O Sq out) fb PP.jp) (fun b hb=>by
            rcases hb with hb|hb
            · exact x49.olt b hb
            · exact (x49.foot hb).2) w'' ((fg.mono fun b hb=>.inr hb).tr kf)) (by
        rw [hG]
        refine ⟨by show (G.hosts.set _ _).length<=30; rw [List.length_set]; exact hO.1,fun h hh=>?_⟩
        have hh:h∈G.hosts.set k.toNat (zhX (G.hosts.getD k.toNat default) (zvl (G.hosts.getD k.toNat default).used r.s.job.nd)):=hh
        rcases List.mem_or_eq_of_mem_set hh with hh|rfl
        · exact hO.2 h hh
        · have:=hO.2 _ (zap G.hosts default (i:=k.toNat) (by omega))
          exact this)
      refine ⟨G.now,y55.cell (i:=5) rfl,hne,hne,?_⟩
      refine y55.put2 (jp:=PP.jp) rfl (k:=b-1) (by have:=hin.1; omega) (by have:=hin.2; exact (by omega:b-1<(G.jobs.length:Int))) (by omega) 2 (by simp) fun w57 P1 hP1 y57 f57=>⟨hne,hne,?_⟩
      refine y57.put2 hP1 (k:=b-1) (by have:=hin.1; omega) (by rw [zcv]; have:=hin.2; exact (by omega:b-1<(G.jobs.length:Int))) (by omega) k (by simp) fun w58 P2 hP2 y58 f58=>⟨hne,hne,?_⟩
      refine y58.put2 hP2 (k:=b-1) (by have:=hin.1; omega) (by rw [zcv,zcv]; have:=hin.2; exact (by omega:b-1<(G.jobs.length:Int))) (by omega) G.now (by simp) fun w59 P3 hP3 y59 f59=>⟨xn,?_⟩
      have y59:FXO (OQ O Sq out) B w59 fb P3 (zsX G (b-1).toNat k):=y59
      have f2459:Fr (ft fb PP.jp) w24 w59:=((((zac (h49.trans e50)).tr f55).tr f57).tr f58).tr f59
      have hdis:∀ c,OQ O Sq out c->¬ ft fb PP.jp c:=x24.odis
      have hxd:∀ c,xp=some c->¬ ft fb PP.jp c.block:=fun c hc=>by rw [hPP]; exact (xc24.ap c hc).1
      obtain ⟨_,x0,x1,_⟩:=xc24.c0
      have x1':=zdm x1 f2459 hxd
      refine ⟨b,by rw [zal]; exact x1',?_⟩
      have o59:=s24.own.fr f2459 fun c hc=>hdis _ (.inr (.inr ⟨c,hc,rfl⟩))
      have hsz24:w.heap.size<=w24.heap.size:=s24.fr.size
      have hsz59:w.heap.size<=w59.heap.size:=Nat.le_trans hsz24 f2459.size
      refine push (v:=.agg #[.int .i64 b,.int .i64 k]) zru (by omega) o59 hsz59 rfl (by intro u hu; simp [Value.cells] at hu; rcases hu with rfl|rfl<;>rfl) (by omega) (by omega) (by omega) fun out' outc' w67 o67 g67 hne67=>⟨xn,?_⟩
      have f67:Fr (fun c=>∃ o,out=some o/\o.block=c) w59 w67:=zaO g67 fun a ha=>⟨a,ha,rfl⟩
      have hout':∀ a,out'=some a->(∃ o,out=some o/\o.block=a.block)\/(w59.heap.size<=a.block/\a.block<w67.heap.size):=fun a ha=>by
        rcases g67.new with hn|hn
        · left
          rw [ha] at hn
          cases ho:out with
          |none => rw [ho] at hn; simp [blk] at hn
          |some y => rw [ho] at hn; simp [blk] at hn; exact ⟨y,rfl,by omega⟩
        · exact .inr ⟨hn a ha,(o67.lt a ha).2⟩
      have hxo:∀ c,xp=some c->¬ ∃ o,out=some o/\o.block=c.block:=fun c hc ⟨o,ho,hk⟩=>(xc24.ap c hc).2.2 o ho hk
      refine ⟨a,zdm (zdm x0 f2459 hxd) f67 hxo,b,zdm x1' f67 hxo,?_⟩
      have f2467:Fr (fun c=>ft fb P.jp c\/∃ o,out=some o/\o.block=c) w24 w67:=by
        rw [hPP] at f2459
        exact (f2459.mono fun c hc=>.inl hc).tr (f67.mono fun c hc=>.inr hc)
      have Q67:QS w.heap.size Sq F qb w67 H:=Q24.fr f2467 fun c hc h=>by
        rcases h with h|⟨o,ho,rfl⟩
        · rw [<- hPP] at h; exact hdis c (.inr (.inl hc)) h
        · exact s24.ap o ho hc
      have hsz67:=f2467.size
      have s67:PS O B fb w P F Sq w67 (zsX G (b-1).toNat k) (outs++[(b,k)]) (T++[b]) (H.map (·.id)) out' outc':=by
        refine ⟨⟨P3,hP3.trans hPP,y59.go f67 (fun c hc=>.inr (.inr hc)) fun c hc=>?_⟩,s24.fr.trans f2467 fun c hc=>?_,s24.run.snoc_run (by rw [hja]; exact hbest),?_,(zFM hk k).trans s24.job,?_,fun c hc hs=>?_,by simpa using s24.perm,List.pairwise_append.2 ⟨s24.pw,by simp,fun y hy z hz=>by simp at hz; subst hz; exact s24.lt y hy _ (by simp)⟩,fun y hy z hz=>?_,by rw [List.length_append,List.length_append]; have:=s24.len; simp; omega⟩
        · rcases hc with hc|hc|⟨c,hc,rfl⟩
          · exact .inl (.inl hc)
          · exact .inl (.inr (.inl hc))
          · rcases hout' c hc with h|h
            · exact .inl (.inr (.inr h))
            · exact .inr h
        · rcases hc with hc|⟨o,ho,rfl⟩
          · exact .inl hc
          · exact .inr (s24.own.lt o ho).1
        · exact zt4 s24.hs hk0 hk1 (by rw [hja]; exact hok.nd) (by rw [hja]; exact hfN)
        · rw [List.flatMap_append,List.length_append]
          simpa [Value.cells,encO] using o67
        · rcases hout' c hc with ⟨o,ho,hk⟩|h
          · rw [<- hk] at hs; exact s24.ap o ho hs
          · have:=(hsq24 _ hs).2; have:=f2459.size; omega
        · rcases List.mem_append.1 hy with hy|hy
          · exact s24.lt y hy z (List.mem_cons_of_mem _ hz)
          · simp at hy; subst hy
            obtain ⟨u,hu,rfl⟩:=List.mem_map.1 hz
            exact hbef u hu
      have:=zuA (n9:=w14.heap.size) (by have:=e2124.size; omega) Q67 hH s67 (fun c hc=>by have:=hsq24 c hc; omega) hm a b
      rw [List.length_append] at this
      exact this
  · rcases hc with ⟨_,s21⟩|⟨h,_⟩
    · have s22:=s21.ext h22
      obtain ⟨PP,h1,x22⟩:=s22.fx
      refine ⟨G,outs,out,outc,PP,rfl,⟨T,⟨by simpa using s22.perm,s22.pw⟩,s22.run⟩,s22.hs,s22.job,h1,x22.less fun b hb=>.inl hb,s22.fr,s22.own,(zGW s22 hl0).1⟩
    · rw [his] at h; cases h
end
theorem neN_k {a b:Nd} {w:World} {K:Value->World->Prop} (hk:K (.bool (!decide (a=b))) w):Run Tryz.prog (.eq .neq zhG false false (nv a) (nv b)) w K :=
  zJi (n:=3) (k:=.i64) (by kernel_rfl) (by kernel_rfl) (by kernel_rfl) (by kernel_rfl) [a.c,a.m,a.g] [b.c,b.m,b.g] rfl rfl (by
    have:decide (a=b)=decide ([a.c,a.m,a.g]=[b.c,b.m,b.g]):=decide_eq_decide.2 zIU
    rwa [this] at hk)
theorem New1_k (h:Ht) (q:Option Addr) (d:Nat) (w:World):FnP Tryz.prog zea #[.agg #[.string h.name,.slice q h.labels.length d,.int .i64 h.has.c,.int .i64 h.has.m,.int .i64 h.has.g,.int .i64 h.used.c,.int .i64 h.used.m,.int .i64 h.used.g]] w fun v w'=>Ext w w'/\v=.bool (!decide (h.used=zbd)):=by
  refine zsa h.name q h.labels.length d h.has.c h.has.m h.has.g h.used.c h.used.m h.used.g w _ fun b0 hb0 w1 h1=>?_
  refine neN_k (a:=h.used) (b:=zbd) ⟨Ext.refl _,_,rfl,fun w4 h4=>⟨h4,rfl⟩⟩
theorem zDV (p:Option Addr) (c:Nat) (L:List Ht) (h63:(L.length:Int)<=9223372036854775807) (w:World) (hL:zi8 w p L) :
    FnP Tryz.prog zao #[.slice p L.length c,.func (.func zea) #[] #[]] w fun v w'=>Ext w w'/\∃ t,v=.int .i64 t/\(0<=t↔∃ x∈L,x.used≠zbd):=by
  refine zbj p L.length c _ w _ ?_
  refine ⟨fun k w'=>w'=w/\0<=k/\k<=L.length/\∀ j:Nat,(j:Int)<k->(L.getD j default).used=zbd,fun k _=>(L.length-k).toNat,⟨rfl,by omega,by omega,fun j hj=>by omega⟩,?_⟩
  rintro k w ⟨rfl,hk0,hk1,hno⟩
  refine ⟨fun hlt=>?_,fun hge w4 h4=>⟨h4,_,rfl,?_⟩⟩
  · obtain ⟨q,d,n1,n2,g,_⟩:=hL.at hk0 hlt
    refine ⟨n1,hk0,hlt,n2,_,g 0 _ rfl,_,_,_,g 1 _ rfl,_,g 2 _ rfl,_,g 3 _ rfl,_,g 4 _ rfl,_,g 5 _ rfl,_,g 6 _ rfl,_,g 7 _ rfl,fun w4 h4=>?_⟩
    refine ⟨zea,#[],rfl,(New1_k (L.getD k.toNat default) q d w4).mono fun v w5 ⟨e5,hv⟩=>⟨e5,_,hv,fun hyes w9 h9=>⟨h9,_,rfl,fun _=>⟨_,zap L default (i:=k.toNat) (by omega),by simpa using hyes⟩,fun _=>hk0⟩,fun hn=>⟨i64 (by omega),⟨rfl,by omega,by omega,fun j hj=>?_⟩,by simp only []; omega⟩⟩⟩
    by_cases hjk:(j:Int)<k
    · exact hno j hjk
    · obtain rfl:j=k.toNat:=by omega
      simpa using hn
  · constructor
    · intro h; omega
    · rintro ⟨x,hm,hx⟩
      obtain ⟨j,hj,rfl⟩:=List.getElem_of_mem hm
      have:=hno j (by omega)
      rw [show L.getD j default=L[j] by simp [List.getD_eq_getElem?_getD,hj]] at this
      exact absurd this hx
theorem zvq (p:Option Addr) (c:Nat) (L:List Ht) (h63:(L.length:Int)<=9223372036854775807) (w:World) (hL:zi8 w p L) :
    FnP Tryz.prog zaI #[.slice p L.length c,.func (.func zea) #[] #[]] w fun v w'=>Ext w w'/\∃ b:Bool,v=.bool b/\(b=true↔∃ x∈L,x.used≠zbd):=by
  refine zcm p L.length c _ w _ fun w1 h1=>?_
  refine (zDV p c L h63 w1 (hL.ext h1)).mono fun v w2 ⟨e2,t,hv,ht⟩=>⟨e2,t,hv,fun w4 h4=>⟨h4,_,rfl,?_⟩⟩
  rw [decide_eq_true_iff]; exact ht
def zzK (L:List Ht) (pol:Pol):Prop:=zjW L/\(∀ x∈L,x.used=zbd)/\zoO pol
def zrV (L:List Ht) (pol:Pol):Fm:=⟨L,pol,0,[]⟩
theorem fNew_k (p:Option Addr) (c:Nat) (L:List Ht) (h63:(L.length:Int)<=9223372036854775807) (hO:∀ h∈L,zvh h) (pol:Pol) (w:World) (hL:zi8 w p L) :
    FnP Tryz.prog zgh #[.agg #[.slice p L.length c,.int .i64 pol.first,.int .i64 pol.times,.int .i64 pol.most,.int .i64 pol.tries]] w fun v w'=>Ext w w'/\∃ (q:Option Addr) (e:Int),v=.tuple #[.pointer q,.int .i64 e]/\(e=0↔zzK L pol)/\(e≠0->q=none) /\
      (e=0->∃ fb P,q=ptr fb/\FX w.heap.size w' fb P (zrV L pol)):=by
  refine zwx p L.length c pol.first pol.times pol.most pol.tries w _ fun b0 hb0 w1 h1=>(zrA p c L h63 hO w1 (hL.ext h1)).mono fun v w2 ⟨e2,e,hv,he,_⟩=>⟨e2,e,hv,fun hne w4 h4=>⟨h4,none,e,rfl,⟨fun h=>absurd h hne,fun h=>absurd (he.2 h.1) hne⟩,fun _=>rfl,fun h=>absurd h hne⟩,fun hz w4 h4=>?_⟩
  have hok:=he.1 hz
  refine (zvq p c L h63 w4 (hL.ext h4)).mono fun v w5 ⟨e5,b,hv,hb⟩=>⟨e5,b,hv,fun hbt w7 h7=>⟨h7,none,9,rfl,⟨fun h=>(by cases h),fun h=>?_⟩,fun _=>rfl,fun h=>(by cases h)⟩,fun hbf w7 h7=>?_⟩
  · obtain ⟨x,hx,hu⟩:=hb.1 hbt
    exact absurd (h.2.1 x hx) hu
  have hu:∀ x∈L,x.used=zbd:=fun x hx=>by
    by_cases h:x.used=zbd
    · exact h
    · have:=hb.2 ⟨x,hx,h⟩; rw [hbf] at this; cases this
  refine (zyr pol.first pol.times pol.most pol.tries w7).mono fun v w8 ⟨e8,e,hv,hy,hn⟩=>⟨e8,e,hv,fun hne w10 h10=>⟨h10,none,e,rfl,⟨fun h=>absurd h hne,fun h=>absurd (hy h.2.2) hne⟩,fun _=>rfl,fun h=>absurd h hne⟩,fun hz w10 x10=>?_⟩
  have hp:zoO pol:=by
    by_cases h:zoO pol
    · exact h
    · have:=hn h; omega
  have h10:=zaa x10
  refine (zGU p c L hok.1 (fun h hh=>(hok.2.1 h hh).2.1) w10 (hL.ext h10)).mono fun v w11 ⟨e11,p',c',M,hv,hM,o11,hA,hN⟩=>⟨e11,p',_,c',hv,fun w15 x15=>?_⟩
  have h15:=zaa x15
  refine zbt (by intro v hv; simp at hv; rcases hv with rfl|rfl|rfl|rfl|rfl|rfl|rfl<;>rfl) fun w16 o16 e16 w17 e17=>?_
  have h1117:=(h15.trans e16).trans e17
  have hall:Ext w w17:=(h10.trans e11).trans h1117
  have hs15:w.heap.size<=w15.heap.size:=Nat.le_trans h10.size (Nat.le_trans e11.size h15.size)
  have hs11:w11.heap.size<=w15.heap.size:=h15.size
  refine ⟨hall,_,0,rfl,⟨fun _=>⟨hok,hu,hp⟩,fun _=>rfl⟩,fun h=>absurd rfl h,fun _=>⟨w15.heap.size,⟨p',c',none,0,[]⟩,rfl,?_⟩⟩
  have hS:=(zBI o11 (fun m hm=>(hA m hm).1) hN).weak h10.size
  rw [hM] at hS
  refine ⟨((o16 _ hs15).ext e17),Own.nil,rfl,fun w'' k=>?_,fun r hr=>(by cases hr),fun a ha=>(by cases ha),⟨hok.1,hO⟩,⟨by simp [zrV],fun s hs=>by simp [zrV] at hs⟩,fun b hb=>Nat.lt_of_lt_of_le hb hall.size,fun b hb hf=>?_⟩
  · refine hS (fun b=>b<w.heap.size) (fun b hb=>hb) w'' ((zac h1117).trans k fun b hb=>?_)
    rcases hb with hb|hb|⟨a,ha,_⟩
    · exact .inl hb
    · subst hb; exact .inr hs11
    · cases ha
  · rcases hf with hf|⟨a,ha,_⟩
    · subst hf; have:w15.heap.size<w.heap.size:=hb; omega
    · cases ha
section
variable {O:Nat->Prop} {B fb:Nat} {w:World} {P:Pl} {F:Fm}
end
theorem zFj (a b:Nd) (p:Nat):zb3 (zvl a b) p=zb3 a p+zb3 b p:=by unfold zb3 zvl; split<;>rfl
theorem zFk (a b:Nd) (p:Nat):zb3 (zhK a b) p=zb3 a p-zb3 b p:=by unfold zb3 zhK; split<;>rfl
theorem zIr {a b:Nd}:zjn a b↔∀ p,p<3->zb3 a p<=zb3 b p:=by
  constructor
  · rintro ⟨h1,h2,h3⟩ i hi
    match i,hi with
    |0,_ => exact h1
    |1,_ => exact h2
    |2,_ => exact h3
  · intro h
    exact ⟨h 0 (by omega),h 1 (by omega),h 2 (by omega)⟩
def zek (s:St) (i:Int) (p:Nat):Int:=if s.what=2/\s.host=i then zb3 s.job.nd p else 0
def use (F:Fm) (i:Int) (p:Nat):Nat->Int
  |0 => 0
  |n+1 => use F i p n+zek (zaf F n) i p
theorem zyJ {s:St} (h:okN s.job.nd) (i:Int) {p:Nat} (hp:p<3):0<=zek s i p:=by
  unfold zek
  split
  · exact (zoN.1 h p hp).1
  · omega
theorem zG8 {F:Fm} (h:∀ k,k<F.jobs.length->okN (zaf F k).job.nd) (i:Int) {p:Nat} (hp:p<3):∀ {n:Nat},n<=F.jobs.length->0<=use F i p n
  |0,_ => by simp [use]
  |n+1,hn => by
    have:=zG8 h i hp (n:=n) (by omega)
    have:=zyJ (h n (by omega)) i hp
    unfold use; omega
theorem zG7 {F:Fm} (h:∀ k,k<F.jobs.length->okN (zaf F k).job.nd) (i:Int) {p:Nat} (hp:p<3) {k:Nat}:∀ {n:Nat},n<=F.jobs.length->k<n->zek (zaf F k) i p<=use F i p n
  |0,_,hk => by omega
  |n+1,hn,hk => by
    unfold use
    by_cases hkn:k=n
    · subst hkn
      have:=zG8 h i hp (n:=k) (by omega)
      omega
    · have:=zG7 h i hp (n:=n) (by omega) (by omega:k<n)
      have:=zyJ (h n (by omega)) i hp
      omega
structure zls (F G:Fm) (k:Nat) (s:St):Prop where
  len:G.jobs.length=F.jobs.length
  pol:G.pol=F.pol
  now:G.now=F.now
  hlen:G.hosts.length=F.hosts.length
  at_:∀ i,zaf G i=if i=k then s else zaf F i
  job:s.job=(zaf F k).job
theorem zls.self {F G:Fm} {k:Nat} {s:St} (t:zls F G k s):zaf G k=s:=by rw [t.at_,if_pos rfl]
theorem zls.other {F G:Fm} {k:Nat} {s:St} (t:zls F G k s) {i:Nat} (h:i≠k):zaf G i=zaf F i:=by rw [t.at_,if_neg h]
theorem zls.jobs {F G:Fm} {k:Nat} {s:St} (t:zls F G k s) (i:Nat):(zaf G i).job=(zaf F i).job:=by
  rw [t.at_]
  split
  · rename_i h; rw [h]; exact t.job
  · rfl
theorem zyS {F G:Fm} {k:Nat} {s:St} (t:zls F G k s) (i:Int) (p:Nat):∀ n,use G i p n=use F i p n+(if k<n then zek s i p-zek (zaf F k) i p else 0)
  |0 => by simp [use]
  |n+1 => by
    unfold use
    rw [zyS t i p n,t.at_ n]
    by_cases h1:n=k
    · subst h1
      rw [if_pos rfl,if_neg (by omega),if_pos (by omega)]; omega
    · rw [if_neg h1]
      by_cases h2:k<n
      · rw [if_pos h2,if_pos (by omega)]; omega
      · rw [if_neg h2,if_neg (by omega)]; omega
def zdX (p:Pol) (s:St):Prop:=0<=s.tries/\s.tries<=p.tries+1/\(s.what=4->s.tries=p.tries+1)/\(s.what=1\/s.what=2->s.tries<=p.tries)/\(s.what=1->0<s.tries->zxL p s.tries<=s.again)
def aftJ (F:Fm):Prop:=∀ k,k<F.jobs.length->∀ y∈(zaf F k).job.aft,1<=y/\y<=k
theorem zAM {F:Fm}:zko F↔aftJ F:=by
  constructor
  · intro h k hk y hy
    exact h k _ (zzy hk) y hy
  · intro h i s hs y hy
    have hi:i<F.jobs.length:=(List.getElem?_eq_some_iff.1 hs).1
    rw [<- zg8 hs] at hy
    exact h i hi y hy
structure zxl (F:Fm):Prop where
  aft:aftJ F
  pol:zoO F.pol
  now:0<=F.now/\F.now<=1099511627776
  hs:zjW F.hosts
  nd:∀ k,k<F.jobs.length->okN (zaf F k).job.nd
  hrun:∀ k,k<F.jobs.length->(zaf F k).what=2->0<=(zaf F k).host/\(zaf F k).host<F.hosts.length
  use:∀ i:Nat,i<F.hosts.length->∀ p,p<3->zb3 (F.hosts.getD i default).used p=use F i p F.jobs.length
  ahead:∀ k,k<F.jobs.length->(zaf F k).what=2\/(zaf F k).what=3->∀ y∈(zaf F k).job.aft,zaU F y=3
  tries:∀ k,k<F.jobs.length->zdX F.pol (zaf F k)
def zDl (F:Fm) (n:Nat):Prop:=∀ k,k<n->(zaf F k).what=1->∀ y∈(zaf F k).job.aft,zaU F y≠4/\zaU F y≠5
structure Inv (F:Fm):Prop where
  i0:zxl F
  wt:zDl F F.jobs.length
theorem zxl.lv {F:Fm} (I:zxl F) {k:Nat} (hk:k<F.jobs.length) (hw:(zaf F k).what=2):LvOk F k:=by
  obtain ⟨h0,h1⟩:=I.hrun k hk hw
  refine ⟨I.hs,h0,h1,zIr.2 fun p hp=>?_⟩
  rw [I.use _ (by omega) p hp]
  have:=zG7 I.nd (((zaf F k).host.toNat:Nat):Int) hp (k:=k) (n:=F.jobs.length) (Nat.le_refl _) hk
  unfold zek at this
  rw [if_pos ⟨hw,by omega⟩] at this
  exact this
theorem zxl.pre {F:Fm} (I:zxl F):Pre F:=⟨zAM.2 I.aft,I.pol,I.now,fun k hk hw=>I.lv hk hw,fun k hk=>by
  have h:=I.tries k hk
  have hp:=I.pol
  unfold zdX at h
  unfold zoO okP at hp
  omega⟩
theorem zcd (F:Fm) (y:Int):zaU F y=(zaf F (y-1).toNat).what:=rfl
theorem zkI {F G:Fm} {k:Nat} {s:St} (I:zxl F) (t:zls F G k s) (hk:k<F.jobs.length) (hhs:zjW G.hosts) (hrun:s.what=2->0<=s.host/\s.host<F.hosts.length)
    (huse:∀ i:Nat,i<F.hosts.length->∀ p,p<3->zb3 (G.hosts.getD i default).used p=zb3 (F.hosts.getD i default).used p+(zek s i p-zek (zaf F k) i p))
    (ha:s.what=2\/s.what=3->∀ y∈s.job.aft,zaU F y=3) (hb:(zaf F k).what=3->s.what=3) (ht:zdX F.pol s):zxl G:=by
  have haft:aftJ G:=fun i hi y hy=>by
    rw [t.jobs] at hy
    rw [t.len] at hi
    exact I.aft i hi y hy
  refine ⟨haft,by rw [t.pol]; exact I.pol,by rw [t.now]; exact I.now,hhs,fun i hi=>by rw [t.jobs]; exact I.nd i (by rw [t.len] at hi; exact hi),fun i hi hw=>?_,fun i hi p hp=>?_,fun i hi hw y hy=>?_,fun i hi=>?_⟩
  · rw [t.hlen]
    rw [t.len] at hi
    rw [t.at_] at hw ⊢
    split at hw
    · rename_i h; rw [if_pos h]; exact hrun hw
    · rename_i h; rw [if_neg h]; exact I.hrun i hi hw
  · rw [t.hlen] at hi
    rw [huse i hi p hp,I.use i hi p hp,t.len,zyS t,if_pos hk]
  · rw [t.len] at hi
    have hy':=hy
    rw [t.jobs] at hy'
    have hle:=I.aft i hi y hy'
    rw [zcd,t.at_]
    by_cases hik:i=k
    · subst hik
      rw [if_neg (by omega),<- zcd]
      rw [t.self] at hw hy
      exact ha hw y hy
    · rw [t.other hik] at hw
      have h3:=I.ahead i hi hw y hy'
      split
      · rename_i h
        rw [zcd,h] at h3
        exact hb h3
      · exact h3
  · rw [t.len] at hi
    rw [t.pol,t.at_]
    split
    · exact ht
    · exact I.tries i hi
theorem zls.st (F:Fm) {k m:Nat} (v:Int) (hk:k<F.jobs.length):zls F (stF F k m v) k (zi4 m v (zaf F k)):=⟨zcv F k m v,rfl,rfl,rfl,fun i=>zqa F v hk i,zk8 m v _⟩
theorem zEe {F:Fm} {s:St}:zJM F s=true↔∃ y∈s.job.aft,zaU F y=4\/zaU F y=5:=by
  unfold zJM
  rw [List.any_eq_true]
  simp [Bool.or_eq_true]
theorem zB3 {F:Fm} (I:zxl F) {n:Nat} (hn:n<F.jobs.length) (hw:zDl F n):zxl (zb2 F n)/\zDl (zb2 F n) (n+1):=by
  unfold zb2
  split
  · rename_i h
    have t:=zls.st F (m:=11) 5 hn
    have h5:(zi4 11 5 (zaf F n)).what=5:=rfl
    refine ⟨zkI I t hn I.hs (fun h2=>by rw [h5] at h2; omega) (fun i hi p hp=>?_) (fun h2=>by rw [h5] at h2; omega) (fun h3=>by rw [h.1] at h3; omega) ?_,fun k hk h1 y hy=>?_⟩
    · have e1:zek (zi4 11 5 (zaf F n)) i p=0:=by unfold zek; rw [if_neg (fun h=>by rw [h5] at h; omega)]
      have e2:zek (zaf F n) i p=0:=by unfold zek; rw [if_neg (fun g=>by rw [h.1] at g; omega)]
      rw [e1,e2,znO]; omega
    · have:=I.tries n hn
      unfold zdX at this ⊢
      simp only [zi4]
      omega
    · rw [t.at_] at h1
      rw [t.jobs] at hy
      split at h1
      · rw [h5] at h1; omega
      · rename_i hkn
        have hle:=I.aft k (by omega) y hy
        have:=hw k (by omega) h1 y hy
        rw [zcd,t.other (by omega),<- zcd]
        exact this
  · rename_i h
    refine ⟨I,fun k hk h1 y hy=>?_⟩
    by_cases hkn:k=n
    · subst hkn
      have:zJM F (zaf F k)≠true:=fun hb=>h ⟨h1,hb⟩
      rw [Ne,zEe] at this
      exact ⟨fun h=>this ⟨y,hy,.inl h⟩,fun h=>this ⟨y,hy,.inr h⟩⟩
    · exact hw k (by omega) h1 y hy
theorem zyh {F:Fm} (I:zxl F):Inv (zpO F):=by
  have h:∀ n,n<=F.jobs.length->zxl (lostTo F n)/\zDl (lostTo F n) n:=by
    intro n
    induction n with
    |zero => intro _; exact ⟨I,fun k hk => by omega⟩
    |succ n ih =>
      intro hn
      obtain ⟨a,b⟩:=ih (by omega)
      exact zB3 a (by rw [zgu]; omega) b
  obtain ⟨a,b⟩:=h _ (Nat.le_refl _)
  refine ⟨a,?_⟩
  unfold zpO
  rw [zgu]
  exact b
theorem zEZ {F:Fm} {k:Nat} (i:Nat) (p:Nat) (h0:0<=(zaf F k).host) (h1:(zaf F k).host<F.hosts.length) (hw:(zaf F k).what=2):zb3 ((zkD F k).hosts.getD i default).used p=zb3 (F.hosts.getD i default).used p-zek (zaf F k) i p:=by
  unfold zkD zek
  by_cases hi:(zaf F k).host.toNat=i
  · rw [if_pos ⟨hw,by omega⟩]
    subst hi
    simp only [List.getD_eq_getElem?_getD,List.getElem?_set_self (show (zaf F k).host.toNat<F.hosts.length by omega)]
    simp only [Option.getD_some,zhX]
    rw [zFk]
  · rw [if_neg (fun h=>by omega)]
    simp only [List.getD_eq_getElem?_getD,List.getElem?_set_ne hi]
    omega
theorem zIx {F:Fm} (I:zxl F) {k:Nat} (hk:k<F.jobs.length) (hw:(zaf F k).what=2):zjW (zkD F k).hosts:=by
  obtain ⟨_,h0,h1,hf⟩:=I.lv hk hw
  have hm:=zap F.hosts default (i:=(zaf F k).host.toNat) (by omega)
  obtain ⟨_,_,_,c,d,e⟩:=I.hs.2.1 _ hm
  have hn:=I.nd k hk
  refine zt5 I.hs (by omega) ?_ ?_
  · unfold okN zjn zhK at *; simp only; omega
  · unfold okN zjn zhK at *; simp only; omega
theorem zkH {F G:Fm} {k:Nat} {s:St} (I:zxl F) (hk:k<F.jobs.length) (hw:(zaf F k).what=2) (t:zls F G k s) (hG:G.hosts=(zkD F k).hosts) (hs:s.what≠2) (ht:zdX F.pol s):zxl G:=by
  obtain ⟨h0,h1⟩:=I.hrun k hk hw
  refine zkI I t hk (by rw [hG]; exact zIx I hk hw) (fun h=>absurd h hs) (fun i hi p hp=>?_) (fun h y hy=>?_) (fun h=>by omega) ht
  · rw [hG,zEZ i p h0 h1 hw]
    have:zek s i p=0:=by unfold zek; rw [if_neg (fun h=>hs h.1)]
    rw [this]; omega
  · rw [t.job] at hy
    exact I.ahead k hk (.inl hw) y hy
theorem zmv {F G:Fm} {k:Nat} {s:St} (I:Inv F) (t:zls F G k s) (hk:k<F.jobs.length) (hs:s.what≠4/\s.what≠5) (h1:s.what=1->∀ y∈s.job.aft,zaU F y≠4/\zaU F y≠5):zDl G G.jobs.length:=fun i hi hw y hy=>by
  rw [t.len] at hi
  have hy':=hy
  rw [t.jobs] at hy'
  have hle:=I.i0.aft i hi y hy'
  rw [zcd,t.at_]
  split
  · exact hs
  · rw [<- zcd]
    by_cases hik:i=k
    · subst hik
      rw [t.self] at hw hy
      exact h1 hw y hy
    · rw [t.other hik] at hw
      exact I.wt i hi hw y hy'
theorem zls.left {F:Fm} {k:Nat} (hk:k<F.jobs.length):zls F (zdI F k) k { zaf F k with host:=0,since:=0 }:=⟨zds F k,rfl,rfl,by unfold zdI; rw [znO,znO]; unfold zkD; simp,fun i=>zrP hk i,rfl⟩
theorem zls.then_ {F G:Fm} {k:Nat} {s:St} (t:zls F G k s) (hk:k<F.jobs.length) (m:Nat) (v:Int):zls F (stF G k m v) k (zi4 m v s):=by
  have u:=zls.st G (m:=m) v (by rw [t.len]; exact hk)
  refine ⟨u.len.trans t.len,u.pol.trans t.pol,u.now.trans t.now,u.hlen.trans t.hlen,fun i=>?_,(zk8 m v s).trans t.job⟩
  rw [u.at_]
  split
  · rw [t.self]
  · rename_i h; rw [t.other h]
theorem zCG {F:Fm} (I:Inv F) {k:Nat} (hk:k<F.jobs.length) (hw:(zaf F k).what=2) (ok:Bool):Inv (zsW F k ok):=by
  have ht:=I.i0.tries k hk
  have hp:=I.i0.pol
  have tl:=zls.left hk
  have h3:=I.i0.ahead k hk (.inl hw)
  have hn:=I.i0.now
  unfold zsW
  split
  · have t:=tl.then_ hk 11 3
    refine ⟨zkH I.i0 hk hw t rfl (by simp [zi4]) ?_,zmv I t hk (by simp [zi4]) (by simp [zi4])⟩
    unfold zdX at ht ⊢
    simp only [zi4]
    omega
  have tt:zls F (zfl F k) k _:=tl.then_ hk 15 ((zaf F k).tries+1)
  split
  · rename_i hle
    have t:=(tt.then_ hk 11 1).then_ hk 14 (F.now+zxL F.pol ((zaf F k).tries+1))
    refine ⟨zkH I.i0 hk hw t rfl (by simp [zi4]) ?_,zmv I t hk (by simp [zi4]) (fun _ y hy=>?_)⟩
    · unfold zdX at ht ⊢
      simp only [zi4]
      refine ⟨by omega,by omega,by omega,by omega,fun _ _=>by omega⟩
    · have:=h3 y hy
      omega
  · rename_i hgt
    have t:=tt.then_ hk 11 4
    refine zyh (zkH I.i0 hk hw t rfl (by simp [zi4]) ?_)
    unfold zdX at ht ⊢
    simp only [zi4]
    omega
theorem zA5 {F:Fm} (I:Inv F) {k:Nat} (hk:k<F.jobs.length) (hw:(zaf F k).what=1\/(zaf F k).what=2):Inv (zy9 F k):=by
  have ht:=I.i0.tries k hk
  unfold zy9
  refine zyh ?_
  split
  · rename_i h2
    have t:=(zls.left hk).then_ hk 11 5
    refine zkH I.i0 hk h2 t rfl (by simp [zi4]) ?_
    unfold zdX at ht ⊢
    simp only [zi4]
    omega
  · rename_i h2
    have h1:(zaf F k).what=1:=by omega
    have t:=zls.st F (m:=11) 5 hk
    refine zkI I.i0 t hk I.i0.hs (by simp [zi4]) (fun i hi p hp=>?_) (by simp [zi4]) (fun h=>by omega) ?_
    · have e1:zek (zi4 11 5 (zaf F k)) i p=0:=by unfold zek; rw [if_neg (by simp [zi4])]
      have e2:zek (zaf F k) i p=0:=by unfold zek; rw [if_neg (by omega)]
      rw [e1,e2,znO]; omega
    · unfold zdX at ht ⊢
      simp only [zi4]
      omega
theorem zyH {F:Fm} {j:Jb} (i:Nat):zaf (zsY F j) i=if i<F.jobs.length then zaf F i else if i=F.jobs.length then ztZ j else default:=by
  unfold zaf zsY
  simp only [List.getD_eq_getElem?_getD]
  split
  · rename_i h; rw [List.getElem?_append_left h]
  · rename_i h
    rw [List.getElem?_append_right (by omega)]
    split
    · rename_i h2; rw [h2]; simp
    · rename_i h2
      rw [List.getElem?_eq_none (by simp; omega)]; rfl
theorem zC1 (F:Fm) (j:Jb):(zsY F j).jobs.length=F.jobs.length+1:=by simp [zsY]
theorem zDk {F:Fm} {j:Jb} (i:Int) (p:Nat):∀ n,n<=F.jobs.length->use (zsY F j) i p n=use F i p n
  |0,_ => rfl
  |n+1,h => by
    unfold use
    rw [zDk i p n (by omega),zyH,if_pos (by omega)]
theorem upA_ge {l:List Int} (h:upA 0 l):∀ x∈l,1<=x:=fun x hx=>(zf8 h x hx).1
theorem zC0 {F:Fm} {j:Jb} (I:Inv F) (h:zzL F j):Inv (zsY F j):=by
  have hup:∀ x∈j.aft,1<=x:=upA_ge h.1.up
  have wh:∀ y:Int,1<=y->y<=F.jobs.length->zaU (zsY F j) y=zaU F y:=fun y h1 h2=>by rw [zcd,zyH,if_pos (by omega),<- zcd]
  have cs:∀ {k},k<(zsY F j).jobs.length->k<F.jobs.length/\zaf (zsY F j) k=zaf F k\/k=F.jobs.length/\zaf (zsY F j) k=ztZ j:=fun {k} hk=>by
    rw [zC1] at hk
    rw [zyH]
    by_cases h:k<F.jobs.length
    · exact .inl ⟨h,if_pos h⟩
    · exact .inr ⟨by omega,by rw [if_neg h,if_pos (by omega)]⟩
  refine ⟨⟨fun k hk y hy=>?_,I.i0.pol,I.i0.now,I.i0.hs,fun k hk=>?_,fun k hk hw=>?_,fun i hi p hp=>?_,fun k hk hw y hy=>?_,fun k hk=>?_⟩,fun k hk hw y hy=>?_⟩
  · rcases cs hk with ⟨hk,e⟩|⟨hk,e⟩<;>rw [e] at hy
    · exact I.i0.aft k hk y hy
    · have:=(h.2.2 y hy).1
      exact ⟨hup y hy,by omega⟩
  · rcases cs hk with ⟨hk,e⟩|⟨hk,e⟩<;>rw [e]
    · exact I.i0.nd k hk
    · exact h.1.nd
  · rcases cs hk with ⟨hk,e⟩|⟨hk,e⟩<;>rw [e] at hw ⊢
    · exact I.i0.hrun k hk hw
    · simp [ztZ] at hw
  · rw [zC1]
    unfold use
    rw [zDk _ _ _ (Nat.le_refl _),zyH,if_neg (by omega),if_pos rfl]
    have:zek (ztZ j) i p=0:=by unfold zek; rw [if_neg (by simp [ztZ])]
    rw [this]
    have:=I.i0.use i hi p hp
    show zb3 (F.hosts.getD i default).used p=_
    omega
  · rcases cs hk with ⟨hk,e⟩|⟨hk,e⟩<;>rw [e] at hw hy
    · have:=I.i0.aft k hk y hy
      rw [wh y this.1 (by omega)]
      exact I.i0.ahead k hk hw y hy
    · simp [ztZ] at hw
  · rcases cs hk with ⟨hk,e⟩|⟨hk,e⟩<;>rw [e]
    · exact I.i0.tries k hk
    · have hp:=I.i0.pol
      unfold zoO okP at hp
      show zdX F.pol (ztZ j)
      unfold zdX ztZ
      simp only
      omega
  · rcases cs hk with ⟨hk,e⟩|⟨hk,e⟩<;>rw [e] at hw hy
    · have:=I.i0.aft k hk y hy
      rw [wh y this.1 (by omega)]
      exact I.wt k hk hw y hy
    · have h1:=h.2.2 y hy
      rw [wh y (hup y hy) h1.1]
      exact h1.2
theorem zuD {F:Fm} {s:St}:zfN F s=true↔s.what=1/\s.again<=F.now/\∀ y∈s.job.aft,zaU F y=3:=by
  unfold zfN
  simp [Bool.and_eq_true,List.all_eq_true,and_assoc]
theorem zls.run {F:Fm} {k0:Nat} {k:Int} (hk:k0<F.jobs.length):zls F (zsX F k0 k) k0 { zaf F k0 with what:=2,host:=k,since:=F.now }:=⟨zJh F k0 k,rfl,rfl,by show (zld F k0 k).hosts.length=_; unfold zld; simp,fun i=>run_at hk k i,rfl⟩
theorem zpa (F:Fm) (k0:Nat) (k:Int):(zsX F k0 k).hosts=(zld F k0 k).hosts:=rfl
theorem ztb {L:List Ht} {t:AT} {a:Nd} {k:Int} (h:zh2 L t a k):0<=k/\k<L.length/\zjn a (zhK (L.getD k.toNat default).has (L.getD k.toNat default).used):=by
  obtain ⟨h0,h1,h2⟩:=znC.1 h.1
  unfold zEU at h2
  rw [Bool.and_eq_true,decide_eq_true_iff] at h2
  exact ⟨h0,h1,h2.2⟩
theorem zF4 {F:Fm} {k0:Nat} {k:Int} (i:Nat) (p:Nat) (h0:0<=k) (h1:k<F.hosts.length):zb3 ((zld F k0 k).hosts.getD i default).used p=zb3 (F.hosts.getD i default).used p+(if k=i then zb3 (zaf F k0).job.nd p else 0):=by
  unfold zld zqM
  by_cases hi:k.toNat=i
  · rw [if_pos (by omega)]
    subst hi
    simp only [List.getD_eq_getElem?_getD,List.getElem?_set_self (show k.toNat<F.hosts.length by omega)]
    simp only [Option.getD_some,zhX]
    rw [zFj]
  · rw [if_neg (fun h=>by omega)]
    simp only [List.getD_eq_getElem?_getD,List.getElem?_set_ne hi]
    omega
theorem zJg {F:Fm} (I:Inv F) {k0:Nat} (hk:k0<F.jobs.length) (hr:zfN F (zaf F k0)=true) {k:Int} (hb:zh2 F.hosts (zaf F k0).job.ask (zaf F k0).job.nd k):Inv (zsX F k0 k):=by
  obtain ⟨h0,h1,hf⟩:=ztb hb
  obtain ⟨r1,r2,r3⟩:=zuD.1 hr
  have t:=zls.run (k:=k) hk
  have ht:=I.i0.tries k0 hk
  refine ⟨zkI I.i0 t hk (by rw [zpa]; exact zt4 I.i0.hs h0 h1 (I.i0.nd k0 hk) hf) (fun _=>⟨h0,h1⟩) (fun i hi p hp=>?_) (fun _ y hy=>r3 y hy) (fun h=>by omega) ?_,zmv I t hk (by simp) (by simp)⟩
  · rw [zpa,zF4 i p h0 h1]
    have e2:zek (zaf F k0) i p=0:=by unfold zek; rw [if_neg (by omega)]
    rw [e2]
    unfold zek
    simp only [true_and]
    omega
  · unfold zdX at ht ⊢
    simp only
    omega
theorem zpE.ind {Mot:Fm->Prop} (step:∀ F id k,inJ F id->zfN F (zaf F (id-1).toNat)=true->zh2 F.hosts (zaf F (id-1).toNat).job.ask (zaf F (id-1).toNat).job.nd k->Mot F->Mot (zsX F (id-1).toNat k)) :
    ∀ {F G:Fm} {ids:List Int} {outs:List (Int×Int)},zpE F ids G outs->ids.Nodup->(∀ id∈ids,inJ F id/\zfN F (zaf F (id-1).toNat)=true)->Mot F->Mot G:=by
  intro F G ids outs h
  induction h with
  |nil F => intro _ _ m; exact m
  |skip h1 _ ih =>
    intro hn hr m
    exact ih (List.nodup_cons.1 hn).2 (fun id h=>hr id (List.mem_cons_of_mem _ h)) m
  |@run F F' id k ids out h1 _ ih =>
    intro hn hr m
    obtain ⟨hin,hrd⟩:=hr id (List.mem_cons_self ..)
    have hk:(id-1).toNat<F.jobs.length:=by have:=hin.1; have:=hin.2; omega
    have t:=zls.run (k:=k) hk
    refine ih (List.nodup_cons.1 hn).2 (fun id' h=>?_) (step F id k hin hrd h1 m)
    obtain ⟨hin',hrd'⟩:=hr id' (List.mem_cons_of_mem _ h)
    have hne:id'≠id:=fun h2=>(List.nodup_cons.1 hn).1 (h2▸h)
    have hk':(id'-1).toNat≠(id-1).toNat:=by have:=hin.1; have:=hin'.1; omega
    refine ⟨⟨hin'.1,by rw [t.len]; exact hin'.2⟩,?_⟩
    rw [t.other hk']
    rw [zuD] at hrd' hrd ⊢
    refine ⟨hrd'.1,by rw [t.now]; exact hrd'.2.1,fun y hy=>?_⟩
    have:=hrd'.2.2 y hy
    rw [zcd] at this ⊢
    rw [t.at_]
    split
    · rename_i h; rw [h] at this; omega
    · exact this
theorem zCo {F:Fm} {T:List Int} (h:zHf F T):T.Nodup:=(h.1.nodup_iff).2 (zhj F _)
theorem zus {F:Fm} {T:List Int} (h:zHf F T):∀ id∈T,inJ F id/\zfN F (zaf F (id-1).toNat)=true:=fun id hi=>by
  obtain ⟨a,b,c⟩:=zgv.1 (h.1.mem_iff.1 hi)
  exact ⟨⟨a,b⟩,c⟩
theorem zsl {Mot:Fm->Prop} (step:∀ F id k,inJ F id->zfN F (zaf F (id-1).toNat)=true->zh2 F.hosts (zaf F (id-1).toNat).job.ask (zaf F (id-1).toNat).job.nd k->Mot F->Mot (zsX F (id-1).toNat k)) {F G:Fm} {outs:List (Int×Int)} (h:zfU F G outs) (m:Mot F):Mot G:=by
  obtain ⟨T,h1,h2⟩:=h
  exact h2.ind step (zCo h1) (zus h1) m
theorem zqO {F:Fm} {id:Int} (h:inJ F id):(id-1).toNat<F.jobs.length:=by have:=h.1; have:=h.2; omega
theorem zyp {F G:Fm} {outs:List (Int×Int)} (h:zfU F G outs) (I:Inv F):Inv G :=
  zsl (fun F id k hin hr hb I=>zJg I (zqO hin) hr hb) h I
theorem zIW {L:List Ht} {pol:Pol} (h:zzK L pol):Inv (zrV L pol):=by
  refine ⟨⟨fun k hk=>(by simp [zrV] at hk),h.2.2,by simp [zrV],h.1,fun k hk=>(by simp [zrV] at hk),fun k hk=>(by simp [zrV] at hk),fun i hi p hp=>?_,fun k hk=>(by simp [zrV] at hk),fun k hk=>(by simp [zrV] at hk)⟩,fun k hk=>(by simp [zrV] at hk)⟩
  have hm:=h.2.1 _ (zap L default (i:=i) hi)
  show zb3 (L.getD i default).used p=0
  rw [hm]
  unfold zb3 zbd
  split<;>rfl
structure zDX (n:Nat) (w:World) (p:Option Addr) (c:Nat) (R:List StR):Prop where
  own:Own n w zjG 16 p R.length c (R.flatMap ztl)
  far:∀ r∈R,Far n w fun w''=>IsJ w'' r.s.job r.pa r.ca r.pf
theorem zDX.st {n:Nat} {w:World} {p:Option Addr} {c:Nat} {R:List StR} (h:zDX n w p c R) {k:Int} (h0:0<=k) (h1:k<R.length):∃ r,R[k.toNat]?=some r/\p≠none/\pIdx p k 16≠none/\(∀ (m:Nat) u,(ztl r)[m]?=some u->Go.Sx.cell w (pIdx p k 16) m=some u)/\IsJ w r.s.job r.pa r.ca r.pf:=by
  obtain ⟨r,hr⟩:∃ r,R[k.toNat]?=some r:=⟨_,List.getElem?_eq_getElem (by omega)⟩
  have g:∀ (m:Nat) u,(ztl r)[m]?=some u->Go.Sx.cell w (pIdx p k 16) m=some u:=fun m u hu=>(h.own.recs fun _ _=>rfl).at h0 hr hu
  have g0:=g 0 _ rfl
  exact ⟨r,hr,fun h=>zak g0 (zah.2 h),zak g0,g,(h.far r (List.mem_of_getElem? hr)).at⟩
theorem zBq {t:AT} (h:zlt t=0):zey t=0:=by
  unfold zlt at h
  split at h
  · omega
  · exact h
section
variable {O:Nat->Prop} {B fb:Nat} {w:World} {P:Pl} {F:Fm}
theorem Jobs_k (x:FXO O B w fb P F):FnP Tryz.prog zer #[.pointer (ptr fb)] w fun v w'=>Ext w w'/\∃ (p:Option Addr) (c:Nat) (R:List StR),v=.slice p R.length c/\R.map (·.s)=F.jobs/\zDX w.heap.size w' p c R:=by
  have ne:=zaF fb
  have hl:=x.len
  have hl0:=x.jO.1
  refine zl8 (ptr fb) w _ ⟨ne,ne,_,_,_,x.cell (i:=6) rfl,?_⟩
  rw [hl]
  refine ⟨fun out outl outc k w'=>Ext w w'/\0<=k/\k<=F.jobs.length/\outl=k.toNat/\∃ R:List StR,R.map (·.s)=F.jobs.take k.toNat/\Own w.heap.size w' zjG 16 out outl outc (R.flatMap ztl) /\
      ∀ r∈R,∀ w'',Fr (fun b=>b<w.heap.size\/∃ a,out=some a/\a.block=b) w' w''->IsJ w'' r.s.job r.pa r.ca r.pf,
    fun _ _ _ k _=>(F.jobs.length-k).toNat,⟨Ext.refl _,by omega,by omega,rfl,[],rfl,Own.nil,fun x hx=>(by cases hx)⟩,?_⟩
  rintro out outl outc k w6 ⟨x6,hk0,hk1,rfl,R,hR,oR,hT⟩
  have hRl:R.length=k.toNat:=by have:=congrArg List.length hR; rw [List.length_map,List.length_take] at this; omega
  refine ⟨fun hlt=>?_,fun hge w7 h7=>?_⟩
  · obtain ⟨r,hr,hF,hjp,hne,g,_,hJ,hok,hwf⟩:=(x.ext x6).st hk0 hlt
    refine ⟨hjp,hk0,hlt,hne,_,g 0 _ rfl,_,g 1 _ rfl,_,g 2 _ rfl,_,g 3 _ rfl,_,g 4 _ rfl,_,g 5 _ rfl,_,g 6 _ rfl,_,g 7 _ rfl,_,g 8 _ rfl,_,_,_,g 9 _ rfl,_,_,_,g 10 _ rfl,_,g 11 _ rfl,_,g 12 _ rfl,_,g 13 _ rfl,_,g 14 _ rfl,_,g 15 _ rfl,fun b27 hb27 w28 x28=>?_⟩
    have h28:=zaa x28
    refine (zCq r w28 (hJ.ext h28) (zBq hok.ask) hok.len).mono fun v w29 ⟨e29,r',hv,hrs,hF'⟩=>⟨e29,_,_,_,_,_,_,_,_,_,r'.pa,_,r'.ca,r'.pf,_,r'.cf,_,_,_,_,_,hv,?_⟩
    have h629:=h28.trans e29
    have hw29:=x6.trans h629
    have oR29:=oR.ext h629
    have hns:∀ b∈[b27],∀ y,out=some y->y.block≠b:=fun b hb y hy=>by
      simp at hb; subst hb
      have:=(oR.lt y hy).2; omega
    refine zo4 (v:=sv r') zg3 (by omega) oR29 hw29.size hns rfl (by intro u hu; simp [Value.cells] at hu; rcases hu with rfl|rfl|rfl|rfl|rfl|rfl|rfl|rfl|rfl|rfl|rfl|rfl|rfl|rfl|rfl|rfl<;>rfl) (by omega) (by omega) (by omega) fun out' outc' w56 o56 g56 _ hb56=>⟨i64 (by omega),⟨g56.ext hw29 oR29,by omega,by omega,by omega,R++[r'],?_,?_,?_⟩,by simp only []; omega⟩
    · rw [show (k+1).toNat=k.toNat+1 by omega,List.map_append,hR,List.take_add_one,hF]
      simp [hrs]
    · rw [List.flatMap_append]
      simpa [Value.cells,ztl] using o56
    · have step:∀ (w0 w'':World),Ext w0 w29->w0.heap.size<=w29.heap.size->Fr (fun b=>b<w.heap.size\/∃ a,out'=some a/\a.block=b) w56 w''->Fr (fun b=>b<w.heap.size\/∃ a,out=some a/\a.block=b) w0 w'':=fun w0 w'' h0 hs fw=>by
        have f1:Fr (fun b=>b<w.heap.size\/∃ a,out=some a/\a.block=b) w0 w56:=(zac h0).tr (zaO g56 fun a ha=>.inr ⟨a,ha,rfl⟩)
        refine f1.trans fw fun b hb=>?_
        rcases hb with h|⟨a2,ha2,hk2⟩
        · exact .inl (.inl h)
        rcases g56.new with hn|hn
        · left
          rw [ha2] at hn
          cases hout:out with
          |none => rw [hout] at hn; simp [blk] at hn
          |some y => rw [hout] at hn; simp [blk] at hn; exact .inr ⟨y,rfl,by omega⟩
        · right
          have:=hn a2 ha2
          omega
      intro y hy w'' fw
      rcases List.mem_append.1 hy with hy|hy
      · exact hT y hy w'' (step w6 w'' h629 h629.size fw)
      · simp at hy; subst hy
        rw [hrs]
        refine hF' _ (fun b hb=>?_) w'' (step w29 w'' (Ext.refl _) (Nat.le_refl _) fw)
        rcases hb with h|⟨a,ha,rfl⟩
        · have:=x6.size; have:=h28.size; omega
        · have:=(oR.lt a ha).2; have:=h28.size; omega
  · have hkl:k.toNat=F.jobs.length:=by omega
    rw [hkl,List.take_length] at hR
    refine ⟨x6.trans h7,out,outc,R,by rw [hRl],hR,⟨by rw [hRl]; exact oR.ext h7,fun r hr S hS w'' fw=>hT r hr w'' ((zac h7).tr (fw.mono fun b hb=>.inl (hS b hb)))⟩⟩
theorem zAq (x:FXO O B w fb P F) (hh:zjW F.hosts):FnP Tryz.prog zbN #[.pointer (ptr fb)] w fun v w'=>Ext w w'/\∃ (p:Option Addr) (c:Nat),v=.slice p F.hosts.length c/\F.hosts.length<=c/\HsS w.heap.size w' p F.hosts:=by
  have ne:=zaF fb
  refine zkY (ptr fb) w _ ⟨ne,ne,_,_,_,x.cell (i:=0) rfl,fun w3 h3=>?_⟩
  refine (zGU P.hp P.hc F.hosts hh.1 (fun h hx=>(hh.2.1 h hx).2.1) w3 ((x.ext h3).hs w3 (Fr.refl _ _))).mono fun v w4 ⟨e4,p',c',M,hv,hM,o4,hA,hN⟩=>⟨e4,p',_,c',hv,fun w8 h8=>⟨(h3.trans e4).trans h8,p',c',rfl,o4.le.1,?_⟩⟩
  have hS:=(zBI o4 (fun m hm=>(hA m hm).1) hN).weak h3.size
  rw [hM] at hS
  exact hS.ext h8
end
abbrev zaH:FuncId:=262
abbrev zdg:FuncId:=270
abbrev zcz:FuncId:=271
abbrev zh7:FuncId:=272
abbrev zlw:FuncId:=273
abbrev zdh:FuncId:=274
abbrev zbD:FuncId:=278
abbrev zhB:FuncId:=279
abbrev zh4:FuncId:=280
abbrev zeY:FuncId:=281
abbrev zc9:FuncId:=282
abbrev zeZ:FuncId:=283
abbrev zdZ:FuncId:=285
abbrev zd0:FuncId:=286
abbrev zh5:FuncId:=287
def zu5 (C:ByteArray) (D:Option Addr) (E F:Nat) (q r s t u v:Int) (g:World) (w:Value->World->Prop):Prop:=
 ∀ h:Nat,g.heap.size<=h->∀ c:Nat,g.heap.size<=c->∀ e,zag [] [h,c] g e->Run Tryz.prog (.buildSlice 34 1 [(0,(.agg #[(.string C),(.slice D E F),(.int .i64 q),(.int .i64 r),(.int .i64 s),(.int .i64 t),(.int .i64 u),(.int .i64 v)]))]) e fun x b=>Ext e b/\∃ i j k,x=(.slice i j k)/\∀ f,Ext b f->FnP Tryz.prog zbW #[(.slice i j k)] f fun y z=>Ext f z/\∃ d,y=(.int .i64 d)/\((d≠0)->∀ a,zag [c] [] b a->w (.tuple #[(.agg #[(.int .i64 0),(.int .i64 0),(.int .i64 0)]),(.int .i64 d)]) a)/\((d=0)->∀ a,Ext b a->FnP Tryz.prog zca #[(.agg #[(.int .i64 q),(.int .i64 r),(.int .i64 s)]),(.agg #[(.int .i64 t),(.int .i64 u),(.int .i64 v)])] a fun A B=>Ext a B/\∃ l m n o,A=(.tuple #[(.agg #[(.int .i64 l),(.int .i64 m),(.int .i64 n)]),(.int .i64 o)])/\∀ p,zag [c] [] b p->w (.tuple #[(.agg #[(.int .i64 l),(.int .i64 m),(.int .i64 n)]),(.int .i64 o)]) p)
theorem zug (a:ByteArray) (b:Option Addr) (c d:Nat) (e f g i j k:Int) (l:World) (m:Value->World->Prop) (h:zu5 a b c d e f g i j k l m):FnP Tryz.prog zjB #[(.agg #[(.string a),(.slice b c d),(.int .i64 e),(.int .i64 f),(.int .i64 g),(.int .i64 i),(.int .i64 j),(.int .i64 k)])] l m:=
 zab (Eq.mp (by kernel_rfl:_=Runs Tryz.prog m ({N:=19}:Cfg) Tryz.f257 (Tryz.f257.body.getD .skip) [.agg [.str a,.slc b c d,.int .i64 e,.int .i64 f,.int .i64 g,.int .i64 i,.int .i64 j,.int .i64 k]] l) h) Tryz.func257 (by kernel_rfl) (fun a w=>Tryz.call257 a w) (by kernel_rfl) (by kernel_rfl) rfl rfl
def zqf (a:Option Addr) (i:World) (j:Value->World->Prop):Prop:=
 a≠none/\a≠none/\a≠none/\a≠none/\a≠none/\a≠none/\a≠none/\a≠none/\a≠none/\a≠none/\∀ b,Ext i b->Run Tryz.prog (.buildSlice 387 5 [(0,(.agg #[(.pointer (pAdd a 0)),(.int .i64 0),(.int .i64 59)])),(1,(.agg #[(.pointer (pAdd a 1)),(.int .i64 0),(.int .i64 23)])),(2,(.agg #[(.pointer (pAdd a 2)),(.int .i64 1),(.int .i64 31)])),(3,(.agg #[(.pointer (pAdd a 3)),(.int .i64 1),(.int .i64 12)])),(4,(.agg #[(.pointer (pAdd a 4)),(.int .i64 0),(.int .i64 6)]))]) b fun h g=>Ext b g/\∃ c d e,h=(.slice c d e)/\∀ f,Ext g f->j (.slice c d e) f
theorem zjr (a:Option Addr) (b:World) (c:Value->World->Prop) (h:zqf a b c):FnP Tryz.prog zdg #[(.pointer a)] b c:=
 zab (Eq.mp (by kernel_rfl:_=Runs Tryz.prog c ({N:=24}:Cfg) Tryz.f270 (Tryz.f270.body.getD .skip) [.sc (.ptr a)] b) h) Tryz.func270 (by kernel_rfl) (fun a w=>Tryz.call270 a w) (by kernel_rfl) (by kernel_rfl) rfl rfl
def zu2 (c a:Int) (d:World) (e:Value->World->Prop):Prop:=
 InR .i64 (a+1)/\0<=((a+1):Int)/\0<=(c:Int)/\∀ b,Ext d b->e (.int .u64 (IntKind.wrap .u64 ((zav .shl .u64 1 (a+1))-(zav .shl .u64 1 c)))) b
theorem zud (a b:Int) (c:World) (d:Value->World->Prop) (h:zu2 a b c d):FnP Tryz.prog zeZ #[(.int .i64 a),(.int .i64 b)] c d:=
 zab (Eq.mp (by kernel_rfl:_=Runs Tryz.prog d ({N:=11,wrap:=[7,9,10]}:Cfg) Tryz.f283 (Tryz.f283.body.getD .skip) [.sc (.int .i64 a),.sc (.int .i64 b)] c) h) Tryz.func283 (by kernel_rfl) (fun a w=>Tryz.call283 a w) (by kernel_rfl) (by kernel_rfl) rfl rfl
def zmy (k:Option Addr) (h i:Int) (b:World) (j:Value->World->Prop):Prop:=
 ∀ e:Nat,b.heap.size<=e->∀ a,Ext b a->FnP Tryz.prog zeZ #[(.int .i64 h),(.int .i64 i)] a fun f g=>Ext a g/\∃ c,f=(.int .u64 c)/\∀ d,Ext b d->j (.int .u64 c) d
theorem zl1 (a:Option Addr) (b c:Int) (d:World) (e:Value->World->Prop) (h:zmy a b c d e):FnP Tryz.prog zhB #[(.agg #[(.pointer a),(.int .i64 b),(.int .i64 c)])] d e:=
 zab (Eq.mp (by kernel_rfl:_=Runs Tryz.prog e ({N:=8}:Cfg) Tryz.f279 (Tryz.f279.body.getD .skip) [.agg [.ptr a,.int .i64 b,.int .i64 c]] d) h) Tryz.func279 (by kernel_rfl) (fun a w=>Tryz.call279 a w) (by kernel_rfl) (by kernel_rfl) rfl rfl
def zsG (B C D E F:Int) (G:World) (l:Value->World->Prop):Prop:=
 ∀ m,Ext G m->New m 372 [(.int .u64 B),(.int .u64 C),(.int .u64 D),(.int .u64 E),(.int .u64 F)] fun w x=>∀ g,Ext x g->FnP Tryz.prog zdg #[(.pointer w)] g fun y s=>Ext g s/\∃ c e u,y=(.slice c e u)/\∃ (k:Int->World->Prop) (t:Int->World->Nat),k 0 s/\∀ (b:Int) (a:World),k b a->(((b<(e:Int))->c≠none/\(0:Int)<=b/\(b:Int)<(e:Int)/\(pIdx c b 3)≠none/\∃ d,cell a (pIdx c b 3) 0=some (.pointer d)/\∃ n,cell a (pIdx c b 3) 1=some (.int .i64 n)/\∃ o,cell a (pIdx c b 3) 2=some (.int .i64 o)/\∀ v:Nat,a.heap.size<=v->d≠none/\∃ f,cell a d 0=some (.int .u64 f)/\((f≠0)->d≠none)/\((f=0)->∀ p,Ext a p->l (.int .i64 3) p)/\((f≠0)->∃ h,cell a d 0=some (.int .u64 h)/\∀ i,Ext a i->FnP Tryz.prog zhB #[(.agg #[(.pointer d),(.int .i64 n),(.int .i64 o)])] i fun z A=>Ext i A/\∃ j,z=(.int .u64 j)/\(((zav .andNot .u64 h j)≠0)->∀ q,Ext a q->l (.int .i64 3) q)/\(((zav .andNot .u64 h j)=0)->InR .i64 (b+1)/\(k (b+1) a/\t (b+1) a<t b a)))))/\(((e:Int)<=b)->∀ r,Ext a r->l (.int .i64 0) r)
theorem zr8 (a b c d e:Int) (f:World) (g:Value->World->Prop) (h:zsG a b c d e f g):FnP Tryz.prog zh7 #[(.agg #[(.int .u64 a),(.int .u64 b),(.int .u64 c),(.int .u64 d),(.int .u64 e)])] f g:=
 zab (Eq.mp (by kernel_rfl:_=Runs Tryz.prog g ({N:=27,pub:=[1]}:Cfg) Tryz.f272 (Tryz.f272.body.getD .skip) [.agg [.int .u64 a,.int .u64 b,.int .u64 c,.int .u64 d,.int .u64 e]] f) h) Tryz.func272 (by kernel_rfl) (fun a w=>Tryz.call272 a w) (by kernel_rfl) (by kernel_rfl) rfl rfl
def zqg (d:ByteArray) (q r:Int) (s:World) (k:Value->World->Prop):Prop:=
 ∀ e,Ext s e->FnP Tryz.prog zcR #[(.string d)] e fun l c=>Ext e c/\∃ a h,l=(.tuple #[(.int .i64 a),h])/\∀ f,Ext c f->Run Tryz.prog (.eq .eql 175 false true h .nilIface) f fun m n=>Ext f n/\∃ g,m=(.bool g)/\((((g=true)/\((d.size:Int)<=2))->∀ b,Ext c b->FnP Tryz.prog zbm #[(.int .i64 a)] b fun o p=>Ext b p/\∃ i,o=(.string i)/\∀ j,Ext c j->k (.tuple #[(.int .i64 a),(.bool (((decide (i=d))&&(decide (q<=a)))&&(decide (a<=r))))]) j))/\(((g=false)\/(2<(d.size:Int)))->∀ b,Ext c b->k (.tuple #[(.int .i64 a),(.bool false)]) b)
theorem zjs (a:ByteArray) (b c:Int) (d:World) (e:Value->World->Prop) (h:zqg a b c d e):FnP Tryz.prog zbD #[(.string a),(.int .i64 b),(.int .i64 c)] d e:=
 zab (Eq.mp (by kernel_rfl:_=Runs Tryz.prog e ({N:=39}:Cfg) Tryz.f278 (Tryz.f278.body.getD .skip) [.sc (.str a),.sc (.int .i64 b),.sc (.int .i64 c)] d) h) Tryz.func278 (by kernel_rfl) (fun a w=>Tryz.call278 a w) (by kernel_rfl) (by kernel_rfl) rfl rfl
def zli (ae:Option Addr) (P w:Int) (ad:ByteArray) (c:World) (g:Value->World->Prop):Prop:=
 ∀ W:Nat,c.heap.size<=W->∀ G,Ext c G->FnP Tryz.prog zdk #[(.string ad),(.string (⟨#[47]⟩:ByteArray))] G fun X Y=>Ext G Y/\∃ D E h,X=(.tuple #[(.string D),(.string E),(.bool h)])/\∀ H,Ext c H->FnP Tryz.prog zdk #[(.string D),(.string (⟨#[45]⟩:ByteArray))] H fun Z aa=>Ext H aa/\∃ R S q,Z=(.tuple #[(.string R),(.string S),(.bool q)])/\(((D≠(⟨#[42]⟩:ByteArray))->∀ r,Ext c r->FnP Tryz.prog zbD #[(.string R),(.int .i64 P),(.int .i64 w)] r fun J K=>Ext r K/\∃ e s,J=(.tuple #[(.int .i64 e),(.bool s)])/\((s=false)->∀ d,Ext c d->g (.tuple #[(.int .u64 0),(.bool false)]) d)/\((s=true)->(((q=true)->∀ d,Ext c d->FnP Tryz.prog zbD #[(.string S),(.int .i64 e),(.int .i64 w)] d fun L M=>Ext d M/\∃ m t,L=(.tuple #[(.int .i64 m),(.bool t)])/\((((t=false)\/((h=true)/\(q=false)))->∀ f,Ext c f->g (.tuple #[(.int .u64 0),(.bool false)]) f))/\(((t=true)/\((h=false)\/(q=true)))->(((h=true)->∀ f,Ext c f->FnP Tryz.prog zbD #[(.string E),(.int .i64 1),(.int .i64 99)] f fun ab ac=>Ext f ac/\∃ F I,ab=(.tuple #[(.int .i64 F),(.bool I)])/\((I=false)->∀ p,Ext c p->g (.tuple #[(.int .u64 0),(.bool false)]) p)/\((I=true)->∃ (N:Int->Int->World->Prop) (U:Int->Int->World->Nat),N 0 e c/\∀ (x:Int) (n:Int) (y:World),N x n y->(((n<=m)->0<=(n:Int)/\InR .i64 (n+F)/\(N (zav .or .u64 x (zav .shl .u64 1 n)) (n+F) y/\U (zav .or .u64 x (zav .shl .u64 1 n)) (n+F) y<U x n y)))/\((m<n)->∀ T,Ext y T->g (.tuple #[(.int .u64 x),(.bool true)]) T))))/\((h=false)->∃ (u:Int->Int->World->Prop) (z:Int->Int->World->Nat),u 0 e c/\∀ (i:Int) (a:Int) (j:World),u i a j->(((a<=m)->0<=(a:Int)/\InR .i64 (a+1)/\(u (zav .or .u64 i (zav .shl .u64 1 a)) (a+1) j/\z (zav .or .u64 i (zav .shl .u64 1 a)) (a+1) j<z i a j)))/\((m<a)->∀ p,Ext j p->g (.tuple #[(.int .u64 i),(.bool true)]) p)))))/\((q=false)->((((h=true)/\(q=false))->∀ d,Ext c d->g (.tuple #[(.int .u64 0),(.bool false)]) d))/\(((h=false)\/(q=true))->(((h=true)->∀ d,Ext c d->FnP Tryz.prog zbD #[(.string E),(.int .i64 1),(.int .i64 99)] d fun L M=>Ext d M/\∃ m t,L=(.tuple #[(.int .i64 m),(.bool t)])/\((t=false)->∀ f,Ext c f->g (.tuple #[(.int .u64 0),(.bool false)]) f)/\((t=true)->∃ (u:Int->Int->World->Prop) (z:Int->Int->World->Nat),u 0 e c/\∀ (i:Int) (a:Int) (j:World),u i a j->(((a<=e)->0<=(a:Int)/\InR .i64 (a+m)/\(u (zav .or .u64 i (zav .shl .u64 1 a)) (a+m) j/\z (zav .or .u64 i (zav .shl .u64 1 a)) (a+m) j<z i a j)))/\((e<a)->∀ p,Ext j p->g (.tuple #[(.int .u64 i),(.bool true)]) p))))/\((h=false)->∃ (v:Int->Int->World->Prop) (A:Int->Int->World->Nat),v 0 e c/\∀ (k:Int) (b:Int) (l:World),v k b l->(((b<=e)->0<=(b:Int)/\InR .i64 (b+1)/\(v (zav .or .u64 k (zav .shl .u64 1 b)) (b+1) l/\A (zav .or .u64 k (zav .shl .u64 1 b)) (b+1) l<A k b l)))/\((e<b)->∀ f,Ext l f->g (.tuple #[(.int .u64 k),(.bool true)]) f)))))))/\((D=(⟨#[42]⟩:ByteArray))->(((h=true)->∀ r,Ext c r->FnP Tryz.prog zbD #[(.string E),(.int .i64 1),(.int .i64 99)] r fun J K=>Ext r K/\∃ e s,J=(.tuple #[(.int .i64 e),(.bool s)])/\((s=false)->∀ d,Ext c d->g (.tuple #[(.int .u64 0),(.bool false)]) d)/\((s=true)->∃ (v:Int->Int->World->Prop) (A:Int->Int->World->Nat),v 0 P c/\∀ (k:Int) (b:Int) (l:World),v k b l->(((b<=w)->0<=(b:Int)/\InR .i64 (b+e)/\(v (zav .or .u64 k (zav .shl .u64 1 b)) (b+e) l/\A (zav .or .u64 k (zav .shl .u64 1 b)) (b+e) l<A k b l)))/\((w<b)->∀ f,Ext l f->g (.tuple #[(.int .u64 k),(.bool true)]) f))))/\((h=false)->∃ (O:Int->Int->World->Prop) (V:Int->Int->World->Nat),O 0 P c/\∀ (B:Int) (o:Int) (C:World),O B o C->(((o<=w)->0<=(o:Int)/\InR .i64 (o+1)/\(O (zav .or .u64 B (zav .shl .u64 1 o)) (o+1) C/\V (zav .or .u64 B (zav .shl .u64 1 o)) (o+1) C<V B o C)))/\((w<o)->∀ d,Ext C d->g (.tuple #[(.int .u64 B),(.bool true)]) d)))
theorem zfL (a:Option Addr) (b c:Int) (d:ByteArray) (e:World) (f:Value->World->Prop) (h:zli a b c d e f):FnP Tryz.prog zcz #[(.agg #[(.pointer a),(.int .i64 b),(.int .i64 c)]),(.string d)] e f:=
 zab (Eq.mp (by kernel_rfl:_=Runs Tryz.prog f ({N:=88,wrap:=[85]}:Cfg) Tryz.f271 (Tryz.f271.body.getD .skip) [.agg [.ptr a,.int .i64 b,.int .i64 c],.sc (.str d)] e) h) Tryz.func271 (by kernel_rfl) (fun a w=>Tryz.call271 a w) (by kernel_rfl) (by kernel_rfl) rfl rfl
def zsH (B:ByteArray) (C:World) (r:Value->World->Prop):Prop:=
 ∀ d:Nat,C.heap.size<=d->((200<(B.size:Int))->∀ k,Ext C k->r (.tuple #[(.agg #[(.int .u64 0),(.int .u64 0),(.int .u64 0),(.int .u64 0),(.int .u64 0)]),(.int .i64 2)]) k)/\(((B.size:Int)<=200)->∀ k,zag [] [d] C k->New k 372 [(.int .u64 0),(.int .u64 0),(.int .u64 0),(.int .u64 0),(.int .u64 0)] fun g R=>∀ s,zag [] [d] R s->FnP Tryz.prog zbb #[(.string B),(.string (⟨#[32]⟩:ByteArray))] s fun S y=>Ext s y/\∃ t o N,S=(.slice t o N)/\(((o:Int)≠5)->∀ h,zag [d] [] y h->r (.tuple #[(.agg #[(.int .u64 0),(.int .u64 0),(.int .u64 0),(.int .u64 0),(.int .u64 0)]),(.int .i64 3)]) h)/\(((o:Int)=5)->∀ h,zag [] [d] y h->FnP Tryz.prog zdg #[(.pointer g)] h fun T I=>Ext h I/\∃ i p O,T=(.slice i p O)/\∃ (z:Int->World->Prop) (L:Int->World->Nat),z 0 I/\∀ (a:Int) (b:World),z a b->(((a<(p:Int))->i≠none/\(0:Int)<=a/\(a:Int)<(p:Int)/\(pIdx i a 3)≠none/\∃ e,cell b (pIdx i a 3) 0=some (.pointer e)/\∃ l,cell b (pIdx i a 3) 1=some (.int .i64 l)/\∃ m,cell b (pIdx i a 3) 2=some (.int .i64 m)/\∀ u:Nat,b.heap.size<=u->t≠none/\(0:Int)<=a/\(a:Int)<(o:Int)/\∃ n,cell b (pIdx t a 1) 0=some (.string n)/\∀ j,zag [] [d,u] b j->FnP Tryz.prog zbb #[(.string n),(.string (⟨#[44]⟩:ByteArray))] j fun U J=>Ext j J/\∃ v q P,U=(.slice v q P)/\∃ (A:Int->World->Prop) (M:Int->World->Nat),A 0 J/\∀ (c:Int) (f:World),A c f->(((c<(q:Int))->v≠none/\(0:Int)<=c/\(c:Int)<(q:Int)/\∃ D,cell f (pIdx v c 1) 0=some (.string D)/\∀ w,Ext f w->FnP Tryz.prog zcz #[(.agg #[(.pointer e),(.int .i64 l),(.int .i64 m)]),(.string D)] w fun V W=>Ext w W/\∃ E x,V=(.tuple #[(.int .u64 E),(.bool x)])/\((x=false)->∀ F,zag [d] [] f F->r (.tuple #[(.agg #[(.int .u64 0),(.int .u64 0),(.int .u64 0),(.int .u64 0),(.int .u64 0)]),(.int .i64 3)]) F)/\((x=true)->e≠none/\∃ G,cell f e 0=some (.int .u64 G)/\e≠none/\zam f e [(.int .u64 (zav .or .u64 G E))] [d,u] fun K=>InR .i64 (c+1)/\(A (c+1) K/\M (c+1) K<M c f))))/\(((q:Int)<=c)->InR .i64 (a+1)/\(z (a+1) f/\L (a+1) f<L a b))))/\(((p:Int)<=a)->g≠none/\∃ e,cell b g 0=some (.int .u64 e)/\∃ l,cell b g 1=some (.int .u64 l)/\∃ m,cell b g 2=some (.int .u64 m)/\∃ H,cell b g 3=some (.int .u64 H)/\∃ n,cell b g 4=some (.int .u64 n)/\∀ j,zag [d] [] b j->r (.tuple #[(.agg #[(.int .u64 e),(.int .u64 l),(.int .u64 m),(.int .u64 H),(.int .u64 n)]),(.int .i64 0)]) j)))
theorem zkW (a:ByteArray) (b:World) (c:Value->World->Prop) (h:zsH a b c):FnP Tryz.prog zfx #[(.string a)] b c:=
 zab (Eq.mp (by kernel_rfl:_=Runs Tryz.prog c ({N:=58,pub:=[4]}:Cfg) Tryz.f254 (Tryz.f254.body.getD .skip) [.sc (.str a)] b) h) Tryz.func254 (by kernel_rfl) (fun a w=>Tryz.call254 a w) (by kernel_rfl) (by kernel_rfl) rfl rfl
def zu1 (o p q r s c:Int) (l:World) (m:Value->World->Prop):Prop:=
 ∀ x:Nat,l.heap.size<=x->∀ t,Ext l t->FnP Tryz.prog zh7 #[(.agg #[(.int .u64 o),(.int .u64 p),(.int .u64 q),(.int .u64 r),(.int .u64 s)])] t fun y z=>Ext t z/\∃ n,y=(.int .i64 n)/\((n≠0)->∀ i,Ext l i->m (.tuple #[(.int .i64 0),(.int .i64 n)]) i)/\((n=0)->(((c<(-1))\/(5258964959<c))->∀ i,Ext l i->m (.tuple #[(.int .i64 0),(.int .i64 4)]) i)/\((((-1)<=c)/\(c<=5258964959))->InR .i64 (c+1)/\InR .i64 ((c+1).tdiv 1440)/\∃ (k:Int->World->Prop) (h:Int->World->Nat),k ((c+1).tdiv 1440) l/\∀ (a:Int) (b:World),k a b->InR .i64 (((c+1).tdiv 1440)+146097)/\(((a<=(min 3652058 (((c+1).tdiv 1440)+146097)))->∀ g,Ext b g->FnP Tryz.prog zlw #[(.agg #[(.int .u64 o),(.int .u64 p),(.int .u64 q),(.int .u64 r),(.int .u64 s)]),(.int .i64 a)] g fun A B=>Ext g B/\∃ u,A=(.bool u)/\(((u=false)->InR .i64 (a+1)/\(k (a+1) b/\h (a+1) b<h a b)))/\((u=true)->(((a=((c+1).tdiv 1440))->∀ d,Ext b d->FnP Tryz.prog zdh #[(.agg #[(.int .u64 o),(.int .u64 p),(.int .u64 q),(.int .u64 r),(.int .u64 s)]),(.int .i64 ((c+1).tmod 1440))] d fun v w=>Ext d w/\∃ e f,v=(.tuple #[(.int .i64 e),(.bool f)])/\(((f=true)->InR .i64 (1440*a)/\InR .i64 ((1440*a)+e)/\∀ j,Ext b j->m (.tuple #[(.int .i64 ((1440*a)+e)),(.int .i64 0)]) j))/\((f=false)->InR .i64 (a+1)/\(k (a+1) b/\h (a+1) b<h a b))))/\((a≠((c+1).tdiv 1440))->∀ d,Ext b d->FnP Tryz.prog zdh #[(.agg #[(.int .u64 o),(.int .u64 p),(.int .u64 q),(.int .u64 r),(.int .u64 s)]),(.int .i64 0)] d fun v w=>Ext d w/\∃ e f,v=(.tuple #[(.int .i64 e),(.bool f)])/\(((f=true)->InR .i64 (1440*a)/\InR .i64 ((1440*a)+e)/\∀ j,Ext b j->m (.tuple #[(.int .i64 ((1440*a)+e)),(.int .i64 0)]) j))/\((f=false)->InR .i64 (a+1)/\(k (a+1) b/\h (a+1) b<h a b))))))/\(((min 3652058 (((c+1).tdiv 1440)+146097))<a)->∀ g,Ext b g->m (.tuple #[(.int .i64 0),(.int .i64 5)]) g)))
theorem zuc (a b c d e f:Int) (g:World) (i:Value->World->Prop) (h:zu1 a b c d e f g i):FnP Tryz.prog zjz #[(.agg #[(.int .u64 a),(.int .u64 b),(.int .u64 c),(.int .u64 d),(.int .u64 e)]),(.int .i64 f)] g i:=
 zab (Eq.mp (by kernel_rfl:_=Runs Tryz.prog i ({N:=55}:Cfg) Tryz.f255 (Tryz.f255.body.getD .skip) [.agg [.int .u64 a,.int .u64 b,.int .u64 c,.int .u64 d,.int .u64 e],.sc (.int .i64 f)] g) h) Tryz.func255 (by kernel_rfl) (fun a w=>Tryz.call255 a w) (by kernel_rfl) (by kernel_rfl) rfl rfl
def zw3 (O P i N j y:Int) (a:World) (h:Value->World->Prop):Prop:=
 ∀ z:Nat,a.heap.size<=z->∀ k,Ext a k->FnP Tryz.prog zh4 #[(.int .i64 y)] k fun D E=>Ext k E/\∃ A v l B,D=(.tuple #[(.int .i64 A),(.int .i64 v),(.int .i64 l),(.int .i64 B)])/\∀ m,Ext a m->FnP Tryz.prog zeY #[(.int .i64 y)] m fun F G=>Ext m G/\∃ n C,F=(.tuple #[(.int .i64 n),(.int .i64 C)])/\∀ o,Ext a o->FnP Tryz.prog zc9 #[(.int .u64 N),(.int .i64 v)] o fun H I=>Ext o I/\∃ p,H=(.bool p)/\((p=false)->∀ e,Ext a e->h (.bool false) e)/\((p=true)->∀ e,Ext a e->FnP Tryz.prog zeZ #[(.int .i64 1),(.int .i64 31)] e fun J K=>Ext e K/\∃ q,J=(.int .u64 q)/\(((i=q)->∀ d,Ext a d->FnP Tryz.prog zc9 #[(.int .u64 j),(.int .i64 n)] d fun r s=>Ext d s/\∃ f,r=(.bool f)/\∀ b,Ext a b->h (.bool f) b))/\((i≠q)->∀ d,Ext a d->FnP Tryz.prog zeZ #[(.int .i64 0),(.int .i64 6)] d fun r s=>Ext d s/\∃ f,r=(.int .u64 f)/\(((j=f)->∀ b,Ext a b->FnP Tryz.prog zc9 #[(.int .u64 i),(.int .i64 l)] b fun t u=>Ext b u/\∃ g,t=(.bool g)/\∀ c,Ext a c->h (.bool g) c))/\((j≠f)->∀ b,Ext a b->FnP Tryz.prog zc9 #[(.int .u64 i),(.int .i64 l)] b fun t u=>Ext b u/\∃ g,t=(.bool g)/\((g=true)->∀ c,Ext a c->h (.bool true) c)/\((g=false)->∀ c,Ext a c->FnP Tryz.prog zc9 #[(.int .u64 j),(.int .i64 n)] c fun L M=>Ext c M/\∃ w,L=(.bool w)/\∀ x,Ext a x->h (.bool w) x))))
theorem zwt (a b c d e f:Int) (g:World) (i:Value->World->Prop) (h:zw3 a b c d e f g i):FnP Tryz.prog zlw #[(.agg #[(.int .u64 a),(.int .u64 b),(.int .u64 c),(.int .u64 d),(.int .u64 e)]),(.int .i64 f)] g i:=
 zab (Eq.mp (by kernel_rfl:_=Runs Tryz.prog i ({N:=57}:Cfg) Tryz.f273 (Tryz.f273.body.getD .skip) [.agg [.int .u64 a,.int .u64 b,.int .u64 c,.int .u64 d,.int .u64 e],.sc (.int .i64 f)] g) h) Tryz.func273 (by kernel_rfl) (fun a w=>Tryz.call273 a w) (by kernel_rfl) (by kernel_rfl) rfl rfl
def zqh (h s t u v c:Int) (o:World) (n:Value->World->Prop):Prop:=
 ∀ p:Nat,o.heap.size<=p->InR .i64 (c.tdiv 60)/\∃ (j:Int->World->Prop) (g:Int->World->Nat),j (c.tdiv 60) o/\∀ (a:Int) (b:World),j a b->(((a<24)->∀ f,Ext b f->FnP Tryz.prog zc9 #[(.int .u64 s),(.int .i64 a)] f fun q r=>Ext f r/\∃ k,q=(.bool k)/\(((k=false)->InR .i64 (a+1)/\(j (a+1) b/\g (a+1) b<g a b)))/\((k=true)->InR .i64 (c.tdiv 60)/\(((a=(c.tdiv 60))->0<=((c.tmod 60):Int)/\((((zav .shr .u64 h (c.tmod 60))≠0)->InR .i64 (60*a)/\InR .i64 ((60*a)+(c.tmod 60))/\∀ d,Ext b d->FnP Tryz.prog zaH #[(.int .u64 (zav .shr .u64 h (c.tmod 60)))] d fun l m=>Ext d m/\∃ e,l=(.int .i64 e)/\InR .i64 (((60*a)+(c.tmod 60))+e)/\∀ i,Ext b i->n (.tuple #[(.int .i64 (((60*a)+(c.tmod 60))+e)),(.bool true)]) i))/\(((zav .shr .u64 h (c.tmod 60))=0)->InR .i64 (a+1)/\(j (a+1) b/\g (a+1) b<g a b))))/\((a≠(c.tdiv 60))->((((zav .shr .u64 h 0)≠0)->InR .i64 (60*a)/\InR .i64 ((60*a)+0)/\∀ d,Ext b d->FnP Tryz.prog zaH #[(.int .u64 (zav .shr .u64 h 0))] d fun l m=>Ext d m/\∃ e,l=(.int .i64 e)/\InR .i64 (((60*a)+0)+e)/\∀ i,Ext b i->n (.tuple #[(.int .i64 (((60*a)+0)+e)),(.bool true)]) i))/\(((zav .shr .u64 h 0)=0)->InR .i64 (a+1)/\(j (a+1) b/\g (a+1) b<g a b))))))/\((24<=a)->∀ f,Ext b f->n (.tuple #[(.int .i64 0),(.bool false)]) f)
theorem zpT (a b c d e f:Int) (g:World) (i:Value->World->Prop) (h:zqh a b c d e f g i):FnP Tryz.prog zdh #[(.agg #[(.int .u64 a),(.int .u64 b),(.int .u64 c),(.int .u64 d),(.int .u64 e)]),(.int .i64 f)] g i:=
 zab (Eq.mp (by kernel_rfl:_=Runs Tryz.prog i ({N:=39}:Cfg) Tryz.f274 (Tryz.f274.body.getD .skip) [.agg [.int .u64 a,.int .u64 b,.int .u64 c,.int .u64 d,.int .u64 e],.sc (.int .i64 f)] g) h) Tryz.func274 (by kernel_rfl) (fun a w=>Tryz.call274 a w) (by kernel_rfl) (by kernel_rfl) rfl rfl
def zw4 (c b:Int) (d:World) (e:Value->World->Prop):Prop:=
 0<=(b:Int)/\∀ a,Ext d a->e (.bool (decide ((zav .and .u64 (zav .shr .u64 c b) 1)=1))) a
theorem zwu (a b:Int) (c:World) (d:Value->World->Prop) (h:zw4 a b c d):FnP Tryz.prog zc9 #[(.int .u64 a),(.int .i64 b)] c d:=
 zab (Eq.mp (by kernel_rfl:_=Runs Tryz.prog d ({N:=10}:Cfg) Tryz.f282 (Tryz.f282.body.getD .skip) [.sc (.int .u64 a),.sc (.int .i64 b)] c) h) Tryz.func282 (by kernel_rfl) (fun a w=>Tryz.call282 a w) (by kernel_rfl) (by kernel_rfl) rfl rfl
def zsD (b:Int) (t:World) (u:Value->World->Prop):Prop:=
 (((b<0)\/(3652058<b))->∀ q,Ext t q->u (.tuple #[(.int .i64 0),(.int .i64 0),(.int .i64 0),(.int .i64 4)]) q)/\(((0<=b)/\(b<=3652058))->InR .i64 (b.tdiv 366)/\InR .i64 ((b.tdiv 366)+1)/\∃ (o:Int->World->Prop) (r:Int->World->Nat),o ((b.tdiv 366)+1) t/\∀ (a:Int) (e:World),o a e->InR .i64 (a+1)/\∀ i,Ext e i->FnP Tryz.prog zdZ #[(.int .i64 (a+1))] i fun v w=>Ext i w/\∃ j,v=(.int .i64 j)/\(((j<=b)->InR .i64 (a+1)/\(o (a+1) e/\r (a+1) e<r a e)))/\((b<j)->∀ k,Ext e k->FnP Tryz.prog zdZ #[(.int .i64 a)] k fun x y=>Ext k y/\∃ l,x=(.int .i64 l)/\InR .i64 (b-l)/\∃ (p:Int->Int->World->Prop) (s:Int->Int->World->Nat),p (b-l) 1 e/\∀ (c:Int) (d:Int) (f:World),p c d f->∀ m,Ext f m->FnP Tryz.prog zd0 #[(.int .i64 a),(.int .i64 d)] m fun z A=>Ext m A/\∃ n,z=(.int .i64 n)/\(((n<=c)->∀ g,Ext f g->FnP Tryz.prog zd0 #[(.int .i64 a),(.int .i64 d)] g fun B C=>Ext g C/\∃ h,B=(.int .i64 h)/\InR .i64 (c-h)/\InR .i64 (d+1)/\(p (c-h) (d+1) f/\s (c-h) (d+1) f<s c d f)))/\((c<n)->InR .i64 (c+1)/\∀ g,Ext f g->u (.tuple #[(.int .i64 a),(.int .i64 d),(.int .i64 (c+1)),(.int .i64 0)]) g)))
theorem zr5 (a:Int) (b:World) (c:Value->World->Prop) (h:zsD a b c):FnP Tryz.prog zh4 #[(.int .i64 a)] b c:=
 zab (Eq.mp (by kernel_rfl:_=Runs Tryz.prog c ({N:=42}:Cfg) Tryz.f280 (Tryz.f280.body.getD .skip) [.sc (.int .i64 a)] b) h) Tryz.func280 (by kernel_rfl) (fun a w=>Tryz.call280 a w) (by kernel_rfl) (by kernel_rfl) rfl rfl
def znl (a:Int) (c:World) (d:Value->World->Prop):Prop:=
 (((a<0)\/(3652058<a))->∀ b,Ext c b->d (.tuple #[(.int .i64 0),(.int .i64 4)]) b)/\(((0<=a)/\(a<=3652058))->InR .i64 (a+1)/\∀ b,Ext c b->d (.tuple #[(.int .i64 ((a+1).tmod 7)),(.int .i64 0)]) b)
theorem znb (a:Int) (b:World) (c:Value->World->Prop) (h:znl a b c):FnP Tryz.prog zeY #[(.int .i64 a)] b c:=
 zab (Eq.mp (by kernel_rfl:_=Runs Tryz.prog c ({N:=13}:Cfg) Tryz.f281 (Tryz.f281.body.getD .skip) [.sc (.int .i64 a)] b) h) Tryz.func281 (by kernel_rfl) (fun a w=>Tryz.call281 a w) (by kernel_rfl) (by kernel_rfl) rfl rfl
def zeS (a:Int) (c:World) (f:Value->World->Prop):Prop:=
 ((a=0)->∀ d,Ext c d->f (.int .i64 64) d)/\((a≠0)->(some (⟨9,0,none⟩:Addr))≠none/\(0:Int)<=(zav .shr .u64 (IntKind.wrap .u64 ((zav .and .u64 a (IntKind.wrap .u64 (0-a)))*285870213051353865)) 58)/\((zav .shr .u64 (IntKind.wrap .u64 ((zav .and .u64 a (IntKind.wrap .u64 (0-a)))*285870213051353865)) 58):Int)<64/\∃ b,cell c (pIdx (some (⟨9,0,none⟩:Addr)) (zav .shr .u64 (IntKind.wrap .u64 ((zav .and .u64 a (IntKind.wrap .u64 (0-a)))*285870213051353865)) 58) 1) 0=some (.int .u8 b)/\InR .i64 b/\∀ e,Ext c e->f (.int .i64 b) e)
theorem zeP (a:Int) (b:World) (c:Value->World->Prop) (h:zeS a b c):FnP Tryz.prog zaH #[(.int .u64 a)] b c:=
 zab (Eq.mp (by kernel_rfl:_=Runs Tryz.prog c ({N:=14,wrap:=[7,9]}:Cfg) Tryz.f262 (Tryz.f262.body.getD .skip) [.sc (.int .u64 a)] b) h) Tryz.func262 (by kernel_rfl) (fun a w=>Tryz.call262 a w) (by kernel_rfl) (by kernel_rfl) rfl rfl
def ziG (a:Int) (c:World) (d:Value->World->Prop):Prop:=
 InR .i64 (a-1)/\InR .i64 (365*(a-1))/\InR .i64 ((a-1).tdiv 4)/\InR .i64 ((365*(a-1))+((a-1).tdiv 4))/\InR .i64 ((a-1).tdiv 100)/\InR .i64 (((365*(a-1))+((a-1).tdiv 4))-((a-1).tdiv 100))/\InR .i64 ((a-1).tdiv 400)/\InR .i64 ((((365*(a-1))+((a-1).tdiv 4))-((a-1).tdiv 100))+((a-1).tdiv 400))/\∀ b,Ext c b->d (.int .i64 ((((365*(a-1))+((a-1).tdiv 4))-((a-1).tdiv 100))+((a-1).tdiv 400))) b
theorem zoP (a:Int) (b:World) (c:Value->World->Prop) (h:ziG a b c):FnP Tryz.prog zdZ #[(.int .i64 a)] b c:=
 zab (Eq.mp (by kernel_rfl:_=Runs Tryz.prog c ({N:=16}:Cfg) Tryz.f285 (Tryz.f285.body.getD .skip) [.sc (.int .i64 a)] b) h) Tryz.func285 (by kernel_rfl) (fun a w=>Tryz.call285 a w) (by kernel_rfl) (by kernel_rfl) rfl rfl
def zpl (o a:Int) (b:World) (e:Value->World->Prop):Prop:=
 (((a=2)->∀ c,Ext b c->FnP Tryz.prog zh5 #[(.int .i64 o)] c fun m n=>Ext c n/\∃ f,m=(.bool f)/\((f=true)->∀ d,Ext b d->e (.int .i64 29) d)/\((f=false)->((a=12)->∀ d,Ext b d->e (.int .i64 31) d)/\((a≠12)->InR .i64 (a+1)/\(some (⟨10,0,none⟩:Addr))≠none/\(0:Int)<=(a+1)/\((a+1):Int)<13/\∃ g,cell b (pIdx (some (⟨10,0,none⟩:Addr)) (a+1) 1) 0=some (.int .i64 g)/\(some (⟨10,0,none⟩:Addr))≠none/\(0:Int)<=a/\(a:Int)<13/\∃ h,cell b (pIdx (some (⟨10,0,none⟩:Addr)) a 1) 0=some (.int .i64 h)/\InR .i64 (g-h)/\∀ k,Ext b k->e (.int .i64 (g-h)) k))))/\((a≠2)->((a=12)->∀ c,Ext b c->e (.int .i64 31) c)/\((a≠12)->InR .i64 (a+1)/\(some (⟨10,0,none⟩:Addr))≠none/\(0:Int)<=(a+1)/\((a+1):Int)<13/\∃ i,cell b (pIdx (some (⟨10,0,none⟩:Addr)) (a+1) 1) 0=some (.int .i64 i)/\(some (⟨10,0,none⟩:Addr))≠none/\(0:Int)<=a/\(a:Int)<13/\∃ j,cell b (pIdx (some (⟨10,0,none⟩:Addr)) a 1) 0=some (.int .i64 j)/\InR .i64 (i-j)/\∀ l,Ext b l->e (.int .i64 (i-j)) l))
theorem zoQ (a b:Int) (c:World) (d:Value->World->Prop) (h:zpl a b c d):FnP Tryz.prog zd0 #[(.int .i64 a),(.int .i64 b)] c d:=
 zab (Eq.mp (by kernel_rfl:_=Runs Tryz.prog d ({N:=23}:Cfg) Tryz.f286 (Tryz.f286.body.getD .skip) [.sc (.int .i64 a),.sc (.int .i64 b)] c) h) Tryz.func286 (by kernel_rfl) (fun a w=>Tryz.call286 a w) (by kernel_rfl) (by kernel_rfl) rfl rfl
def zsE (a:Int) (c:World) (d:Value->World->Prop):Prop:=
 ∀ b,Ext c b->d (.bool (((decide ((a.tmod 4)=0))&&(decide ((a.tmod 100)≠0)))||(decide ((a.tmod 400)=0)))) b
theorem zr6 (a:Int) (b:World) (c:Value->World->Prop) (h:zsE a b c):FnP Tryz.prog zh5 #[(.int .i64 a)] b c:=
 zab (Eq.mp (by kernel_rfl:_=Runs Tryz.prog c ({N:=16}:Cfg) Tryz.f287 (Tryz.f287.body.getD .skip) [.sc (.int .i64 a)] b) h) Tryz.func287 (by kernel_rfl) (fun a w=>Tryz.call287 a w) (by kernel_rfl) (by kernel_rfl) rfl rfl
def lng (y:Int):Prop:=(y%4=0/\y%100≠0)\/y%400=0
instance (y:Int):Decidable (lng y):=by unfold lng; infer_instance
def bef (y:Int):Int:=365*(y-1)+(y-1)/4-(y-1)/100+(y-1)/400
def ah (m:Int):Int:=if m<=1 then 0 else if m=2 then 31 else if m=3 then 59 else if m=4 then 90 else if m=5 then 120 else if m=6 then 151 else if m=7 then 181 else if m=8 then 212 else if m=9 then 243 else if m=10 then 273 else if m=11 then 304 else 334
def ln (y m:Int):Int:=if m=2/\lng y then 29 else if m=12 then 31 else ah (m+1)-ah m
def ms (y m:Int):Int:=ah m+if 2<m/\lng y then 1 else 0
def dy (y m d:Int):Int:=bef y+ms y m+d-1
def vd (y m d:Int):Prop:=1<=y/\y<=9999/\1<=m/\m<=12/\1<=d/\d<=ln y m
theorem zxy {y:Int} (h:1<=y):bef (y+1)=bef y+365+if lng y then 1 else 0:=by
  by_cases hl:lng y<;>simp only [hl,if_true,if_false]<;>unfold lng at hl<;>unfold bef<;>omega
theorem zfB {a b:Int} (h:a<=b):bef a<=bef b:=by unfold bef; omega
theorem zzF {m:Int} (h1:1<=m) (h2:m<=12):m=1\/m=2\/m=3\/m=4\/m=5\/m=6\/m=7\/m=8\/m=9\/m=10\/m=11\/m=12:=by omega
theorem ztS {y m:Int} (h1:1<=m) (h2:m<=12):28<=ln y m/\ln y m<=31:=by
  by_cases hl:lng y<;>rcases zzF h1 h2 with h|h|h|h|h|h|h|h|h|h|h|h<;>subst h<;>simp [ln,ah,hl]
theorem zIT {y m:Int} (h1:1<=m) (h2:m<12):ms y (m+1)=ms y m+ln y m:=by
  by_cases hl:lng y<;>rcases zzF h1 (by omega) with h|h|h|h|h|h|h|h|h|h|h|h<;>subst h<;>simp [ms,ln,ah,hl] at h2 ⊢
theorem ms_one {y:Int}:ms y 1=0:=by simp [ms,ah]
theorem zIS {y:Int}:ms y 12+ln y 12=365+if lng y then 1 else 0:=by
  by_cases hl:lng y<;>simp [ms,ln,ah,hl]
theorem ztY {y m:Int} (h1:1<=m) (h2:m<=12):0<=ms y m/\ms y m+ln y m<=365+if lng y then 1 else 0:=by
  by_cases hl:lng y<;>rcases zzF h1 h2 with h|h|h|h|h|h|h|h|h|h|h|h<;>subst h<;>simp [ms,ln,ah,hl]
theorem ms_le {y a b:Int} (h1:1<=a) (h:a<b) (h2:b<=12):ms y a+ln y a<=ms y b:=by
  by_cases hl:lng y<;>rcases zzF h1 (by omega) with e|e|e|e|e|e|e|e|e|e|e|e<;>rcases zzF (show 1<=b by omega) h2 with h'|h'|h'|h'|h'|h'|h'|h'|h'|h'|h'|h'<;>subst e<;>subst h'<;>first|omega|simp [ms,ln,ah,hl]
theorem zih {y m d:Int} (h:vd y m d):bef y<=dy y m d/\dy y m d<bef (y+1):=by
  obtain ⟨h1,h2,h3,h4,h5,h6⟩:=h
  have:=ztY (y:=y) h3 h4
  have:=zxy h1
  unfold dy; omega
theorem dy_inj {y m d y' m' d':Int} (h:vd y m d) (h':vd y' m' d') (e:dy y m d=dy y' m' d'):y=y'/\m=m'/\d=d':=by
  have b1:=zih h
  have b2:=zih h'
  have hy:y=y':=by
    rcases Int.lt_trichotomy y y' with hl|hl|hl
    · have:=zfB (show y+1<=y' by omega); omega
    · exact hl
    · have:=zfB (show y'+1<=y by omega); omega
  subst hy
  obtain ⟨h1,h2,h3,h4,h5,h6⟩:=h
  obtain ⟨_,_,g3,g4,g5,g6⟩:=h'
  unfold dy at e
  have hm:m=m':=by
    rcases Int.lt_trichotomy m m' with hl|hl|hl
    · have:=ms_le (y:=y) h3 hl g4; omega
    · exact hl
    · have:=ms_le (y:=y) g3 hl h4; omega
  subst hm
  exact ⟨rfl,rfl,by omega⟩
def Gl (w:World):Prop:=∀ i:Nat,i<13->cell w (some (⟨10,0,none⟩:Addr)) i=some (.int .i64 (ah i))
theorem Gl.ext {w w':World} (h:Gl w) (he:Ext w w'):Gl w':=fun i hi=>zaG he (h i hi)
theorem Gl.at {w:World} (h:Gl w) {m:Int} (h0:0<=m) (h1:m<13):cell w (pIdx (some (⟨10,0,none⟩:Addr)) m 1) 0=some (.int .i64 (ah m)):=by
  rw [zad]
  have:=h m.toNat (by omega)
  rw [show ((m.toNat:Nat):Int)=m by omega] at this
  simpa using this
theorem long_k (y:Int) (hy:0<=y) (w:World):FnP Tryz.prog zh5 #[.int .i64 y] w fun v w'=>Ext w w'/\v=.bool (decide (lng y)):=by
  refine zr6 _ w _ ?_
  intro w0 h0
  refine ⟨h0,?_⟩
  rw [tm hy,tm hy,tm hy]
  congr 1
  rw [Bool.eq_iff_iff,decide_eq_true_iff (p:=lng y)]
  simp only [Bool.or_eq_true,Bool.and_eq_true,decide_eq_true_eq]
  exact Iff.rfl
theorem zxz (y:Int) (hy:1<=y) (hy2:y<=100000) (w:World):FnP Tryz.prog zdZ #[.int .i64 y] w fun v w'=>Ext w w'/\v=.int .i64 (bef y):=by
  refine zoP _ w _ ?_
  unfold ziG
  rw [td (by omega),td (by omega),td (by omega)]
  exact ⟨i64 (by omega),i64 (by omega),i64 (by omega),i64 (by omega),i64 (by omega),i64 (by omega),i64 (by omega),i64 (by omega),fun w0 h0=>⟨h0,rfl⟩⟩
theorem zyd (y m:Int) (hy:0<=y) (h1:1<=m) (h2:m<=12) (w:World) (hg:Gl w):FnP Tryz.prog zd0 #[.int .i64 y,.int .i64 m] w fun v w'=>Ext w w'/\v=.int .i64 (ln y m):=by
  refine zoQ _ _ w _ ?_
  have hah:-400<=ah (m+1)-ah m/\ah (m+1)-ah m<=400:=by
    rcases zzF h1 h2 with h|h|h|h|h|h|h|h|h|h|h|h<;>subst h<;>simp [ah]
  have main:m≠12->¬ (m=2/\lng y)->∃ t3:Int,cell w (pIdx (some (⟨10,0,none⟩:Addr)) (m+1) 1) 0=some (.int .i64 t3)/\(some (⟨10,0,none⟩:Addr))≠none/\0<=m/\m<13/\∃ t4:Int,cell w (pIdx (some (⟨10,0,none⟩:Addr)) m 1) 0=some (.int .i64 t4)/\InR .i64 (t3-t4)/\∀ w5,Ext w w5->Ext w w5/\Value.int .i64 (t3-t4)=.int .i64 (ln y m):=by
    intro h12 h
    refine ⟨_,hg.at (by omega) (by omega),by simp,by omega,by omega,_,hg.at (by omega) (by omega),i64 (by omega),fun w5 h5=>⟨h5,?_⟩⟩
    simp [ln,h,h12]
  refine ⟨fun hm=>?_,fun hm=>⟨fun h12 w0 h0=>⟨h0,?_⟩,fun h12=>⟨i64 (by omega),by simp,by omega,by omega,main h12 (by omega)⟩⟩⟩
  · intro w0 h0
    refine (long_k y hy w0).mono fun v w1 ⟨e1,hv⟩=>⟨e1,_,hv,fun ht w3 h3=>⟨h3,?_⟩,fun ht=>⟨fun h12=>by omega,fun h12=>⟨i64 (by omega),by simp,by omega,by omega,main h12 ?_⟩⟩⟩
    · have:lng y:=by simpa using ht
      simp [ln,hm,this]
    · have:¬ lng y:=by simpa using ht
      exact fun h=>this h.2
  · simp [ln,h12]
theorem Date_k (n:Int) (hn:InR .i64 n) (w:World) (hg:Gl w):FnP Tryz.prog zh4 #[.int .i64 n] w fun v w'=>Ext w w'/\∃ y m d e,v=.tuple #[.int .i64 y,.int .i64 m,.int .i64 d,.int .i64 e] /\
    ((0<=n/\n<=3652058)->e=0/\vd y m d/\dy y m d=n)/\(¬ (0<=n/\n<=3652058)->e=4/\y=0/\m=0/\d=0):=by
  refine zr5 _ w _ ?_
  refine ⟨fun h w0 h0=>⟨h0,_,_,_,_,rfl,fun h'=>by omega,fun _=>⟨rfl,rfl,rfl,rfl⟩⟩,fun h=>?_⟩
  have e2:bef 10000=3652059:=by decide
  rw [td (by omega)]
  refine ⟨i64 (by omega),i64 (by omega),fun y w'=>Ext w w'/\1<=y/\bef y<=n,fun y _=>(10000-y).toNat,⟨Ext.refl w,by omega,by unfold bef; omega⟩,?_⟩
  intro y w2 ⟨hw,hy1,hy2⟩
  have hy9:y<=9999:=by
    by_cases hc:y<=9999
    · exact hc
    · have:=zfB (show (10000:Int)<=y by omega); omega
  refine ⟨i64 (by omega),fun w3 h3=>?_⟩
  refine (zxz (y+1) (by omega) (by omega) w3).mono fun v w4 ⟨e4,hv⟩=>⟨e4,_,hv,fun hle=>⟨i64 (by omega),⟨hw,by omega,hle⟩,by simp only []; omega⟩,fun hlt w6 h6=>?_⟩
  refine (zxz y (by omega) (by omega) w6).mono fun v w7 ⟨e7,hv⟩=>⟨e7,_,hv,?_⟩
  have hsucc:=zxy hy1
  have hb0:=zfB hy1
  have e1:bef 1=0:=by decide
  refine ⟨i64 (by omega),fun r m w'=>Ext w w'/\1<=m/\m<=12/\0<=r/\bef y+ms y m+r=n,fun r m _=>(13-m).toNat,⟨hw,by omega,by omega,by omega,by rw [ms_one]; omega⟩,?_⟩
  intro r m w12 ⟨hw12,hm1,hm2,hr0,hr⟩ w13 h13
  have hg12:=hg.ext hw12
  have hlb:=ztS (y:=y) hm1 hm2
  have hmb:=ztY (y:=y) hm1 hm2
  have hif:(if lng y then (1:Int) else 0)<=1/\0<=(if lng y then (1:Int) else 0):=by split<;>omega
  refine (zyd y m (by omega) hm1 hm2 w13 (hg12.ext h13)).mono fun v w14 ⟨e14,hv⟩=>⟨e14,_,hv,fun hge w16 h16=>?_,fun hlt'=>⟨i64 (by omega),fun w16 h16=>⟨hw12.trans h16,_,_,_,_,rfl,fun _=>⟨rfl,⟨hy1,hy9,hm1,hm2,by omega,by omega⟩,by unfold dy; omega⟩,fun h'=>absurd h h'⟩⟩⟩
  refine (zyd y m (by omega) hm1 hm2 w16 (hg12.ext h16)).mono fun v w17 ⟨e17,hv⟩=>⟨e17,_,hv,i64 (by omega),i64 (by omega),?_⟩
  have hm12:m<12:=by
    by_cases hc:m<12
    · exact hc
    · obtain rfl:m=12:=by omega
      have:=zIS (y:=y)
      omega
  have:=zIT (y:=y) hm1 hm12
  exact ⟨⟨hw12,by omega,by omega,by omega,by omega⟩,by simp only []; omega⟩
theorem zAL (n:Int) (hn:InR .i64 n) (w:World):FnP Tryz.prog zeY #[.int .i64 n] w fun v w'=>Ext w w'/\∃ a e,v=.tuple #[.int .i64 a,.int .i64 e] /\
    ((0<=n/\n<=3652058)->e=0/\a=(n+1)%7)/\(¬ (0<=n/\n<=3652058)->e=4/\a=0):=by
  refine znb _ w _ ?_
  refine ⟨fun h w0 h0=>⟨h0,_,_,rfl,fun h'=>by omega,fun _=>⟨rfl,rfl⟩⟩,fun h=>⟨i64 (by omega),fun w0 h0=>⟨h0,_,_,rfl,fun _=>⟨rfl,tm (by omega)⟩,fun h'=>by omega⟩⟩⟩
def GT (w:World):Prop:=∀ i:Nat,i<64->cell w (some (⟨9,0,none⟩:Addr)) i=some (.int .u8 ((Lib.deBruijn64tab.getD i 0:Nat):Int))
theorem GT.ext {w w':World} (hg:GT w) (h:Ext w w'):GT w':=fun i hi=>zaG h (hg i hi)
theorem tzbits {x:Nat} (h0:x≠0) (hx:x<18446744073709551616) :
    Lib.ctz 64 x<64/\(∀ i,i<Lib.ctz 64 x->x.testBit i=false)/\x.testBit (Lib.ctz 64 x)=true/\∀ i,(x &&& (x-1)).testBit i=(x.testBit i&&decide (i≠Lib.ctz 64 x)):=by
  obtain ⟨m,hm,ht⟩:=Lib.ctzFrom_spec 64 x (by omega) (by omega)
  have hc:Lib.ctz 64 x=Lib.ctzFrom 64 x:=by unfold Lib.ctz; rw [if_neg h0]
  rw [hc]
  generalize Lib.ctzFrom 64 x=t at hm ht
  have hp:0<2^t:=Nat.pow_pos (by omega)
  have b1:∀ j,x.testBit j=if j<t then false else (2*m+1).testBit (j-t):=fun j=>by
    have:=Nat.testBit_two_pow_mul_add (2*m+1) (b:=0) (i:=t) hp j
    rw [Nat.add_zero,<- hm] at this
    rw [this]; simp
  have b2:∀ j,(x-1).testBit j=if j<t then true else (2*m).testBit (j-t):=fun j=>by
    have:=Nat.testBit_two_pow_mul_add (2*m) (b:=2^t-1) (i:=t) (by omega) j
    have he:2^t*(2*m)+(2^t-1)=x-1:=by
      have:2^t*(2*m+1)=2^t*(2*m)+2^t:=by rw [Nat.mul_add,Nat.mul_one]
      omega
    rw [he] at this
    rw [this]
    by_cases hj:j<t
    · simp [hj,Nat.testBit_two_pow_sub_one]
    · simp [hj]
  refine ⟨ht,fun i hi=>by rw [b1,if_pos hi],by rw [b1,if_neg (by omega),Nat.sub_self]; simp [Nat.testBit_zero],fun i=>?_⟩
  rw [Nat.testBit_and,b1,b2]
  by_cases hi:i<t
  · simp [hi]
  · simp only [hi,if_false]
    by_cases he:i=t
    · subst he; simp [Nat.testBit_zero]
    · obtain ⟨k,hk⟩:∃ k,i-t=k+1:=⟨i-t-1,by omega⟩
      rw [hk,Nat.testBit_succ,Nat.testBit_succ,show (2*m+1)/2=m by omega,show 2*m/2=m by omega]
      simp [he]
theorem shr58 (x:Int):zav .shr .u64 x 58=x/288230376151711744:=by
  have hb:min (58:Int).toNat IntKind.u64.bits=58:=by decide
  simp only [zav,hb]
  rw [Int.fdiv_eq_ediv_of_nonneg _ (by decide)]
  rfl
theorem zBL (x y:Int):zav .and .u64 x y=bits .and .u64 x y:=rfl
theorem zFU (x:Int) (k:Int) (h:x/288230376151711744=k):zav .shr .u64 x 58=k:=(shr58 x).trans h
theorem tz_key (n a:Nat) (hn:n<18446744073709551616) (h0:n≠0) (hlow:n &&& (18446744073709551616-n)=a) :
    IntKind.wrap .u64 ((zav .and .u64 (n:Int) (IntKind.wrap .u64 (0-(n:Int))))*285870213051353865)/288230376151711744=((a*285870213051353865%18446744073709551616/288230376151711744:Nat):Int):=by
  rw [Int.zero_sub,zBL]
  exact tz64_key n a hn h0 hlow
theorem tz_idx (n a:Nat) (hn:n<18446744073709551616) (h0:n≠0) (hlow:n &&& (18446744073709551616-n)=a) :
    zav .shr .u64 (IntKind.wrap .u64 ((zav .and .u64 (n:Int) (IntKind.wrap .u64 (0-(n:Int))))*285870213051353865)) 58=((a*285870213051353865%18446744073709551616/288230376151711744:Nat):Int) :=
  zFU _ _ (tz_key n a hn h0 hlow)
theorem tz_at (n:Nat) (hn:n<18446744073709551616) (h0:n≠0):∃ idx:Nat,idx<64/\zav .shr .u64 (IntKind.wrap .u64 ((zav .and .u64 (n:Int) (IntKind.wrap .u64 (0-(n:Int))))*285870213051353865)) 58=(idx:Int)/\Lib.deBruijn64tab.getD idx 0=Lib.ctz 64 n/\Lib.ctz 64 n<64:=by
  obtain ⟨hlow,hk⟩:=Lib.lowest_bit 64 n h0 hn
  obtain ⟨hi,htab⟩:=Lib.deBruijn64_at _ hk
  exact ⟨_,hi,tz_idx n _ hn h0 hlow,htab,hk⟩
theorem TZ_k (x:Int) (hx:U x) (h0:x≠0) (w:World) (hg:GT w):FnP Tryz.prog zaH #[.int .u64 x] w fun v w'=>Ext w w'/\v=.int .i64 (Lib.ctz 64 x.toNat:Nat):=by
  have hu:=zfW.1 hx
  obtain ⟨idx,hi,hz,htab,ht⟩:=tz_at x.toNat (by omega) (by omega)
  rw [Int.toNat_of_nonneg hu.1] at hz
  generalize Lib.ctz 64 x.toNat=t at htab ht ⊢
  have hc:=hg idx hi
  rw [htab] at hc
  have hc2:cell w (pIdx (some (⟨9,0,none⟩:Addr)) (idx:Int) 1) 0=some (.int .u8 (t:Int)):=by rw [zad]; simpa using hc
  rw [<- hz] at hc2
  have z0:(0:Int)<=zav .shr .u64 (IntKind.wrap .u64 ((zav .and .u64 x (IntKind.wrap .u64 (0-x)))*285870213051353865)) 58:=by rw [hz]; omega
  have z1:zav .shr .u64 (IntKind.wrap .u64 ((zav .and .u64 x (IntKind.wrap .u64 (0-x)))*285870213051353865)) 58<64:=by rw [hz]; omega
  exact zeP x w _ ⟨fun h=>absurd h h0,fun _=>⟨by simp,z0,z1,(t:Int),hc2,i64 (by omega),fun w1 h1=>⟨h1,rfl⟩⟩⟩
theorem low_k {s:Int} (hs:U s) (hne:s≠0):∃ t:Nat,Lib.ctz 64 s.toNat=t/\t<64/\(∀ i,i<t->tb s i=false)/\tb s t=true/\U (s-1)/\U (zav .and .u64 s (s-1))/\(∀ i,tb (zav .and .u64 s (s-1)) i=(tb s i&&decide (i≠t)))/\(zav .and .u64 s (s-1)).toNat<s.toNat:=by
  have hu:=zfW.1 hs
  obtain ⟨t1,t2,t3,t4⟩:=tzbits (x:=s.toNat) (by omega) (by omega)
  generalize hT:Lib.ctz 64 s.toNat=t at t1 t2 t3 t4
  have hs1:U (s-1):=by rw [zfW]; omega
  have hbit:∀ i,tb (zav .and .u64 s (s-1)) i=(tb s i&&decide (i≠t)):=fun i=>by
    have:=t4 i
    rw [Nat.testBit_and] at this
    rw [zG4,zfj hs,zfj hs1,show (s-1).toNat=s.toNat-1 by omega]
    exact this
  have hU:=zHB s (s-1)
  have hdec:(zav .and .u64 s (s-1)).toNat<s.toNat:=by
    have he:(zav .and .u64 s (s-1)).toNat=s.toNat &&& (s.toNat-1):=by
      apply Nat.eq_of_testBit_eq
      intro i
      rw [<- zfj hU,hbit,t4,zfj hs]
    rw [he]
    have:=Nat.and_le_right (n:=s.toNat) (m:=s.toNat-1)
    omega
  exact ⟨t,rfl,t1,fun i hi=>by rw [zfj hs]; exact t2 i hi,by rw [zfj hs]; exact t3,hs1,hU,hbit,hdec⟩
end Go.Proofs.YtcceeahmcecbnaaGreatDoor
