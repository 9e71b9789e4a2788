/- The framework, the program's texts and what is shown of them: part 4. -/
import Derived.Test.YtcceeahmcecbnaaGreatDoorWTopWaits3
import Derived.Lib.ItoaLen
import Derived.Laws.IdiomStrings
import Derived.Shelf.Strings.IndexAnyAll
import Derived.Shelf.Small.Utf8
import Derived.Laws.Runes
import Derived.Shelf.RegionOpenPlain
import Derived.Laws.RangeAny
import Derived.Lib.OthersKept
import Derived.Lib.AtoiAllCases
import Derived.Lib.LaidTab
import Derived.Handed
import Derived.Lib.AppendStr
import Derived.Laws.BitsLemmas
set_option linter.unusedVariables false
set_option linter.unusedSimpArgs false
set_option maxRecDepth 100000
namespace Go.Proofs.YtcceeahmcecbnaaGreatDoor
open Go.Sx Go.RowKit
structure Nd where
  c:Int
  m:Int
  g:Int
deriving DecidableEq,Inhabited
abbrev zwl (x:Nd):List Value:=[.int .i64 x.c,.int .i64 x.m,.int .i64 x.g]
abbrev nv (x:Nd):Value:=.agg #[.int .i64 x.c,.int .i64 x.m,.int .i64 x.g]
def okN (x:Nd):Prop:=(0<=x.c/\x.c<=1099511627776)/\(0<=x.m/\x.m<=1099511627776)/\(0<=x.g/\x.g<=1099511627776)
instance (x:Nd):Decidable (okN x):=by unfold okN; infer_instance
def zj1 (a b:Nd):Prop:=a.c<=b.c/\a.m<=b.m/\a.g<=b.g
instance (a b:Nd):Decidable (zj1 a b):=by unfold zj1; infer_instance
def zwj (a b:Nd):Nd:=⟨a.c+b.c,a.m+b.m,a.g+b.g⟩
def zin (a b:Nd):Nd:=⟨a.c-b.c,a.m-b.m,a.g-b.g⟩
def za3:Nd:=⟨0,0,0⟩
def zy3 (x:Nd):Int:=if okN x then 0 else 4
theorem zba {x:Nd}:zy3 x=0↔okN x:=by unfold zy3; split<;>simp_all
theorem zmq {x:Nd} (h:¬ okN x):zy3 x=4:=if_neg h
theorem zJ4 {a b:Nd}:a=b↔[a.c,a.m,a.g]=[b.c,b.m,b.g]:=by cases a; cases b; simp
def zcd (x:Nd) (i:Nat):Int:=match i with|0=>x.c|1=>x.m|_=>x.g
theorem zpw {x:Nd}:okN x↔∀ i,i<3->0<=zcd x i/\zcd x i<=1099511627776:=by
  constructor
  · rintro ⟨h1,h2,h3⟩ i hi
    match i,hi with
    |0,_ => exact h1
    |1,_ => exact h2
    |2,_ => exact h3
  · intro h
    exact ⟨h 0 (by omega),h 1 (by omega),h 2 (by omega)⟩
def pn (i:Nat):ByteArray:=match i with|0=>⟨#[99,112,117]⟩|1=>⟨#[109,101,109]⟩|_=>⟨#[103,112,117]⟩
abbrev zvu (a:Option Addr):List Value:=[.string (pn 0),.pointer (pAdd a 0),.string (pn 1),.pointer (pAdd a 1),.string (pn 2),.pointer (pAdd a 2)]
theorem zs8 {w:World} {q a:Option Addr} (h:zau w q (zvu a)) {k:Int} (h0:0<=k) (h1:k<3):Go.Sx.cell w (pIdx q k 2) 0=some (.string (pn k.toNat))/\Go.Sx.cell w (pIdx q k 2) 1=some (.pointer (pAdd a k.toNat)):=by
  have hk:k=0\/k=1\/k=2:=by omega
  rcases hk with rfl|rfl|rfl
  · exact ⟨by rw [zae]; exact h 0 _ rfl,by rw [zae]; exact h 1 _ rfl⟩
  · exact ⟨by rw [zae]; exact h 2 _ rfl,by rw [zae]; exact h 3 _ rfl⟩
  · exact ⟨by rw [zae]; exact h 4 _ rfl,by rw [zae]; exact h 5 _ rfl⟩
theorem zs9 (a:Option Addr) (ha:a≠none) (w:World):FnP Tryz.prog zeB #[.pointer a] w fun v w'=>Ext w w'/\∃ q,v=.slice q 3 3/\zau w' q (zvu a)/\∀ x,q=some x->w.heap.size<=x.block:=by
  refine zs2 a w _ ⟨ha,ha,ha,ha,ha,ha,fun w0 h0=>?_⟩
  refine zcD zmp [_,_,_] rfl rfl (by intro v hv; simp at hv; rcases hv with rfl|rfl|rfl<;>rfl) (by omega) (by omega) fun w1 o1 e1=>⟨e1,_,_,_,rfl,fun w5 h5=>⟨(h0.trans e1).trans h5,_,rfl,?_,fun x hx=>?_⟩⟩
  · have o5:=((o1 0 (Nat.zero_le _)).ext h5).cells
    exact o5
  · obtain rfl:=Option.some.inj hx
    exact h0.size
abbrev zBB (w:World) (p:Option Addr) (x:Nd):Prop:=zau w p (zwl x)
theorem nd_at {w:World} {p:Option Addr} {x:Nd} (h:zBB w p x) {i:Nat} (hi:i<3):Go.Sx.cell w (pAdd p i) 0=some (.int .i64 (zcd x i)):=by
  rw [zal,Nat.add_zero]
  match i,hi with
  |0,_ => exact h 0 _ rfl
  |1,_ => exact h 1 _ rfl
  |2,_ => exact h 2 _ rfl
theorem zew (x:Nd) (w:World):FnP Tryz.prog zbg #[nv x] w fun v w'=>Ext w w'/\v=.int .i64 (zy3 x):=by
  refine zs1 x.c x.m x.g w _ fun w0 h0=>?_
  refine zbE (by simp [Value.oneCell']) fun w1 o1 e1=>fun w2 h2=>?_
  have c1:zBB w1 (some ⟨w0.heap.size,0,none⟩) x:=(o1 0 (Nat.zero_le _)).cells
  have n1:(some (⟨w0.heap.size,0,none⟩:Addr))≠none:=by simp
  generalize (some (⟨w0.heap.size,0,none⟩:Addr))=p1 at c1 n1 ⊢
  refine (zs9 p1 n1 w2).mono fun v w3 ⟨e3,q,hv,hq,_⟩=>⟨e3,q,3,3,hv,?_⟩
  have c3:=(c1.ext h2).ext e3
  have x3:=((h0.trans e1).trans h2).trans e3
  refine ⟨fun k w'=>w'=w3/\0<=k/\k<=3/\∀ i:Nat,(i:Int)<k->0<=zcd x i/\zcd x i<=1099511627776,fun k _=>(3-k).toNat,⟨rfl,by omega,by omega,fun i hi=>by omega⟩,?_⟩
  rintro k w3 ⟨rfl,hk0,hk1,hall⟩
  refine ⟨fun hlt=>?_,fun hge w10 h10=>⟨x3.trans h10,?_⟩⟩
  · obtain ⟨d1,d2⟩:=zs8 hq hk0 hlt
    have ci:=nd_at c3 (i:=k.toNat) (by omega)
    have hne:pAdd p1 k.toNat≠none:=fun h=>n1 (zdj.1 h)
    have bad:¬ (0<=zcd x k.toNat/\zcd x k.toNat<=1099511627776)->zy3 x=4:=fun h=>zmq fun ho=>h (zpw.1 ho _ (by omega))
    refine ⟨fun hq=>zak d1 (zah.2 hq),hk0,hlt,zak d1,_,d1,_,d2,fun b12 _=>⟨hne,_,ci,fun _=>hne,fun hn w14 h14=>⟨x3.trans h14,by rw [bad (by omega)]⟩,fun hp=>⟨_,ci,fun hb w15 h15=>⟨x3.trans h15,by rw [bad (by omega)]⟩,fun hl=>⟨i64 (by omega),⟨rfl,by omega,by omega,fun i hi=>?_⟩,by simp only []; omega⟩⟩⟩⟩
    by_cases hik:(i:Int)<k
    · exact hall i hik
    · obtain rfl:i=k.toNat:=by omega
      omega
  · rw [zba.2 (zpw.2 fun i hi=>hall i (by omega))]
def rng (x:Nd):Prop:=∀ i,i<3->-9223372036854775808<=zcd x i/\zcd x i<=9223372036854775807
theorem okN.rng {x:Nd} (h:okN x):rng x:=fun i hi=>by have:=zpw.1 h i hi; omega
def idx (x:Nd) (k:Nat):List Nat:=(List.range k).filter fun i=>decide (zcd x i≠0)
def zgz (x:Nd) (i:Nat):List UInt8:=(pn i).data.toList++61::Lib.itoa (zcd x i)
def pcs (x:Nd) (k:Nat):List (List UInt8):=(idx x k).map (zgz x)
def zbo (x:Nd):List UInt8:=if pcs x 3=[] then [45] else Lib.join (pcs x 3) [44]
theorem zGh (x:Nd) (k:Nat):idx x (k+1)=idx x k++if zcd x k≠0 then [k] else []:=by
  unfold idx
  rw [List.range_succ,List.filter_append]
  congr 1
  by_cases h:zcd x k=0<;>simp [h]
theorem zta (x:Nd) (k:Nat):pcs x (k+1)=pcs x k++if zcd x k≠0 then [zgz x k] else []:=by
  unfold pcs
  rw [zGh,List.map_append]
  congr 1
  split<;>rfl
theorem zpf {x:Nd} {k i:Nat} (h:i∈idx x k):i<k/\zcd x i≠0:=by
  unfold idx at h
  rw [List.mem_filter,List.mem_range] at h
  exact ⟨h.1,by simpa using h.2⟩
theorem zzA (i:Nat):(pn i).size=3:=by
  match i with
  |0 => rfl
  |1 => rfl
  |n+2 => rfl
theorem zDH {x:Nd} (hx:rng x) {i:Nat} (hi:i<3):(zgz x i).length<=25:=by
  unfold zgz
  have:=Lib.itoa_length_le (zcd x i) (hx i hi).1 (hx i hi).2
  have h3:(pn i).data.toList.length=3:=zzA i
  rw [List.length_append,List.length_cons,h3]; omega
theorem zhH {c:UInt8} {m:Nat}:∀ (L:List (List UInt8)),(∀ y∈L,y.length<=m)->(Lib.join L [c]).length<=L.length*(m+1)
  |[],_ => by simp [Lib.join_nil]
  |[x],h => by rw [Lib.join_one]; have:=h x (List.mem_cons_self ..); simp; omega
  |x::y::L,h => by
    have ih:=zhH (c:=c) (y::L) fun z hz=>h z (List.mem_cons_of_mem _ hz)
    have hx:=h x (List.mem_cons_self ..)
    have e:Lib.join (x::y::L) [c]=x++c::Lib.join (y::L) [c]:=by
      rw [Lib.join_cons,Lib.join_cons]
      simp [Lib.joinTail]
    rw [e,List.length_append,List.length_cons,List.length_cons,Nat.add_mul]
    omega
theorem zCY (x:Nd) (k:Nat):(idx x k).length<=k:=by
  unfold idx
  have:=List.length_filter_le (fun i=>decide (zcd x i≠0)) (List.range k)
  rwa [List.length_range] at this
theorem zzf {x:Nd} (hx:rng x):(Lib.join (pcs x 3) [44]).length<=78:=by
  have h1:=zhH (c:=44) (m:=25) (pcs x 3) fun y hy=>by
    obtain ⟨i,hi,rfl⟩:=List.mem_map.1 hy
    exact zDH hx (zpf hi).1
  have h2:(pcs x 3).length<=3:=by unfold pcs; rw [List.length_map]; exact zCY x 3
  omega
theorem zxm (x:Nd) (hx:rng x) (w:World) (g:GB w):FnP Tryz.prog zee #[nv x] w fun v w'=>Ext w w'/\v=.string (ofL (zbo x)):=by
  refine zvi x.c x.m x.g w _ fun w0 h0=>?_
  refine zbE (by simp [Value.oneCell']) fun w1 o1 e1=>fun w2 h2=>?_
  have c1:zBB w1 (some ⟨w0.heap.size,0,none⟩) x:=(o1 0 (Nat.zero_le _)).cells
  have n1:(some (⟨w0.heap.size,0,none⟩:Addr))≠none:=by simp
  have l1:∀ a,(some (⟨w0.heap.size,0,none⟩:Addr))=some a->a.block<w1.heap.size:=c1.lt (by simp)
  generalize (some (⟨w0.heap.size,0,none⟩:Addr))=p1 at c1 n1 l1 ⊢
  refine (zs9 p1 n1 w2).mono fun v w3 ⟨e3,q,hv,hq,hqb⟩=>⟨e3,q,3,3,hv,?_⟩
  have x3:=((h0.trans e1).trans h2).trans e3
  refine ⟨fun out outl outc k w'=>Ext w w'/\0<=k/\k<=3/\zBB w' p1 x/\zau w' q (zvu p1)/\Own w.heap.size w' zay 1 out outl outc ((pcs x k.toNat).map fun l=>Value.string (ofL l))/\zbP p1 out/\zbP q out/\(out=none↔pcs x k.toNat=[]),fun _ _ _ k _=>(3-k).toNat,
    ⟨x3,by omega,by omega,(c1.ext h2).ext e3,hq,Own.nil,zbP.nil,zbP.nil,by simp [pcs,idx]⟩,?_⟩
  rintro out outl outc k w10 ⟨x10,hk0,hk3,c10,q10,o10,a1,a2,hout⟩
  refine ⟨fun hlt=>?_,fun hge=>?_⟩
  · obtain ⟨d1,d2⟩:=zs8 q10 hk0 hlt
    have ci:=nd_at c10 (i:=k.toNat) (by omega)
    have hne:pAdd p1 k.toNat≠none:=fun h=>n1 (zdj.1 h)
    have hr:=hx k.toNat (by omega)
    have hil:=Lib.itoa_length_le (zcd x k.toNat) hr.1 hr.2
    have hlen:(pcs x k.toNat).length<=3:=by unfold pcs; rw [List.length_map]; have:=zCY x k.toNat; omega
    have hol:=o10.leni
    have hps:(pn k.toNat).size=3:=zzA _
    refine ⟨fun hq=>zak d1 (zah.2 hq),hk0,hlt,zak d1,_,d1,_,d2,fun b13 hb13=>⟨hne,_,ci,fun hnz=>?_,fun hz=>?_⟩⟩
    · refine ⟨by unfold zdk; rw [hps]; decide,hne,_,ci,fun w16 h16=>?_⟩
      refine (zoK _ hr w16 ((g.ext x10).ext h16)).mono fun v w17 ⟨e17,hv⟩=>⟨e17,_,hv,?_,?_⟩
      · unfold zdk
        rw [ByteArray.size_append,hps,zat]
        show 3+1+_<=_
        omega
      · have hpc:(pn k.toNat++(⟨#[61]⟩:ByteArray))++ofL (Lib.itoa (zcd x k.toNat))=ofL (zgz x k.toNat):=by
          rw [<- zb8 ((pn k.toNat++(⟨#[61]⟩:ByteArray))++ofL (Lib.itoa (zcd x k.toNat))),zgS,zgS]
          unfold zgz
          rw [zcl]
          simp
        rw [hpc]
        refine znK zbX (by omega) o10 x10.size (fun b hb y hy=>by simp at hb; subst hb; have:=(o10.lt y hy).2; omega) rfl (by intro u hu; simp [Value.cells] at hu; subst hu; rfl) (by omega) (by omega) (by omega) fun p' c' w' o' g' np _=>⟨i64 (by omega),⟨g'.ext x10 o10,by omega,by omega,c10.grew a1 g',q10.grew a2 g',?_,a1.grewC (c10.lt (by simp)) g',a2.grewC (q10.lt (by simp)) g',?_⟩,by simp only []; omega⟩
        · rw [show (k+1).toNat=k.toNat+1 by omega,zta,if_pos hnz,List.map_append]
          simpa [Value.cells] using o'
        · rw [show (k+1).toNat=k.toNat+1 by omega,zta,if_pos hnz]
          simp [np]
    · have hp:pcs x (k+1).toNat=pcs x k.toNat:=by
        rw [show (k+1).toNat=k.toNat+1 by omega,zta,if_neg (by simpa using hz),List.append_nil]
      exact ⟨i64 (by omega),⟨x10,by omega,by omega,c10,q10,by rw [hp]; exact o10,a1,a2,by rw [hp]; exact hout⟩,by simp only []; omega⟩
  · obtain rfl:k=3:=by omega
    have hout:out=none↔pcs x 3=[]:=hout
    have o10:Own w.heap.size w10 zay 1 out outl outc ((pcs x 3).map fun l=>Value.string (ofL l)):=o10
    refine ⟨fun hn w11 h11=>⟨x10.trans h11,?_⟩,fun hn w11 h11=>?_⟩
    · unfold zbo; rw [if_pos (hout.1 hn)]; rfl
    · have hpn:pcs x 3≠[]:=fun h=>hn (hout.2 h)
      refine (zBz (pcs x 3) 44 out outl outc w.heap.size zay w11 (o10.ext h11) hpn (by have:=zzf hx; omega)).mono fun v w12 ⟨e12,hv⟩=>⟨e12,_,hv,fun w14 h14=>⟨x10.trans h14,?_⟩⟩
      unfold zbo; rw [if_neg hpn]
theorem zDl (x:Nd) (w:World) (g:GB w):FnP Tryz.prog zhq #[nv x] w fun v w'=>Ext w w'/\∃ (t:ByteArray) (e:Int),v=.tuple #[.string t,.int .i64 e]/\(e=0↔okN x)/\(e≠0->t=⟨#[]⟩)/\(e=0->t=ofL (zbo x)):=by
  refine zvg x.c x.m x.g w _ fun b0 _ w1 h1=>(zew x w1).mono fun v w2 ⟨e2,hv⟩=>⟨e2,_,hv,fun hne w4 h4=>⟨h4,_,_,rfl,zba,fun _=>rfl,fun h=>absurd h hne⟩,fun hz w4 h4=>?_⟩
  have ok:=zba.1 hz
  exact (zxm x ok.rng w4 (g.ext h4)).mono fun v w5 ⟨e5,hv⟩=>⟨e5,_,hv,fun w7 h7=>⟨h7,_,_,rfl,⟨fun _=>ok,fun _=>rfl⟩,fun h=>absurd rfl h,fun _=>rfl⟩⟩
theorem zhy (s:ByteArray):s.data.toList.length=s.size:=by simp
theorem zeH {c:UInt8}:∀ (k:Nat) (s:ByteArray),Lib.countB s (one c)=k->(Lib.splitB (one c) 0 k s).length=k+1
  |0,s,_ => by rw [Lib.splitB_zero]; rfl
  |k+1,s,h => by
    rcases Lib.indexB_cases s (one c) with hm|⟨j,hj,hle⟩
    · rw [Lib.countB_miss _ _ hm] at h; omega
    · rw [Lib.countB_hit s (one c) j (Nat.le_refl 1) hj] at h
      rw [Lib.splitB_hit (one c) 0 k s j hj,List.length_cons,zeH k _ (by omega)]
def upN (cur:Nd) (name:ByteArray) (v:Int) (k:Nat):Nd:=⟨if 0<k/\pn 0=name then v else cur.c,if 1<k/\pn 1=name then v else cur.m,if 2<k/\pn 2=name then v else cur.g⟩
theorem zz2 (cur:Nd) (name:ByteArray) (v:Int):upN cur name v 0=cur:=by cases cur; simp [upN]
theorem zEy {cur:Nd} {name:ByteArray} {v:Int} {k:Nat} (hk:k<3) (h:pn k=name):(zwl (upN cur name v k)).set k (.int .i64 v)=zwl (upN cur name v (k+1)):=by
  match k,hk with
  |0,_ => simp [zwl,upN,h]
  |1,_ => simp [zwl,upN,h]
  |2,_ => simp [zwl,upN,h]
theorem zz1 {cur:Nd} {name:ByteArray} {v:Int} {k:Nat} (hk:k<3) (h:pn k≠name):upN cur name v (k+1)=upN cur name v k:=by
  match k,hk with
  |0,_ => simp [upN,h]
  |1,_ => simp [upN,h]
  |2,_ => simp [upN,h]
theorem zEx {cur:Nd} {name:ByteArray} {v:Int} {i:Nat} (hi:i<3):zcd (upN cur name v 3) i=if pn i=name then v else zcd cur i:=by
  match i,hi with
  |0,_ => simp [upN,zcd]
  |1,_ => simp [upN,zcd]
  |2,_ => simp [upN,zcd]
theorem pn_inj:∀ {i j:Nat},i<3->j<3->pn i=pn j->i=j:=by
  intro i j hi hj h
  match i,j,hi,hj with
  |0,0,_,_ => rfl
  |1,1,_,_ => rfl
  |2,2,_,_ => rfl
  |0,1,_,_ => exact absurd h (by decide)
  |0,2,_,_ => exact absurd h (by decide)
  |1,0,_,_ => exact absurd h (by decide)
  |1,2,_,_ => exact absurd h (by decide)
  |2,0,_,_ => exact absurd h (by decide)
  |2,1,_,_ => exact absurd h (by decide)
theorem zGK:∀ {i:Nat},i<3->(61:UInt8)∉(pn i).data.toList/\(44:UInt8)∉(pn i).data.toList:=by
  intro i hi
  match i,hi with
  |0,_ => decide
  |1,_ => decide
  |2,_ => decide
theorem zGJ {x:Nd} (hx:okN x) {i:Nat} (hi:i<3):(44:UInt8)∉zgz x i:=fun hm=>by
  have h0:=(zpw.1 hx i hi).1
  unfold zgz at hm
  rcases List.mem_append.1 hm with h|h
  · exact (zGK hi).2 h
  · rcases List.mem_cons.1 h with h|h
    · exact absurd h (by decide)
    · exact ziZ h0 (by decide) h
theorem zA6 {x:Nd} (hx:okN x) (hne:zbo x≠[45]):Lib.countB (ofL (zbo x)) (one 44)+1=(idx x 3).length/\Lib.splitB (one 44) 0 (Lib.countB (ofL (zbo x)) (one 44)) (ofL (zbo x))=(pcs x 3).map ofL:=by
  have hp:pcs x 3≠[]:=fun h=>hne (by unfold zbo; rw [if_pos h])
  have ht:zbo x=Lib.join (pcs x 3) [44]:=by unfold zbo; rw [if_neg hp]
  rw [ht]
  cases hl:pcs x 3 with
  |nil => exact absurd hl hp
  |cons a l =>
    obtain ⟨h1,h2⟩:=zdx (c:=44) l a fun y hy=>by
      rw [<- hl] at hy
      obtain ⟨i,hi,rfl⟩:=List.mem_map.1 hy
      exact zGJ hx (zpf hi).1
    have hlen:(idx x 3).length=l.length+1:=by
      have:=congrArg List.length hl
      unfold pcs at this
      rw [List.length_map] at this
      simpa using this
    rw [h1,h2]
    exact ⟨by omega,rfl⟩
def good (x cur:Nd) (k:Nat):Prop:=∀ i,i<3->zcd cur i=if i∈(idx x 3).take k then zcd x i else 0
theorem zoi {x cur:Nd} (h:good x cur (idx x 3).length):cur=x:=by
  have key:∀ i,i<3->zcd cur i=zcd x i:=fun i hi=>by
    rw [h i hi,List.take_length]
    split
    · rfl
    · rename_i hn
      by_cases h0:zcd x i=0
      · exact h0.symm
      · exact absurd (List.mem_filter.2 ⟨List.mem_range.2 hi,by simpa using h0⟩) hn
  have a:=key 0 (by omega)
  have b:=key 1 (by omega)
  have c:=key 2 (by omega)
  cases cur; cases x
  simp only [zcd] at a b c
  simp [a,b,c]
theorem zuq {x cur:Nd} {k i:Nat} (h:good x cur k) (hi:(idx x 3)[k]?=some i):good x (upN cur (pn i) (zcd x i) 3) (k+1):=by
  have hm:=zpf (List.mem_of_getElem? hi)
  intro j hj
  rw [zEx hj,List.take_add_one,hi]
  simp only [Option.toList_some,List.mem_append,List.mem_singleton]
  by_cases e:j=i
  · subst e; simp
  · rw [if_neg (fun hp=>e (pn_inj hj hm.1 hp)),h j hj]
    simp [e]
theorem zjA {x:Nd}:good x za3 0:=fun i hi=>by
  match i,hi with
  |0,_ => simp [zcd,za3]
  |1,_ => simp [zcd,za3]
  |2,_ => simp [zcd,za3]
abbrev RQ (w:World) (s:ByteArray) (v:Value) (w':World):Prop:=Ext w w'/\∃ (a:Nd) (e:Int),v=.tuple #[nv a,.int .i64 e]/\(e≠0->a=za3)/\(e=0->okN a/\s=ofL (zbo a))/\(∀ x,okN x->s=ofL (zbo x)->e=0/\a=x)
def rtail (s:ByteArray) (p2:Option Addr) (b0:Nat) (w10:World) (Q:Value->World->Prop):Prop :=
       p2≠none /\
       ∃ t11:Int,cell w10 p2 0=some (.int .i64 t11) /\
       ∃ t12:Int,cell w10 p2 1=some (.int .i64 t12) /\
       ∃ t13:Int,cell w10 p2 2=some (.int .i64 t13) /\
       ∀ w14,Ext w10 w14 ->
       FnP Tryz.prog zee #[(.agg #[(.int .i64 t11),(.int .i64 t12),(.int .i64 t13)])] w14 fun v15 w15 =>
        Ext w14 w15 /\
        ∃ t16:ByteArray,v15=(.string t16) /\
        ((t16≠s) ->
         ∀ w17,zag [b0] [] w10 w17 ->
         Q (.tuple #[(.agg #[(.int .i64 0),(.int .i64 0),(.int .i64 0)]),(.int .i64 3)]) w17) /\
        ((t16=s) ->
         p2≠none /\
         ∃ t17:Int,cell w10 p2 0=some (.int .i64 t17) /\
         ∃ t18:Int,cell w10 p2 1=some (.int .i64 t18) /\
         ∃ t19:Int,cell w10 p2 2=some (.int .i64 t19) /\
         ∀ w20,Ext w10 w20 ->
         FnP Tryz.prog zbg #[(.agg #[(.int .i64 t17),(.int .i64 t18),(.int .i64 t19)])] w20 fun v21 w21 =>
          Ext w20 w21 /\
          ∃ t22:Int,v21=(.int .i64 t22) /\
          ((t22≠0) ->
           ∀ w23,zag [b0] [] w10 w23 ->
           Q (.tuple #[(.agg #[(.int .i64 0),(.int .i64 0),(.int .i64 0)]),(.int .i64 t22)]) w23) /\
          ((t22=0) ->
           p2≠none /\
           ∃ t23:Int,cell w10 p2 0=some (.int .i64 t23) /\
           ∃ t24:Int,cell w10 p2 1=some (.int .i64 t24) /\
           ∃ t25:Int,cell w10 p2 2=some (.int .i64 t25) /\
           ∀ w26,zag [b0] [] w10 w26 ->
           Q (.tuple #[(.agg #[(.int .i64 t23),(.int .i64 t24),(.int .i64 t25)]),(.int .i64 0)]) w26))
theorem zzJ {w w10:World} {s:ByteArray} {p2:Option Addr} {b0:Nat} {cur:Nd} (x10:Ext w w10) (hb0:w.heap.size<=b0) (c10:zBB w10 p2 cur) (hp:p2≠none) (hr:rng cur) (g:GB w)
    (hgood:∀ x,okN x->s=ofL (zbo x)->cur=x):rtail s p2 b0 w10 (RQ w s):=by
  have k0:=c10 0 _ rfl
  have k1:=c10 1 _ rfl
  have k2:=c10 2 _ rfl
  have bx:∀ {w':World},zag [b0] [] w10 w'->Ext w w':=fun h=>zar h x10 (by intro d hd; simp at hd; omega)
  refine ⟨hp,_,k0,_,k1,_,k2,fun w14 h14=>(zxm cur hr w14 (g.ext (x10.trans h14))).mono fun v w15 ⟨e15,hv⟩=>⟨e15,_,hv,fun hne w17 x17=>⟨bx x17,za3,_,rfl,fun _=>rfl,fun h=>by omega,fun x hx hs=>?_⟩,fun heq=>⟨hp,_,k0,_,k1,_,k2,fun w20 h20=>(zew cur w20).mono fun v w21 ⟨e21,hv⟩=>⟨e21,_,hv,fun hne w23 x23=>⟨bx x23,za3,_,rfl,fun _=>rfl,fun h=>absurd h hne,fun x hx hs=>?_⟩,fun hz=>⟨hp,_,k0,_,k1,_,k2,fun w26 x26=>⟨bx x26,cur,0,rfl,fun h=>absurd rfl h,fun _=>⟨zba.1 hz,heq.symm⟩,fun x hx hs=>⟨rfl,hgood x hx hs⟩⟩⟩⟩⟩⟩⟩
  · exact absurd (by rw [hgood x hx hs]; exact hs.symm) hne
  · exact absurd (zba.2 (by rw [hgood x hx hs]; exact hx)) hne
theorem zDk (s:ByteArray) (hs:s.size<4294967281) (w:World) (g:GB w):FnP Tryz.prog zfo #[.string s] w (RQ w s):=by
  refine znE s w _ fun b0 hb0 w1 x1=>zbE (by simp [Value.oneCell']) fun w2 o2 e2=>?_
  have h1:=zaa x1
  have l0:=x1.lt b0 (by simp)
  have o2:=o2 w.heap.size h1.size
  have np:(some (⟨w1.heap.size,0,none⟩:Addr))≠none:=by simp
  have h2:=h1.trans e2
  have rz:rng za3:=fun i hi=>by
    match i,hi with
    |0,_ => simp [zcd,za3]
    |1,_ => simp [zcd,za3]
    |2,_ => simp [zcd,za3]
  have hpb:∀ y,(some (⟨w1.heap.size,0,none⟩:Addr))=some y->y.block≠b0:=fun y hy=>by obtain rfl:=Option.some.inj hy; show w1.heap.size≠b0; omega
  have hpl:∀ y,(some (⟨w1.heap.size,0,none⟩:Addr))=some y->y.block<w2.heap.size:=fun y hy=>(o2.lt y hy).2
  generalize hpp:(some (⟨w1.heap.size,0,none⟩:Addr))=p at o2 np hpb hpl ⊢
  refine ⟨fun hne w3 x3=>?_,fun heq=>?_⟩
  rotate_left
  · refine zzJ (cur:=za3) h2 hb0 o2.cells np rz g fun x hx hs=>?_
    have hl:zbo x=[45]:=zmE (hs.symm.trans heq)
    by_cases hp:pcs x 3=[]
    · refine zoi ?_
      have:idx x 3=[]:=by simpa [pcs] using hp
      intro i hi
      rw [this]
      exact zjA i hi
    · exfalso
      unfold zbo at hl
      rw [if_neg hp] at hl
      cases hc:pcs x 3 with
      |nil => exact hp hc
      |cons a l =>
        rw [hc,Lib.join_cons] at hl
        have ha:a∈pcs x 3:=by rw [hc]; exact List.mem_cons_self ..
        obtain ⟨i,_,rfl⟩:=List.mem_map.1 ha
        have:=congrArg List.length hl
        unfold zgz at this
        have h3:(pn i).data.toList.length=3:=zzA i
        rw [List.length_append,List.length_append,h3] at this
        simp at this
        omega
  have h3:=h2.trans (zaa x3)
  have g3:=g.ext h3
  refine (zeU 44 s hs w3 g3).mono fun v w4 ⟨e4,hv,hc4,_⟩=>⟨e4,_,_,_,hv,?_⟩
  have spn:(some (⟨w3.heap.size,0,none⟩:Addr))≠none:=by simp
  have apsp:zbP (some (⟨w3.heap.size,0,none⟩:Addr)) p:=fun a b ha hb he=>by
    obtain rfl:=Option.some.inj ha
    have h5:=hpl b hb
    have h6:=(zaa x3).size
    have h7:w3.heap.size=b.block:=he
    omega
  generalize (some (⟨w3.heap.size,0,none⟩:Addr))=sp at hc4 spn apsp ⊢
  have slen:=zeH (c:=44) _ s rfl
  have ssz:∀ i q,(Lib.splitB (one 44) 0 (Lib.countB s (one 44)) s)[i]?=some q->q.size+i<=s.size:=fun i q h=>zcx _ s i q h
  have sgood:∀ x,okN x->s=ofL (zbo x)->Lib.countB s (one 44)+1=(idx x 3).length/\Lib.splitB (one 44) 0 (Lib.countB s (one 44)) s=(pcs x 3).map ofL:=fun x hx hsx=>by
    have:=zA6 hx fun h=>hne (by rw [hsx,h]; rfl)
    rwa [<- hsx] at this
  generalize Lib.splitB (one 44) 0 (Lib.countB s (one 44)) s=S at hc4 slen ssz sgood
  generalize Lib.countB s (one 44)=n at slen sgood ⊢
  refine ⟨fun k w'=>Ext w w'/\0<=k/\k<=(n+1:Nat)/\zau w' sp (S.map Value.string)/\∃ cur,Own w.heap.size w' zii 3 p 1 1 (zwl cur)/\rng cur/\∀ x,okN x->s=ofL (zbo x)->good x cur k.toNat,fun k _=>(n+1-k).toNat,
    ⟨h3.trans e4,by omega,by omega,hc4,za3,(o2.ext (zaa x3)).ext e4,rz,fun x _ _=>zjA⟩,?_⟩
  rintro k w10 ⟨x10,hk0,hk1,c10,cur,o10,hr,hgd⟩
  refine ⟨fun hlt=>?_,fun hge=>?_⟩
  rotate_left
  · refine zzJ (cur:=cur) x10 hb0 o10.cells np hr g fun x hx hsx=>zoi ?_
    have:=hgd x hx hsx
    rwa [show k.toNat=(idx x 3).length by have:=(sgood x hx hsx).1; omega] at this
  obtain ⟨pc,hpc⟩:∃ pc,S[k.toNat]?=some pc:=⟨_,List.getElem?_eq_getElem (by omega)⟩
  have hcell:Go.Sx.cell w10 (pIdx sp k 1) 0=some (.string pc):=by
    rw [zae]
    exact c10 _ _ (by simp [hpc])
  have hpsz:=ssz _ _ hpc
  refine ⟨spn,hk0,hlt,_,hcell,fun w12 h12=>(zwp 61 pc (by omega) w12 ((g.ext x10).ext h12)).mono fun v w13 ⟨e13,hv⟩=>⟨e13,_,_,_,hv,fun w17 x17=>?_⟩⟩
  have hx17:=x10.trans (zaa x17)
  have hcsz:(Lib.cut pc.data.toList [61]).2.1.length<=pc.size:=by have:=zhB pc.data.toList 61; rwa [zhy] at this
  have hthis:∀ x,okN x->s=ofL (zbo x)->∃ i,(idx x 3)[k.toNat]?=some i/\i<3/\0<zcd x i/\ofL (Lib.cut pc.data.toList [61]).1=pn i/\Lib.parseIntB 64 (ofL (Lib.cut pc.data.toList [61]).2.1).data.toList=.ok (zcd x i):=fun x hx hsx=>by
    have hS:=(sgood x hx hsx).2
    rw [hS,List.getElem?_map] at hpc
    unfold pcs at hpc
    rw [List.getElem?_map,Option.map_map,Option.map_eq_some_iff] at hpc
    obtain ⟨i,hi,rfl⟩:=hpc
    have hm:=zpf (List.mem_of_getElem? hi)
    have hb:=zpw.1 hx i hm.1
    have hcut:Lib.cut (ofL (zgz x i)).data.toList [61]=((pn i).data.toList,Lib.itoa (zcd x i),true):=zwM _ (zGK hm.1).1
    have hcut':Lib.cut ((ofL∘zgz x) i).data.toList [61]=((pn i).data.toList,Lib.itoa (zcd x i),true):=hcut
    rw [hcut']
    exact ⟨i,hi,hm.1,by omega,zb8 _,zem hb⟩
  generalize (ofL (Lib.cut pc.data.toList [61]).1)=name at hthis ⊢
  have hnsz:(ofL (Lib.cut pc.data.toList [61]).2.1).size<=281474976710656:=by rw [zat]; omega
  generalize (ofL (Lib.cut pc.data.toList [61]).2.1)=num at hthis hnsz ⊢
  refine (zjw num hnsz w17 (g.ext hx17)).mono fun v w18 ⟨e18,vn,ev,hv,hcase⟩=>⟨e18,vn,ev,hv,fun w21 h21=>?_⟩
  have hx18:=hx17.trans e18
  refine zi2 (by kernel_rfl) (hcase.elim (fun h=>.inl h.1) fun h=>.inr h.1) fun t ht=>⟨Ext.refl _,t,rfl,fun hbad w24 x24=>⟨zar x24 hx18 (by intro d hd; simp at hd; omega),za3,3,rfl,fun _=>rfl,fun h=>by omega,fun x hx hsx=>?_⟩,fun hok w24 x24=>?_⟩
  · exfalso
    obtain ⟨i,_,_,hpos,_,hpar⟩:=hthis x hx hsx
    rcases hcase with ⟨h1,h2⟩|⟨_,h2⟩
    · rw [hpar] at h2
      injection h2 with h2
      rcases hbad with h|h
      · rw [ht.2 h1] at h; cases h
      · omega
    · exact h2 _ hpar
  have hx24:=hx18.trans (zaa x24)
  obtain ⟨hev,hpar⟩:ev=.nilIface/\Lib.parseIntB 64 num.data.toList=.ok vn:=by
    rcases hcase with h|⟨⟨a,b,h⟩,_⟩
    · exact h
    · have:=ht.1 hok.1
      rw [h] at this; cases this
  have o24:Own w.heap.size w24 zii 3 p 1 1 (zwl cur):=(((o10.ext (zaa x17)).ext e18).ext (zaa x24))
  have c24:zau w24 sp (S.map Value.string):=(((c10.ext (zaa x17)).ext e18).ext (zaa x24))
  refine (zs9 p np w24).mono fun v w25 ⟨e25,q,hv,hq,hqb⟩=>⟨e25,q,3,3,hv,?_⟩
  have apq:zbP q p:=fun a b ha hb he=>by
    have h5:=hqb a ha
    have h6:=(o24.lt b hb).2
    omega
  refine ⟨fun k30 w'=>Ext w w'/\0<=k30/\k30<=3/\zau w' sp (S.map Value.string)/\zau w' q (zvu p)/\Own w.heap.size w' zii 3 p 1 1 (zwl (upN cur name vn k30.toNat)),fun k30 _=>(3-k30).toNat,
    ⟨hx24.trans e25,by omega,by omega,c24.ext e25,hq,by rw [show (0:Int).toNat=0 from rfl,zz2]; exact o24.ext e25⟩,?_⟩
  rintro k30 w31 ⟨x31,hj0,hj3,c31,q31,o31⟩
  refine ⟨fun hjlt=>?_,fun hjge=>?_⟩
  · obtain ⟨d1,d2⟩:=zs8 q31 hj0 hjlt
    have hj:k30.toNat<3:=by omega
    refine ⟨fun hq=>zak d1 (zah.2 hq),hj0,hjlt,zak d1,_,d1,_,d2,fun b34 hb34=>⟨fun heq=>⟨fun h=>np (zdj.1 h),?_⟩,fun hne=>⟨i64 (by omega),⟨x31,by omega,by omega,c31,q31,?_⟩,by simp only []; omega⟩⟩⟩
    · refine zcp o31 (by simpa using hj) rfl (fun b hb y hy=>?_) fun w35 o35 g35=>⟨i64 (by omega),⟨g35.ext x31 o31,by omega,by omega,c31.grew apsp g35,q31.grew apq g35,?_⟩,by simp only []; omega⟩
      · simp only [List.mem_cons,List.mem_singleton,List.mem_nil_iff,or_false] at hb
        rcases hb with rfl|rfl
        · exact hpb y hy
        · have:=(o31.lt y hy).2; omega
      · rw [show (k30+1).toNat=k30.toNat+1 by omega,<- zEy hj heq]
        exact o35
    · rw [show (k30+1).toNat=k30.toNat+1 by omega,zz1 hj hne]
      exact o31
  · obtain rfl:k30=3:=by omega
    refine ⟨i64 (by omega),⟨x31,by omega,by omega,c31,upN cur name vn 3,o31,fun i hi=>?_,fun x hx hsx=>?_⟩,by simp only []; omega⟩
    · rw [zEx hi]
      split
      · have:=zvr hpar hok.2
        omega
      · exact hr i hi
    · obtain ⟨i,hi,hi3,_,hname,hp2⟩:=hthis x hx hsx
      rw [hpar] at hp2
      injection hp2 with hp2
      rw [hp2,hname,show (k+1).toNat=k.toNat+1 by omega]
      exact zuq (hgd x hx hsx) hi
def zfv (s:ByteArray):List Int:=s.data.toList.map fun b=>(b.toNat:Int)
theorem zAj (s:ByteArray):(zfv s).length=s.size:=by simp [zfv]
theorem zKq {P:Program} {src dst e:TypeId} {s:ByteArray} (hs:P.underlying src=some .string) (hd:P.underlying dst=some (.slice e)) (he:P.underlying e=some (.int .u8)) {w:World} {K:Value->World->Prop}
    (hk:∀ p c w',Ext w w'->zd9 .u8 w' p (zfv s)->K (.slice p s.size c) w'):Run P (.convert src dst (.string s)) w K:=by
  refine ⟨_,_,run_bytes_of_string w src dst e s hs hd he,hk _ _ _ ?_ fun i v hv=>?_⟩
  · exact Below.alloc (B:=w.heap.size) (a:=w) (w:=w.drew) ⟨rfl,rfl,rfl,Nat.le_refl _,fun _ _=>rfl⟩ (Nat.le_refl _) _
  · obtain ⟨hi,hv⟩:=List.getElem?_eq_some_iff.1 hv
    have hi':i<s.data.size:=by simpa [zfv] using hi
    have hc:=World.cell?_alloc_mark w.drew (bytesRow s (grownCap w s.size 0 e)) e ((bytesRow s (grownCap w s.size 0 e)).size,(bytesRow s (grownCap w s.size 0 e)).size+1) i
    rw [bytesRow_at s _ i hi'] at hc
    simp only [cell,Option.bind_some]
    have ha:(Addr.add ⟨w.heap.size,0,none⟩ i)=⟨w.drew.heap.size,i,none⟩:=by simp [Addr.add]; intro h; exact h.symm
    rw [ha,hc,<- hv]
    simp [zfv]
inductive AT where
  |mk (k:Int) (key val:ByteArray) (n:Int) (xs:List AT)
def AT.k:AT->Int|.mk k _ _ _ _=>k
def AT.key:AT->ByteArray|.mk _ key _ _ _=>key
def AT.val:AT->ByteArray|.mk _ _ val _ _=>val
def AT.n:AT->Int|.mk _ _ _ n _=>n
def AT.xs:AT->List AT|.mk _ _ _ _ xs=>xs
theorem AT.eta (t:AT):t=.mk t.k t.key t.val t.n t.xs:=by cases t; rfl
theorem AT.ind {P:AT->Prop} (h:∀ k key val n xs,(∀ x∈xs,P x)->P (.mk k key val n xs)) (t:AT):P t:=by
  refine AT.rec (motive_1:=P) (motive_2:=fun l=>∀ x∈l,P x) ?_ ?_ ?_ t
  · intro k key val n xs ih; exact h k key val n xs ih
  · intro x hx; cases hx
  · intro x l h1 h2 y hy
    rcases List.mem_cons.1 hy with rfl|hy
    · exact h1
    · exact h2 y hy
def zog (t:AT) (p:Option Addr) (c:Nat):List Value:=[.int .i64 t.k,.string t.key,.string t.val,.int .i64 t.n,.slice p t.xs.length c]
abbrev av (t:AT) (p:Option Addr) (c:Nat):Value:=.agg #[.int .i64 t.k,.string t.key,.string t.val,.int .i64 t.n,.slice p t.xs.length c]
mutual
def IsT (w:World):AT->Option Addr->Nat->Prop
  |.mk _ _ _ _ xs,p,c => xs.length<=c/\IsL w xs p 0
def IsL (w:World):List AT->Option Addr->Nat->Prop
  |[],_,_ => True
  |x::r,p,i => (∃ p' c',(∀ j u,(zog x p' c')[j]?=some u->cell w p (i*5+j)=some u)/\IsT w x p' c')/\IsL w r p (i+1)
end
theorem IsL.get {w:World}:∀ {xs:List AT} {p:Option Addr} {i:Nat},IsL w xs p i->∀ {j:Nat} {x:AT},xs[j]?=some x->∃ p' c',(∀ m u,(zog x p' c')[m]?=some u->cell w p ((i+j)*5+m)=some u)/\IsT w x p' c'
  |[],p,i,h,j,x,hx => by simp at hx
  |y::r,p,i,h,j,x,hx => by
    unfold IsL at h
    cases j with
    |zero =>
      simp at hx; subst hx
      exact h.1
    |succ j =>
      have:=IsL.get h.2 (j:=j) (x:=x) (by simpa using hx)
      rw [show i+(j+1)=i+1+j by omega]
      exact this
theorem IsL.of {w:World}:∀ {xs:List AT} {p:Option Addr} {i:Nat},(∀ (j:Nat) (x:AT),xs[j]?=some x->∃ p' c',(∀ m u,(zog x p' c')[m]?=some u->cell w p ((i+j)*5+m)=some u)/\IsT w x p' c')->IsL w xs p i
  |[],p,i,h => by unfold IsL; trivial
  |y::r,p,i,h => by
    unfold IsL
    refine ⟨h 0 y rfl,IsL.of fun j x hx=>?_⟩
    have:=h (j+1) x (by simpa using hx)
    rw [show i+(j+1)=i+1+j by omega] at this
    exact this
theorem IsT.ext {w w':World} (he:Ext w w'):∀ (t:AT) (p:Option Addr) (c:Nat),IsT w t p c->IsT w' t p c:=by
  intro t
  induction t using AT.ind with
  |h k key val n xs ih =>
    intro p c h
    unfold IsT at h ⊢
    refine ⟨h.1,IsL.of fun j x hx=>?_⟩
    obtain ⟨p',c',h1,h2⟩:=h.2.get hx
    exact ⟨p',c',fun m u hu=>zaJ he (h1 m u hu),ih x (List.mem_of_getElem? hx) p' c' h2⟩
theorem IsT.at {w:World} {t:AT} {p:Option Addr} {c:Nat} (h:IsT w t p c) {k:Int} (h0:0<=k) (hk:k<t.xs.length) :
    ∃ x p' c',t.xs[k.toNat]?=some x/\x∈t.xs/\IsT w x p' c'/\p≠none/\pIdx p k 5≠none/\cell w (pIdx p k 5) 0=some (.int .i64 x.k)/\cell w (pIdx p k 5) 1=some (.string x.key)/\cell w (pIdx p k 5) 2=some (.string x.val) /\
      cell w (pIdx p k 5) 3=some (.int .i64 x.n)/\cell w (pIdx p k 5) 4=some (.slice p' x.xs.length c'):=by
  cases t with
  |mk kk key val n xs =>
    unfold IsT at h
    have hk:k<xs.length:=hk
    obtain ⟨x,hx⟩:∃ x,xs[k.toNat]?=some x:=⟨_,List.getElem?_eq_getElem (by omega)⟩
    obtain ⟨p',c',h1,h2⟩:=h.2.get hx
    simp only [Nat.zero_add] at h1
    have g:∀ (m:Nat) u,(zog x p' c')[m]?=some u->cell w (pIdx p k 5) m=some u:=fun m u hu=>by rw [zae]; exact h1 m u hu
    have g0:=g 0 _ rfl
    exact ⟨x,p',c',hx,List.mem_of_getElem? hx,h2,fun hq=>zak g0 (zah.2 hq),zak g0,g0,g 1 _ rfl,g 2 _ rfl,g 3 _ rfl,g 4 _ rfl⟩
mutual
def WfA:AT->Prop
  |.mk k key val n xs => InR .i64 k/\key.size<=9223372036854775807/\val.size<=9223372036854775807/\InR .i64 n/\xs.length<=9223372036854775807/\WfL xs
def WfL:List AT->Prop
  |[] => True
  |x::r => WfA x/\WfL r
end
theorem WfL.mem:∀ {l:List AT},WfL l->∀ x∈l,WfA x
  |[],_,x,hx => by cases hx
  |y::r,h,x,hx => by
    unfold WfL at h
    rcases List.mem_cons.1 hx with rfl|hx
    · exact h.1
    · exact WfL.mem h.2 x hx
theorem WfL.of:∀ {l:List AT},(∀ x∈l,WfA x)->WfL l
  |[],_ => by unfold WfL; trivial
  |y::r,h => by unfold WfL; exact ⟨h y (List.mem_cons_self ..),WfL.of fun x hx => h x (List.mem_cons_of_mem _ hx)⟩
theorem WfA.len {t:AT} (h:WfA t):t.xs.length<=9223372036854775807:=by cases t; unfold WfA at h; exact h.2.2.2.2.1
theorem WfA.sub {t:AT} (h:WfA t):∀ x∈t.xs,WfA x:=by cases t; unfold WfA at h; exact h.2.2.2.2.2.mem
theorem zFn {w:World}:∀ (n:Nat) (cs:List Value),Go.Sx.Good Tryz.prog w n zdB cs->∃ t p c,cs=zog t p c/\IsT w t p c/\WfA t:=by
  intro n
  induction n using Nat.strongRecOn with
  |_ n ih =>
  intro cs hg
  have hlv:=zcL (P:=Tryz.prog) 6 zdB [zfr,zay,zay,zdd,zcj] n cs (by kernel_rfl) hg
  obtain ⟨v0,r0,rfl,l0,hlv⟩:=zai hlv
  obtain ⟨v1,r1,rfl,l1,hlv⟩:=zai hlv
  obtain ⟨v2,r2,rfl,l2,hlv⟩:=zai hlv
  obtain ⟨v3,r3,rfl,l3,hlv⟩:=zai hlv
  obtain ⟨v4,r4,rfl,l4,hlv⟩:=zai hlv
  obtain rfl:=zhI hlv
  obtain ⟨k,rfl,hk⟩:=zaK (k:=.i64) (by kernel_rfl) l0
  obtain ⟨key,rfl,hkey⟩:=zc0 (by kernel_rfl) l1
  obtain ⟨val,rfl,hval⟩:=zc0 (by kernel_rfl) l2
  obtain ⟨m,rfl,hm⟩:=zaK (k:=.i64) (by kernel_rfl) l3
  have hsl:∃ n',n'<n/\Go.Sx.Good Tryz.prog w n' zcj [v4]:=by
    cases n with
    |zero => exact hg.elim
    |succ n =>
      unfold Go.Sx.Good at hg
      have hu:Tryz.prog.underlying zdB=some (.struct (Tryz.prog.fieldsOf zdB)):=by kernel_rfl
      rw [hu] at hg
      have hf:((Tryz.prog.fieldsOf zdB)[4]?).map (fun f=>(f.type,f.offset))=some (zcj,4):=by kernel_rfl
      obtain ⟨f,hf1,hf2⟩:=Option.map_eq_some_iff.1 hf
      simp only [Prod.mk.injEq] at hf2
      have:=hg.2 f (by have:=Array.mem_of_getElem? hf1; simpa using this)
      rw [hf2.1,hf2.2] at this
      exact ⟨n,by omega,by simpa [show Tryz.prog.cellsOf zcj=1 by kernel_rfl] using this⟩
  obtain ⟨n1,hn1,hsl⟩:=hsl
  have hin:∃ p l c,v4=.slice p l c/\l<=c/\c<=9223372036854775807/\(p=none->c=0)/\∀ a,p=some a->∀ i,i<c->∃ n2 es,n2<n/\w.cells? 0 (a.add (i*5)) 5=some es/\Go.Sx.Good Tryz.prog w n2 zdB es:=by
    cases n1 with
    |zero => exact hsl.elim
    |succ n1 =>
      unfold Go.Sx.Good at hsl
      have hu:Tryz.prog.underlying zcj=some (.slice zdB):=by kernel_rfl
      have hc5:Tryz.prog.cellsOf zdB=5:=by kernel_rfl
      rw [hu] at hsl
      simp only [hc5] at hsl
      rcases hsl with h|⟨a,len,cap,h,h1,h2,h3⟩
      · simp only [List.cons.injEq,and_true] at h
        exact ⟨none,0,0,h,Nat.le_refl _,by omega,fun _=>rfl,fun a ha=>by cases ha⟩
      · simp only [List.cons.injEq,and_true] at h
        refine ⟨some a,len,cap,h,h1,h2,fun ha=>(by cases ha),fun b hb i hi=>?_⟩
        obtain rfl:=Option.some.inj hb
        obtain ⟨es,h4,h5⟩:=h3 i hi
        exact ⟨n1,es,by omega,h4,h5⟩
  obtain ⟨p,l,c,rfl,hlc,hcm,hpn,hel⟩:=hin
  have hxs:∀ (d i:Nat),i+d=l->∃ xs:List AT,xs.length=d/\(∀ x∈xs,WfA x)/\IsL w xs p i:=by
    intro d
    induction d with
    |zero => exact fun i _ => ⟨[],rfl,fun x hx => (by cases hx),by unfold IsL; trivial⟩
    |succ d ihd =>
      intro i hi
      obtain ⟨xs,h1,h2,h3⟩:=ihd (i+1) (by omega)
      cases p with
      |none => have:=hpn rfl; omega
      |some a =>
        obtain ⟨n2,es,h4,h5,h6⟩:=hel a rfl i (by omega)
        obtain ⟨x,p',c',rfl,h7,h8⟩:=ih n2 h4 es h6
        refine ⟨x::xs,by simp [h1],fun y hy=>?_,?_⟩
        · rcases List.mem_cons.1 hy with rfl|hy
          · exact h8
          · exact h2 y hy
        · unfold IsL
          refine ⟨⟨p',c',fun j u hu=>?_,h7⟩,h3⟩
          have:=(cells?_some h5).2 j u hu
          simp only [cell,Option.bind_some] at this ⊢
          rw [<- zfs]; exact this
  obtain ⟨xs,h1,h2,h3⟩:=hxs l 0 (by omega)
  subst h1
  exact ⟨.mk k key val m xs,p,c,rfl,by unfold IsT; exact ⟨hlc,h3⟩,by unfold WfA; exact ⟨hk,hkey,hval,hm,by omega,WfL.of h2⟩⟩
theorem zIU {W:World} {p:Option Addr} {l c:Nat} (h:zaA Tryz.prog W zdB p l c) {k:Int} (hk:InR .i64 k) {key val:ByteArray} (hkey:key.size<=9223372036854775807) (hval:val.size<=9223372036854775807) {n:Int} (hn:InR .i64 n) :
    ∃ t:AT,t.k=k/\t.key=key/\t.val=val/\t.n=n/\t.xs.length=l/\IsT W t p c/\WfA t:=by
  have hc5:Tryz.prog.cellsOf zdB=5:=by kernel_rfl
  have hxs:∀ (d i:Nat),i+d=l->∃ xs:List AT,xs.length=d/\(∀ x∈xs,WfA x)/\IsL W xs p i:=by
    intro d
    induction d with
    |zero => exact fun i _ => ⟨[],rfl,fun x hx => (by cases hx),by unfold IsL; trivial⟩
    |succ d ihd =>
      intro i hi
      obtain ⟨xs,h1,h2,h3⟩:=ihd (i+1) (by omega)
      have hle:=h.le
      cases p with
      |none => have:=h.nil rfl; omega
      |some a =>
        obtain ⟨n2,es,h5,h6⟩:=h.el a rfl i (by omega)
        rw [hc5] at h5
        obtain ⟨x,p',c',rfl,h7,h8⟩:=zFn n2 es h6
        refine ⟨x::xs,by simp [h1],fun y hy=>?_,?_⟩
        · rcases List.mem_cons.1 hy with rfl|hy
          · exact h8
          · exact h2 y hy
        · unfold IsL
          refine ⟨⟨p',c',fun j u hu=>?_,h7⟩,h3⟩
          have:=(cells?_some h5).2 j u hu
          simp only [cell,Option.bind_some] at this ⊢
          rw [<- zfs]; exact this
  obtain ⟨xs,h1,h2,h3⟩:=hxs l 0 (by omega)
  have:=h.le
  have:=h.max
  subst h1
  exact ⟨.mk k key val n xs,rfl,rfl,rfl,rfl,rfl,by unfold IsT; exact ⟨h.le,h3⟩,by unfold WfA; exact ⟨hk,hkey,hval,hn,by omega,WfL.of h2⟩⟩
def okC (b:Int):Bool:=(decide (97<=b)&&decide (b<=122))||(decide (48<=b)&&decide (b<=57))||decide (b=45)
def lbB (s:ByteArray):Bool:=decide (0<s.size)&&decide (s.size<=20)&&decide (97<=sAt s 0)&&decide (sAt s 0<=122)&&(zfv s).all okC
def zBm:ByteArray:=⟨#[99,112,117]⟩
def memS:ByteArray:=⟨#[109,101,109]⟩
def gpuS:ByteArray:=⟨#[103,112,117]⟩
def unB (s:ByteArray):Bool:=decide (s=zBm)||decide (s=memS)||decide (s=gpuS)
def emS:ByteArray:=⟨#[]⟩
def zfP (k:Int):Nat:=if k=5\/k=6 then 2 else if k=4 then 1 else 0
def zkZ (k:Int) (key val:ByteArray) (n:Int) (l:Nat):Int :=
  if k<1\/6<k then 1 else if l≠zfP k then 1
  else if (4<=k/\key≠emS)\/(k≠2/\val≠emS)\/(k≠3/\n≠0) then 1
  else if (k=3/\unB key=false)\/((k=1\/k=2)/\lbB key=false)\/(k=2/\lbB val=false) then 3
  else if n<0\/1099511627776<n then 4 else 0
mutual
def zeL:AT->Int
  |.mk k key val n xs => if zkZ k key val n xs.length≠0 then zkZ k key val n xs.length else zAu xs
def zAu:List AT->Int
  |[] => 0
  |x::r => if zeL x≠0 then zeL x else zAu r
end
mutual
def zI2:AT->Int
  |.mk _ _ _ _ xs => zES xs 1
def zES:List AT->Int->Int
  |[],n => n
  |x::r,n => zES r (IntKind.wrap .i64 (n+zI2 x))
end
def zle (t:AT):Int:=if 60<zI2 t then 2 else zeL t
theorem zo2:∀ {l:List AT},zAu l=0↔∀ x∈l,zeL x=0
  |[] => by unfold zAu; simp
  |y::r => by
    unfold zAu
    have:=zo2 (l:=r)
    by_cases h:zeL y=0
    · simp [h,this]
    · simp [h]
theorem zrx:∀ {l:List AT} {k:Nat} {x:AT},l[k]?=some x->(∀ j y,j<k->l[j]?=some y->zeL y=0)->zeL x≠0->zAu l=zeL x
  |[],k,x,h,_,_ => by simp at h
  |y::r,0,x,h,_,hx => by simp at h; subst h; unfold zAu; rw [if_pos hx]
  |y::r,k+1,x,h,hb,hx => by
    unfold zAu
    rw [if_neg (by simp [hb 0 y (by omega) rfl])]
    exact zrx (by simpa using h) (fun j z hj hz=>hb (j+1) z (by omega) (by simpa using hz)) hx
mutual
def zwn (at_:AT->Bool):AT->Bool
  |.mk k key val n xs => if k=4 then !(zHn at_ xs).getD 0 false else if k=5 then (zHn at_ xs).getD 0 false&&(zHn at_ xs).getD 1 false else if k=6 then (zHn at_ xs).getD 0 false||(zHn at_ xs).getD 1 false else at_ (.mk k key val n xs)
def zHn (at_:AT->Bool):List AT->List Bool
  |[] => []
  |x::r => zwn at_ x::zHn at_ r
end
theorem zHo (at_:AT->Bool) (l:List AT):zHn at_ l=l.map (zwn at_):=by
  induction l with
  |nil => unfold zHn; rfl
  |cons x r ih => unfold zHn; rw [ih]; rfl
theorem zgU {t:AT} (h:zeL t=0):zkZ t.k t.key t.val t.n t.xs.length=0/\∀ x∈t.xs,zeL x=0:=by
  cases t with
  |mk k key val n xs =>
    unfold zeL at h
    split at h
    · rename_i h1; exact absurd h h1
    · rename_i h1
      exact ⟨Classical.not_not.1 h1,zo2.1 h⟩
theorem zsq {k:Int} {key val:ByteArray} {n:Int} {l:Nat} (h:zkZ k key val n l=0):l=zfP k:=by
  unfold zkZ at h
  split at h
  · omega
  · split at h
    · omega
    · rename_i h2; exact Classical.not_not.1 h2
theorem zgl (s:ByteArray) (hs:s.size<=9223372036854775807) (w:World):FnP Tryz.prog zbm #[.string s] w fun v w'=>Ext w w'/\v=.bool (lbB s):=by
  have hem:s≠emS↔0<s.size:=by
    constructor
    · intro h
      refine Nat.pos_of_ne_zero fun h0=>h ?_
      have h1:s.data.size=0:=h0
      have h2:s=ByteArray.empty:=by simpa using h1
      rw [h2]; rfl
    · rintro h rfl
      simp [emS] at h; exact absurd h (by decide)
  refine zu3 s w _ ⟨fun _=>by omega,fun h=>?_,fun _=>by omega,fun h=>?_,fun h w0 h0=>⟨h0,?_⟩,fun h w0 h0=>?_⟩
  · have:=hem.1 h.1; omega
  · have:=hem.1 h.1.1; omega
  · congr 1
    symm
    unfold lbB
    rcases h with ((h|h)|h)|h
    · have:¬ 0<s.size:=fun hp=>(hem.2 hp) h
      simp [this]
    · have:¬ s.size<=20:=by omega
      simp [this]
    · have:¬ 97<=sAt s 0:=by omega
      simp [this]
    · have:¬ sAt s 0<=122:=by omega
      simp [this]
  · obtain ⟨⟨⟨h1,h2⟩,h3⟩,h4⟩:=h
    have hp:=hem.1 h1
    refine zKq (e:=zaQ) (by kernel_rfl) (by kernel_rfl) (by kernel_rfl) fun p c w1 e1 hb=>⟨e1,p,s.size,c,rfl,?_⟩
    have hlen:=zAj s
    refine ⟨fun k w'=>w'=w1/\0<=k/\k<=s.size/\∀ i:Nat,(i:Int)<k->okC ((zfv s).getD i 0)=true,fun k _=>(s.size-k).toNat,⟨rfl,by omega,by omega,fun i hi=>by omega⟩,?_⟩
    rintro k w1 ⟨rfl,hk0,hk1,hall⟩
    refine ⟨fun hlt=>?_,fun hge w8 h8=>⟨(h0.trans e1).trans h8,?_⟩⟩
    · have g:=zd9.idx hb hk0 (by omega)
      refine ⟨fun hq=>zak g (zah.2 hq),hk0,hlt,_,g,fun hbad w9 h9=>⟨(h0.trans e1).trans h9,?_⟩,fun hok=>⟨i64 (by omega),⟨rfl,by omega,by omega,fun i hi=>?_⟩,by simp only []; omega⟩⟩
      · congr 1
        symm
        have hno:okC ((zfv s).getD k.toNat 0)=false:=by
          unfold okC
          generalize (zfv s).getD k.toNat 0=b at hbad
          simp; omega
        have:(zfv s).all okC=false:=by
          rw [List.all_eq_false]
          exact ⟨_,zan (zfv s) 0 (i:=k.toNat) (by omega),by rw [hno]; simp⟩
        unfold lbB
        simp [this]
      · by_cases hik:(i:Int)<k
        · exact hall i hik
        · obtain rfl:i=k.toNat:=by omega
          unfold okC
          generalize (zfv s).getD k.toNat 0=b at hok
          simp; omega
    · congr 1
      symm
      have:(zfv s).all okC=true:=by
        rw [List.all_eq_true]
        intro x hx
        obtain ⟨i,hi,rfl⟩:=List.getElem_of_mem hx
        have:=hall i (by omega)
        simpa [List.getD_eq_getElem?_getD,hi] using this
      unfold lbB
      simp only [this,Bool.and_true,Bool.and_eq_true,decide_eq_true_eq]
      exact ⟨⟨⟨hp,by omega⟩,h3⟩,h4⟩
theorem zI5:∀ (t:AT) (p:Option Addr) (c:Nat) (w:World),IsT w t p c->WfA t->FnP Tryz.prog zhg #[av t p c] w fun v w'=>Ext w w'/\v=.int .i64 (zI2 t):=by
  intro t
  induction t using AT.ind with
  |h k key val n xs ih =>
    intro p c w hT hW
    have hlen:=hW.len
    refine zu5 k key val n p xs.length c w _ fun b0 _=>?_
    refine ⟨fun m k2 w'=>w'=w/\0<=k2/\k2<=xs.length/\zES (xs.drop k2.toNat) m=zES xs 1,fun _ k2 _=>(xs.length-k2).toNat,⟨rfl,by omega,by omega,rfl⟩,?_⟩
    rintro m k2 w ⟨rfl,hk0,hk1,hc⟩
    refine ⟨fun hlt=>?_,fun hge w5 h5=>⟨h5,?_⟩⟩
    · obtain ⟨x,p',c',hx,hmem,hIx,hp,hp5,g0,g1,g2,g3,g4⟩:=hT.at hk0 (by exact hlt)
      have hx:xs[k2.toNat]?=some x:=hx
      refine ⟨hp,hk0,hlt,hp5,_,g0,_,g1,_,g2,_,g3,_,_,_,g4,fun b12 _ w13 h13=>?_⟩
      refine (ih x hmem p' c' w13 (hIx.ext h13 _ _ _) (hW.sub x hmem)).mono fun v w14 ⟨e14,hv⟩=>⟨e14,_,hv,i64 (by have hlen:xs.length<=9223372036854775807:=hlen; omega),⟨rfl,by omega,by omega,?_⟩,by simp only []; omega⟩
      rw [<- hc,show (k2+1).toNat=k2.toNat+1 by omega]
      obtain ⟨hi,he⟩:=List.getElem?_eq_some_iff.1 hx
      rw [List.drop_eq_getElem_cons hi,he]
      show _=zES (x::xs.drop (k2.toNat+1)) m
      rw [zES]
    · have hd:xs.drop k2.toNat=[]:=List.drop_of_length_le (by omega)
      rw [hd] at hc
      unfold zI2
      rw [<- hc,zES]
theorem unit_k (s:ByteArray) (w:World):FnP Tryz.prog zma #[.string s] w fun v w'=>Ext w w'/\v=.bool (unB s) :=
  zxt s w _ fun w0 h0=>⟨h0,rfl⟩
theorem zI1:∀ (t:AT) (p:Option Addr) (c:Nat) (w:World),IsT w t p c->WfA t->FnP Tryz.prog zhf #[av t p c] w fun v w'=>Ext w w'/\v=.int .i64 (zeL t):=by
  intro t
  induction t using AT.ind with
  |h k key val n xs ih =>
    intro p c w hT hW
    have hlen:xs.length<=9223372036854775807:=hW.len
    have hWn:=hW
    unfold WfA at hWn
    obtain ⟨hk,hkey,hval,hn,_,_⟩:=hWn
    have E:zeL (.mk k key val n xs)=if zkZ k key val n xs.length≠0 then zkZ k key val n xs.length else zAu xs:=by rw [zeL]
    rw [E]
    have bad:∀ e:Int,zkZ k key val n xs.length=e->e≠0->∀ w1,Ext w w1->Ext w w1/\Value.int .i64 e=.int .i64 (if zkZ k key val n xs.length≠0 then zkZ k key val n xs.length else zAu xs):=fun e he hne w1 h1=>⟨h1,by rw [he,if_pos hne]⟩
    refine zu4 k key val n p xs.length c w _ fun b0 _=>⟨fun hb w1 h1=>bad 1 (by unfold zkZ; rw [if_pos hb]) (by omega) w1 h1,fun hg=>?_⟩
    have hr:¬ (k<1\/6<k):=by omega
    refine ⟨fun i b w'=>w'=w/\i=zfP k/\(b=true↔k<4),?_,?_⟩
    · have h5:k=5->(w=w/\((0:Int)+1)+1=zfP k/\(false=true↔k<4)):=fun h=>⟨rfl,by unfold zfP; rw [if_pos (.inl h)]; rfl,by simp; omega⟩
      have h6:k=6->(w=w/\((0:Int)+1)+1=zfP k/\(false=true↔k<4)):=fun h=>⟨rfl,by unfold zfP; rw [if_pos (.inr h)]; rfl,by simp; omega⟩
      have h4:k=4->(w=w/\(0:Int)+1=zfP k/\(false=true↔k<4)):=fun h=>⟨rfl,by unfold zfP; rw [if_neg (by omega),if_pos h]; rfl,by simp; omega⟩
      have h0:k≠4->k≠5->k≠6->(w=w/\(0:Int)=zfP k/\(true=true↔k<4)):=fun h4 h5 h6=>⟨rfl,by unfold zfP; rw [if_neg (by omega),if_neg h4]; rfl,by simp; omega⟩
      exact ⟨fun h=>⟨fun _=>⟨i64 (by omega),i64 (by omega),h5 h⟩,fun hn=>absurd h hn⟩,fun hn5=>⟨fun h=>⟨i64 (by omega),i64 (by omega),h6 h⟩,fun hn6=>⟨fun h=>⟨i64 (by omega),h4 h⟩,fun hn4=>h0 hn4 hn5 hn6⟩⟩⟩
    rintro i b w ⟨rfl,rfl,hb⟩
    refine ⟨fun hbd w5 h5=>bad 1 ?_ (by omega) w5 h5,fun hok=>?_⟩
    · unfold zkZ
      rw [if_neg hr]
      by_cases hl:xs.length=zfP k
      · rw [if_neg (by simpa using hl),if_pos]
        rcases hbd with ((h|⟨h,h'⟩)|⟨h,h'⟩)|⟨h,h'⟩
        · omega
        · left
          refine ⟨?_,h'⟩
          cases b
          · simp at hb; exact hb
          · cases h
        · right; left; exact ⟨h,h'⟩
        · right; right; exact ⟨h,h'⟩
      · rw [if_pos hl]
    · obtain ⟨⟨⟨hl,hke⟩,hva⟩,hnn⟩:=hok
      have hl':xs.length=zfP k:=by omega
      have h2:¬ xs.length≠zfP k:=by simpa using hl'
      have h3:¬ ((4<=k/\key≠emS)\/(k≠2/\val≠emS)\/(k≠3/\n≠0)):=by
        rintro (⟨h,h'⟩|⟨h,h'⟩|⟨h,h'⟩)
        · rcases hke with hk'|hk'
          · have:=hb.1 hk'; omega
          · exact h' hk'
        · rcases hva with hv'|hv'
          · exact h hv'
          · exact h' hv'
        · rcases hnn with hn'|hn'
          · exact h hn'
          · exact h' hn'
      have e3:((k=3/\unB key=false)\/((k=1\/k=2)/\lbB key=false)\/(k=2/\lbB val=false))->zkZ k key val n xs.length=3:=fun h=>by
        unfold zkZ; rw [if_neg hr,if_neg h2,if_neg h3,if_pos h]
      have e4:¬ ((k=3/\unB key=false)\/((k=1\/k=2)/\lbB key=false)\/(k=2/\lbB val=false))->(n<0\/1099511627776<n)->zkZ k key val n xs.length=4:=fun h h'=>by
        unfold zkZ; rw [if_neg hr,if_neg h2,if_neg h3,if_neg h,if_pos h']
      have e0:¬ ((k=3/\unB key=false)\/((k=1\/k=2)/\lbB key=false)\/(k=2/\lbB val=false))->¬ (n<0\/1099511627776<n)->zkZ k key val n xs.length=0:=fun h h'=>by
        unfold zkZ; rw [if_neg hr,if_neg h2,if_neg h3,if_neg h,if_neg h']
      refine ⟨fun w'=>w'=w/\zkZ k key val n xs.length=0,?_,?_⟩
      · refine ⟨fun hk3 w7 h7=>?_,fun hk3=>⟨fun hk12 w7 h7=>?_,fun hk12=>⟨fun h2=>by omega,fun hk2=>⟨fun hb4 w7 h7=>bad 4 (e4 ?_ hb4) (by omega) w7 h7,fun hg4=>⟨rfl,e0 ?_ (by omega)⟩⟩⟩⟩⟩
        · refine (unit_k key w7).mono fun v w8 ⟨e8,hv⟩=>⟨e8,_,hv,fun hf=>⟨fun _ w10 h10=>bad 3 (e3 (.inl ⟨hk3,hf⟩)) (by omega) w10 h10,fun ht=>by rw [hf] at ht; cases ht⟩,fun ht=>⟨fun hk12=>by omega,fun _=>⟨fun h2=>by omega,fun hk2=>⟨fun hb4 w10 h10=>bad 4 (e4 ?_ hb4) (by omega) w10 h10,fun hg4=>⟨rfl,e0 ?_ (by omega)⟩⟩⟩⟩⟩
          all_goals
            rintro (⟨_,h⟩|⟨h,_⟩|⟨h,_⟩)
            · rw [ht] at h; cases h
            · omega
            · omega
        · refine (zgl key hkey w7).mono fun v w8 ⟨e8,hv⟩=>⟨e8,_,hv,fun hf=>⟨fun _ w10 h10=>bad 3 (e3 (.inr (.inl ⟨hk12,hf⟩))) (by omega) w10 h10,fun ht=>by rw [hf] at ht; cases ht⟩,fun ht=>⟨fun hk2 w10 h10=>?_,fun hk2=>⟨fun hb4 w10 h10=>bad 4 (e4 ?_ hb4) (by omega) w10 h10,fun hg4=>⟨rfl,e0 ?_ (by omega)⟩⟩⟩⟩
          · refine (zgl val hval w10).mono fun v w11 ⟨e11,hv⟩=>⟨e11,_,hv,fun hf=>fun w13 h13=>bad 3 (e3 (.inr (.inr ⟨hk2,hf⟩))) (by omega) w13 h13,fun ht2=>⟨fun hb4 w13 h13=>bad 4 (e4 ?_ hb4) (by omega) w13 h13,fun hg4=>⟨rfl,e0 ?_ (by omega)⟩⟩⟩
            all_goals
              rintro (⟨h,_⟩|⟨_,h⟩|⟨_,h⟩)
              · omega
              · rw [ht] at h; cases h
              · rw [ht2] at h; cases h
          all_goals
            rintro (⟨h,_⟩|⟨_,h⟩|⟨h,_⟩)
            · omega
            · rw [ht] at h; cases h
            · omega
        all_goals
          rintro (⟨h,_⟩|⟨h,_⟩|⟨h,_⟩)
          · omega
          · omega
          · omega
      · rintro w ⟨rfl,herr⟩
        rw [herr,if_neg (by omega)]
        refine ⟨fun k2 w'=>w'=w/\0<=k2/\k2<=xs.length/\∀ (j:Nat) (y:AT),(j:Int)<k2->xs[j]?=some y->zeL y=0,fun k2 _=>(xs.length-k2).toNat,⟨rfl,by omega,by omega,fun j y hj=>by omega⟩,?_⟩
        rintro k2 w ⟨rfl,hk0,hk1,hall⟩
        refine ⟨fun hlt=>?_,fun hge w10 h10=>⟨h10,?_⟩⟩
        · obtain ⟨x,p',c',hx,hmem,hIx,hp,hp5,g0,g1,g2,g3,g4⟩:=hT.at hk0 (by exact hlt)
          have hx:xs[k2.toNat]?=some x:=hx
          refine ⟨hp,hk0,hlt,hp5,_,g0,_,g1,_,g2,_,g3,_,_,_,g4,fun b17 _ w18 h18=>?_⟩
          refine (ih x hmem p' c' w18 (hIx.ext h18 _ _ _) (hW.sub x hmem)).mono fun v w19 ⟨e19,hv⟩=>⟨e19,_,hv,fun hne w21 h21=>⟨h21,?_⟩,fun he=>⟨i64 (by omega),⟨rfl,by omega,by omega,fun j y hj hy=>?_⟩,by simp only []; omega⟩⟩
          · rw [zrx hx (fun j y hj hy=>hall j y (by omega) hy) hne]
          · by_cases hjk:(j:Int)<k2
            · exact hall j y hjk hy
            · obtain rfl:j=k2.toNat:=by omega
              rw [hx] at hy; obtain rfl:=Option.some.inj hy
              exact he
        · rw [zo2.2 fun x hx=>?_]
          obtain ⟨j,hj,rfl⟩:=List.getElem_of_mem hx
          exact hall j _ (by omega) (List.getElem?_eq_getElem hj)
theorem zoG (t:AT) (p:Option Addr) (c:Nat) (w:World) (hT:IsT w t p c) (hW:WfA t):FnP Tryz.prog zeb #[av t p c] w fun v w'=>Ext w w'/\v=.int .i64 (zle t):=by
  refine zu1 t.k t.key t.val t.n p t.xs.length c w _ fun b0 _ w1 h1=>?_
  refine (zI5 t p c w1 (hT.ext h1 _ _ _) hW).mono fun v w2 ⟨e2,hv⟩=>⟨e2,_,hv,fun hgt w4 h4=>⟨h4,?_⟩,fun hle w4 h4=>?_⟩
  · unfold zle; rw [if_pos hgt]
  · refine (zI1 t p c w4 (hT.ext h4 _ _ _) hW).mono fun v w5 ⟨e5,hv⟩=>⟨e5,_,hv,fun w7 h7=>⟨h7,?_⟩⟩
    unfold zle; rw [if_neg (by omega)]
theorem zKF {w0:World} {f:Value} {at_:AT->Bool} (hf:∀ (y:AT) (p:Option Addr) (c:Nat) (w:World),Ext w0 w->IsT w y p c->zeL y=0->y.k<4->zih Tryz.prog f [av y p c] w fun v w'=>Ext w w'/\v=.bool (at_ y)) :
    ∀ (t:AT) (p:Option Addr) (c:Nat) (w:World),Ext w0 w->IsT w t p c->zeL t=0->FnP Tryz.prog zcf #[av t p c,f] w fun v w'=>Ext w w'/\v=.bool (zwn at_ t):=by
  intro t
  induction t using AT.ind with
  |h k key val n xs ih =>
    intro p c w hx0 hT he
    obtain ⟨h1,hsub⟩:=zgU he
    have hlen:xs.length=zfP k:=zsq h1
    have hin:¬ (k<1\/6<k):=fun hb=>by
      have h1:zkZ k key val n xs.length=0:=h1
      unfold zkZ at h1; rw [if_pos hb] at h1; omega
    have V:zwn at_ (.mk k key val n xs)=if k=4 then !(xs.map (zwn at_)).getD 0 false else if k=5 then (xs.map (zwn at_)).getD 0 false&&(xs.map (zwn at_)).getD 1 false else if k=6 then (xs.map (zwn at_)).getD 0 false||(xs.map (zwn at_)).getD 1 false else at_ (.mk k key val n xs):=by
      rw [zwn,zHo]
    rw [V]
    have sub:∀ (i:Int),0<=i->i<xs.length->∃ x p' c',(xs.map (zwn at_)).getD i.toNat false=zwn at_ x/\p≠none/\pIdx p i 5≠none/\Go.Sx.cell w (pIdx p i 5) 0=some (.int .i64 x.k)/\Go.Sx.cell w (pIdx p i 5) 1=some (.string x.key)/\Go.Sx.cell w (pIdx p i 5) 2=some (.string x.val) /\
        Go.Sx.cell w (pIdx p i 5) 3=some (.int .i64 x.n)/\Go.Sx.cell w (pIdx p i 5) 4=some (.slice p' x.xs.length c')/\∀ w',Ext w w'->FnP Tryz.prog zcf #[av x p' c',f] w' fun v w''=>Ext w' w''/\v=.bool (zwn at_ x):=fun i h0 hi=>by
      obtain ⟨x,p',c',hx,hmem,hIx,hp,hp5,g0,g1,g2,g3,g4⟩:=hT.at h0 (by exact hi)
      have hx:xs[i.toNat]?=some x:=hx
      refine ⟨x,p',c',?_,hp,hp5,g0,g1,g2,g3,g4,fun w' hw'=>ih x hmem p' c' w' (hx0.trans hw') (hIx.ext hw' _ _ _) (hsub x hmem)⟩
      rw [List.getD_eq_getElem?_getD,List.getElem?_map,hx]; rfl
    refine zu6 k key val n p xs.length c f w _ fun b0 _=>⟨fun h4=>?_,fun h4=>⟨fun h5=>?_,fun h5=>⟨fun h6=>?_,fun h6 w1 hw1=>?_⟩⟩⟩
    · have hl:xs.length=1:=by rw [hlen]; unfold zfP; rw [if_neg (by omega),if_pos h4]
      obtain ⟨x,p',c',hv,hp,hp5,g0,g1,g2,g3,g4,hF⟩:=sub 0 (by omega) (by omega)
      refine ⟨hp,by omega,by omega,hp5,_,g0,_,g1,_,g2,_,g3,_,_,_,g4,fun w8 h8=>(hF w8 h8).mono fun v w9 ⟨e9,hv'⟩=>⟨e9,_,hv',fun w11 h11=>⟨h11,?_⟩⟩⟩
      rw [if_pos h4,show (0:Nat)=(0:Int).toNat from rfl,hv]
    · have hl:xs.length=2:=by rw [hlen]; unfold zfP; rw [if_pos (.inl h5)]
      obtain ⟨x,p',c',hv,hp,hp5,g0,g1,g2,g3,g4,hF⟩:=sub 0 (by omega) (by omega)
      obtain ⟨y,q',d',hv2,hq,hq5,f0,f1,f2,f3,f4,hG⟩:=sub 1 (by omega) (by omega)
      rw [if_neg h4,if_pos h5,show (0:Nat)=(0:Int).toNat from rfl,hv,show (1:Nat)=(1:Int).toNat from rfl,hv2]
      refine ⟨hp,by omega,by omega,hp5,_,g0,_,g1,_,g2,_,g3,_,_,_,g4,fun w8 h8=>(hF w8 h8).mono fun v w9 ⟨e9,hv'⟩=>⟨e9,_,hv',fun _=>hp,fun _=>by omega,fun _=>by omega,fun ht=>⟨hq5,_,f0,_,f1,_,f2,_,f3,_,_,_,f4,fun w18 h18=>(hG w18 h18).mono fun v w19 ⟨e19,hv''⟩=>⟨e19,_,hv'',fun w21 h21=>⟨h21,by rw [ht]; rfl⟩⟩⟩,fun hf' w11 h11=>⟨h11,by rw [hf']; rfl⟩⟩⟩
    · have hl:xs.length=2:=by rw [hlen]; unfold zfP; rw [if_pos (.inr h6)]
      obtain ⟨x,p',c',hv,hp,hp5,g0,g1,g2,g3,g4,hF⟩:=sub 0 (by omega) (by omega)
      obtain ⟨y,q',d',hv2,hq,hq5,f0,f1,f2,f3,f4,hG⟩:=sub 1 (by omega) (by omega)
      rw [if_neg h4,if_neg h5,if_pos h6,show (0:Nat)=(0:Int).toNat from rfl,hv,show (1:Nat)=(1:Int).toNat from rfl,hv2]
      refine ⟨hp,by omega,by omega,hp5,_,g0,_,g1,_,g2,_,g3,_,_,_,g4,fun w8 h8=>(hF w8 h8).mono fun v w9 ⟨e9,hv'⟩=>⟨e9,_,hv',fun _=>hp,fun _=>by omega,fun _=>by omega,fun ht w11 h11=>⟨h11,by rw [ht]; rfl⟩,fun hf'=>⟨hq5,_,f0,_,f1,_,f2,_,f3,_,_,_,f4,fun w18 h18=>(hG w18 h18).mono fun v w19 ⟨e19,hv''⟩=>⟨e19,_,hv'',fun w21 h21=>⟨h21,by rw [hf']; rfl⟩⟩⟩⟩⟩
    · rw [if_neg h4,if_neg h5,if_neg h6]
      obtain ⟨g,cap,hv,hF⟩:=hf (.mk k key val n xs) p c w1 (hx0.trans hw1) (hT.ext hw1 _ _ _) he (by show k<4; omega)
      exact ⟨g,cap,hv,hF.mono fun v w2 ⟨e2,hv'⟩=>⟨e2,_,hv',fun w4 hw4=>⟨hw4,rfl⟩⟩⟩
structure Lb where
  key:ByteArray
  val:ByteArray
deriving Inhabited
abbrev zsm (x:Lb):List Value:=[.string x.key,.string x.val]
abbrev Lbs (w:World) (p:Option Addr) (L:List Lb):Prop:=zgJ 2 zsm w p L
structure Ht where
  name:ByteArray
  labels:List Lb
  has:Nd
  used:Nd
deriving Inhabited
abbrev zEW (h:Ht) (p:Option Addr) (c:Nat):List Value:=[.string h.name,.slice p h.labels.length c,.int .i64 h.has.c,.int .i64 h.has.m,.int .i64 h.has.g,.int .i64 h.used.c,.int .i64 h.used.m,.int .i64 h.used.g]
abbrev hv (h:Ht) (p:Option Addr) (c:Nat):Value:=.agg #[.string h.name,.slice p h.labels.length c,.int .i64 h.has.c,.int .i64 h.has.m,.int .i64 h.has.g,.int .i64 h.used.c,.int .i64 h.used.m,.int .i64 h.used.g]
def amt (x:Nd) (key:ByteArray):Int:=if key=zBm then x.c else if key=memS then x.m else x.g
def atH (h:Ht) (y:AT):Bool:=if y.k=3 then decide (y.n<=amt h.has y.key) else h.labels.any fun l=>decide (l.key=y.key)&&(decide (y.k=1)||decide (l.val=y.val))
theorem zFm (x:Nd) (key:ByteArray) (w:World):FnP Tryz.prog ziD #[nv x,.string key] w fun v w'=>Ext w w'/\v=.int .i64 (amt x key) :=
  zsU x.c x.m x.g key w _ fun b0 _=>⟨fun h w1 h1=>⟨h1,by unfold amt; rw [if_pos (show key=zBm from h)]⟩,fun h=>⟨fun h2 w1 h1=>⟨h1,by unfold amt; rw [if_neg (show ¬ key=zBm from h),if_pos (show key=memS from h2)]⟩,fun h2 w1 h1=>⟨h1,by unfold amt; rw [if_neg (show ¬ key=zBm from h),if_neg (show ¬ key=memS from h2)]⟩⟩⟩
theorem zIR (p:Option Addr) (c:Nat) (L:List Lb) (h63:L.length<=9223372036854775807) (f:Value) (Pr:Lb->Bool) (w:World) (hL:Lbs w p L) (hf:∀ e∈L,∀ w',Ext w w'->zih Tryz.prog f [.agg #[.string e.key,.string e.val]] w' fun v w''=>Ext w' w''/\v=.bool (Pr e)) :
    FnP Tryz.prog zaH #[.slice p L.length c,f] w fun v w'=>Ext w w'/\v=.bool (L.any Pr):=by
  refine zcn p L.length c f w _ fun w0 h0=>?_
  refine FnP.mono (K:=fun v w'=>Ext w0 w'/\∃ t:Int,v=.int .i64 t/\(0<=t↔L.any Pr=true)) ?_ fun v w1 ⟨e1,t,hv,ht⟩=>⟨e1,t,hv,fun w3 h3=>⟨h3,by congr 1; rw [Bool.eq_iff_iff,decide_eq_true_iff]; exact ht⟩⟩
  refine zcM p L.length c f w0 _ ⟨fun k w'=>w'=w0/\0<=k/\k<=L.length/\∀ j:Nat,(j:Int)<k->Pr (L.getD j default)=false,fun k _=>(L.length-k).toNat,⟨rfl,by omega,by omega,fun j hj=>by omega⟩,?_⟩
  rintro k w2 ⟨rfl,hk0,hk1,hno⟩
  refine ⟨fun hlt=>?_,fun hge w3 h3=>⟨h3,-1,rfl,?_⟩⟩
  · have g0:=(hL.ext h0).idx default hk0 hlt (j:=0) rfl
    have g1:=(hL.ext h0).idx default hk0 hlt (j:=1) rfl
    have hm:=zan L default (i:=k.toNat) (by omega)
    refine ⟨fun hq=>zak g0 (zah.2 hq),hk0,hlt,zak g0,_,g0,_,g1,fun w5 h5=>?_⟩
    obtain ⟨fn,cap,hv,hF⟩:=hf _ hm w5 (h0.trans h5)
    refine ⟨fn,cap,hv,hF.mono fun v w6 ⟨e6,hv⟩=>⟨e6,_,hv,fun hy w8 h8=>⟨h8,k,rfl,?_⟩,fun hn=>⟨i64 (by omega),⟨rfl,by omega,by omega,fun j hj=>?_⟩,by simp only []; omega⟩⟩⟩
    · exact ⟨fun _=>List.any_eq_true.2 ⟨_,hm,hy⟩,fun _=>hk0⟩
    · by_cases hjk:(j:Int)<k
      · exact hno j hjk
      · obtain rfl:j=k.toNat:=by omega
        exact hn
  · refine ⟨fun h=>by omega,fun h=>?_⟩
    obtain ⟨e,he,hpe⟩:=List.any_eq_true.1 h
    obtain ⟨i,hi,rfl⟩:=List.getElem_of_mem he
    have:=hno i (by omega)
    simp only [List.getD_eq_getElem?_getD,List.getElem?_eq_getElem hi,Option.getD_some] at this
    rw [this] at hpe; cases hpe
theorem zIr (t:AT) (p:Option Addr) (c:Nat) (h:Ht) (q:Option Addr) (d:Nat) (hl:h.labels.length<=9223372036854775807) (w:World) (hT:IsT w t p c) (hW:WfA t) (hL:Lbs w q h.labels) :
    FnP Tryz.prog zkc #[av t p c,hv h q d] w fun v w'=>Ext w w'/\v=.tuple #[.bool (if zle t=0 then zwn (atH h) t else false),.int .i64 (zle t)]:=by
  refine zu2 t.k t.key t.val t.n p t.xs.length c h.name q h.labels.length d h.has.c h.has.m h.has.g h.used.c h.used.m h.used.g w _ fun b0 hb0 w1 x1=>?_
  have h1:=zaa x1
  refine zbE (t:=zdM) (by intro v hv; simp at hv; rcases hv with rfl|rfl|rfl|rfl|rfl|rfl|rfl|rfl<;>rfl) fun w2 o2 e2=>fun w3 h3=>?_
  have c2:=(o2 0 (Nat.zero_le _)).cells
  have x2:=h1.trans e2
  refine (zoG t p c w3 (hT.ext (x2.trans h3) _ _ _) hW).mono fun v w4 ⟨e4,hv⟩=>⟨e4,_,hv,fun hne w6 h6=>⟨x2.trans h6,by rw [if_neg hne]⟩,fun he w6 h6=>?_⟩
  have heA:zeL t=0:=by
    unfold zle at he
    split at he
    · omega
    · exact he
  refine (zKF (w0:=w2) (at_:=atH h) (fun y py cy wy hwy hTy hey hky=>⟨zhe,#[.pointer (some ⟨w1.heap.size,0,none⟩)],rfl,?_⟩) t p c w6 h6 (hT.ext (x2.trans h6) _ _ _) heA).mono fun v w7 ⟨e7,hv⟩=>⟨e7,_,hv,fun w9 h9=>⟨x2.trans h9,by rw [if_pos he,he]⟩⟩
  have cy':=c2.ext hwy
  have hLy:=hL.ext (x2.trans hwy)
  refine (zqD y.k y.key y.val y.n py y.xs.length cy (some ⟨w1.heap.size,0,none⟩) wy _ fun w0' h0'=>?_:FnP Tryz.prog zhe #[av y py cy,.pointer (some ⟨w1.heap.size,0,none⟩)] wy _)
  refine zbE (t:=zdB) (by intro v hv; simp at hv; rcases hv with rfl|rfl|rfl|rfl|rfl<;>rfl) fun wa oa ea=>?_
  have ca:=(oa 0 (Nat.zero_le _)).cells
  have hxa:=h0'.trans ea
  have cy2:=cy'.ext hxa
  have A:∀ (i:Nat) u,(zog y py cy)[i]?=some u->Go.Sx.cell wa (pAdd (some ⟨w0'.heap.size,0,none⟩) i) 0=some u:=fun i u hu=>by rw [zal]; exact ca i u hu
  refine ⟨by simp,_,A 0 _ rfl,fun h3'=>⟨by simp,by simp [pAdd],_,by rw [zal]; exact cy2 2 _ rfl,_,by rw [zal]; exact cy2 3 _ rfl,_,by rw [zal]; exact cy2 4 _ rfl,by simp,_,A 1 _ rfl,by simp,_,A 3 _ rfl,fun w8 h8=>?_⟩,fun h3'=>⟨by simp,_,_,_,by rw [zal]; exact cy2 1 _ rfl,fun w6' h6'=>?_⟩⟩
  · refine (zFm h.has y.key w8).mono fun v w9 ⟨e9,hv⟩=>⟨e9,_,hv,fun w11 h11=>⟨hxa.trans h11,?_⟩⟩
    unfold atH; rw [if_pos h3']
  · refine (zIR q d h.labels hl _ (fun l=>decide (l.key=y.key)&&(decide (y.k=1)||decide (l.val=y.val))) w6' (hLy.ext (hxa.trans h6')) fun e he w' hw'=>⟨zfk,#[.pointer (some ⟨w0'.heap.size,0,none⟩)],rfl,?_⟩).mono fun v w7 ⟨e7,hv⟩=>⟨e7,_,hv,fun w9 h9=>⟨hxa.trans h9,?_⟩⟩
    · have B:∀ (i:Nat) u,(zog y py cy)[i]?=some u->Go.Sx.cell w' (pAdd (some ⟨w0'.heap.size,0,none⟩) i) 0=some u:=fun i u hu=>zaJ (h6'.trans hw') (A i u hu)
      show FnP Tryz.prog zfk #[.agg #[.string e.key,.string e.val],.pointer (some ⟨w0'.heap.size,0,none⟩)] w' _
      refine znS e.key e.val (some ⟨w0'.heap.size,0,none⟩) w' _ fun b0 _=>⟨by simp,_,B 1 _ rfl,fun _=>by simp,fun hk=>⟨_,B 0 _ rfl,fun _=>by simp,fun h1' w3' h3''=>⟨h3'',?_⟩,fun h1'=>⟨_,B 2 _ rfl,fun w4' h4'=>⟨h4',?_⟩⟩⟩,fun hk w2' h2'=>⟨h2',?_⟩⟩
      · simp [hk,h1']
      · simp [hk,h1']
      · simp [hk]
    · unfold atH; rw [if_neg h3']
abbrev opA (k:Int) (l:List AT):AT:=.mk k emS emS 0 l
theorem zH8 {k:Int} (hk:0<=k/\k<=100) {l:List AT} (hl:l.length<=100) (h:∀ x∈l,WfA x):WfA (opA k l):=by
  unfold WfA
  exact ⟨i64 (by omega),by decide,by decide,i64 (by omega),by omega,WfL.of h⟩
theorem zxe {w:World} {q:Option Addr}:∀ {l:List (AT×Option Addr×Nat)} {i:Nat},(∀ (j:Nat) u,(l.flatMap fun x=>zog x.1 x.2.1 x.2.2)[j]?=some u->Go.Sx.cell w q (i*5+j)=some u)->(∀ x∈l,IsT w x.1 x.2.1 x.2.2)->IsL w (l.map (·.1)) q i
  |[],i,_,_ => by unfold IsL; trivial
  |x::r,i,h,hT => by
    unfold IsL
    refine ⟨⟨x.2.1,x.2.2,fun j u hu=>h j u ?_,hT x (List.mem_cons_self ..)⟩,zxe (fun j u hu=>?_) fun y hy=>hT y (List.mem_cons_of_mem _ hy)⟩
    · rw [List.flatMap_cons,List.getElem?_append_left]
      · exact hu
      · exact (List.getElem?_eq_some_iff.1 hu).1
    · have:=h (5+j) u (by
        rw [List.flatMap_cons,List.getElem?_append_right (by simp [zog])]
        simpa [zog] using hu)
      rw [show (i+1)*5+j=i*5+(5+j) by omega]
      exact this
theorem zwT {b:Nat} {w0 w w':World} (h:zag [b] [] w w') (he:Ext w0 w) (hb:w0.heap.size<=b):Ext w0 w':=zar h he (by intro d hd; simp at hd; omega)
abbrev zjn:AT:=.mk 0 emS emS 0 []
theorem zoO {k:Int} {key val:ByteArray} {n:Int} {xs:List AT} (h:zeL (.mk k key val n xs)=0) :
    (k=4/\∃ x,xs=[x]/\zeL x=0)\/((k=5\/k=6)/\∃ x y,xs=[x,y]/\zeL x=0/\zeL y=0)\/(1<=k/\k<4/\xs=[]):=by
  obtain ⟨h1,hsub⟩:=zgU h
  have h1:zkZ k key val n xs.length=0:=h1
  have hsub:∀ x∈xs,zeL x=0:=hsub
  have hlen:=zsq h1
  have hin:¬ (k<1\/6<k):=fun hb=>by
    unfold zkZ at h1; rw [if_pos hb] at h1; omega
  unfold zfP at hlen
  by_cases h4:k=4
  · rw [if_neg (by omega),if_pos h4] at hlen
    match xs,hlen with
    |[x],_ => exact .inl ⟨h4,x,rfl,hsub x (by simp)⟩
  · by_cases h5:k=5\/k=6
    · rw [if_pos h5] at hlen
      match xs,hlen with
      |[x,y],_ => exact .inr (.inl ⟨h5,x,y,rfl,hsub x (by simp),hsub y (by simp)⟩)
    · rw [if_neg h5,if_neg h4] at hlen
      exact .inr (.inr ⟨by omega,by omega,List.length_eq_zero_iff.1 hlen⟩)
structure GP (w:World):Prop where
  pow : Lib.TabIs Tryz.prog w "internal/strconv.uint64pow10" .u64 Lib.pow10Tab
theorem GP.ext {w w':World} (g:GP w) (e:Ext w w'):GP w':=⟨zEm g.pow e⟩
theorem zBv (n:Int) (h:-9223372036854775808<=n/\n<=9223372036854775807) (w:World) (g:GP w):FnP Tryz.prog zby #[.int .i64 n,.int .i64 10] w fun v w'=>Ext w w'/\v=.string (ofL (Lib.itoa n)) :=
  ⟨fun args w=>Tryz.call90 args w,(Tryz.strconv_FormatInt_10 n h.1 h.2 w g.pow).mono fun e w' ⟨he,k,os,hw⟩=>⟨_,he,by rw [hw]; exact zmj,rfl⟩⟩
mutual
def nod:AT->Nat
  |.mk _ _ _ _ xs => 1+zmC xs
def zmC:List AT->Nat
  |[] => 0
  |x::r => nod x+zmC r
end
mutual
def txt:AT->List UInt8
  |.mk k key val n xs => if k=1 then 63::key.data.toList else if k=2 then key.data.toList++61::val.data.toList else if k=3 then key.data.toList++62::61::Lib.itoa n
    else if k=4 then 33::(zK4 xs).headD [] else 40::((zK4 xs).getD 0 []++(if k=5 then 38 else 124)::((zK4 xs).getD 1 []++[41]))
def zK4:List AT->List (List UInt8)
  |[] => []
  |x::r => txt x::zK4 r
end
theorem txt1 (key val:ByteArray) (n:Int) (xs:List AT):txt (.mk 1 key val n xs)=63::key.data.toList:=by rw [txt,if_pos rfl]
theorem txt2 (key val:ByteArray) (n:Int) (xs:List AT):txt (.mk 2 key val n xs)=key.data.toList++61::val.data.toList:=by rw [txt,if_neg (by omega),if_pos rfl]
theorem txt3 (key val:ByteArray) (n:Int) (xs:List AT):txt (.mk 3 key val n xs)=key.data.toList++62::61::Lib.itoa n:=by rw [txt,if_neg (by omega),if_neg (by omega),if_pos rfl]
theorem txt4 (key val:ByteArray) (n:Int) (x:AT):txt (.mk 4 key val n [x])=33::txt x:=by rw [txt,if_neg (by omega),if_neg (by omega),if_neg (by omega),if_pos rfl]; simp [zK4]
theorem zKA {k:Int} (hk:k=5\/k=6) (key val:ByteArray) (n:Int) (x y:AT):txt (.mk k key val n [x,y])=40::(txt x++(if k=5 then 38 else 124)::(txt y++[41])):=by
  rw [txt,if_neg (by omega),if_neg (by omega),if_neg (by omega),if_neg (by omega)]; simp [zK4]
theorem zcZ {s:ByteArray} (h:lbB s=true):0<s.size/\s.size<=20:=by
  unfold lbB at h
  simp only [Bool.and_eq_true,decide_eq_true_eq] at h
  exact h.1.1.1
theorem ztt {s:ByteArray} (h:unB s=true):s.size=3:=by
  unfold unB at h
  simp only [Bool.or_eq_true,decide_eq_true_eq] at h
  rcases h with (h|h)|h<;>(rw [h]; rfl)
theorem zwD {k:Int} {key val:ByteArray} {n:Int} {xs:List AT} (h:zeL (.mk k key val n xs)=0) (hk:k<4) :
    (k=1/\lbB key=true/\val=emS/\n=0)\/(k=2/\lbB key=true/\lbB val=true/\n=0)\/(k=3/\unB key=true/\val=emS/\0<=n/\n<=1099511627776):=by
  obtain ⟨h1,_⟩:=zgU h
  have h1:zkZ k key val n xs.length=0:=h1
  unfold zkZ at h1
  split at h1
  · omega
  rename_i a1
  split at h1
  · omega
  split at h1
  · omega
  rename_i a3
  split at h1
  · omega
  rename_i a4
  split at h1
  · omega
  rename_i a5
  have hk3:k=1\/k=2\/k=3:=by omega
  rcases hk3 with rfl|rfl|rfl
  · refine .inl ⟨rfl,?_,?_,?_⟩
    · cases hb:lbB key with
      |true => rfl
      |false => exact absurd (.inr (.inl ⟨.inl rfl,hb⟩)) a4
    · exact Classical.byContradiction fun hv=>a3 (.inr (.inl ⟨by omega,hv⟩))
    · exact Classical.byContradiction fun hv=>a3 (.inr (.inr ⟨by omega,hv⟩))
  · refine .inr (.inl ⟨rfl,?_,?_,?_⟩)
    · cases hb:lbB key with
      |true => rfl
      |false => exact absurd (.inr (.inl ⟨.inr rfl,hb⟩)) a4
    · cases hb:lbB val with
      |true => rfl
      |false => exact absurd (.inr (.inr ⟨rfl,hb⟩)) a4
    · exact Classical.byContradiction fun hv=>a3 (.inr (.inr ⟨by omega,hv⟩))
  · refine .inr (.inr ⟨rfl,?_,?_,by omega,by omega⟩)
    · cases hb:unB key with
      |true => rfl
      |false => exact absurd (.inl ⟨rfl,hb⟩) a4
    · exact Classical.byContradiction fun hv=>a3 (.inr (.inl ⟨by omega,hv⟩))
theorem zoQ (s:ByteArray):s.data.toList.length=s.size:=by simp
theorem zts:∀ t:AT,zeL t=0->(txt t).length<=50*nod t:=by
  intro t
  induction t using AT.ind with
  |h k key val n xs ih =>
    intro h
    rcases zoO h with ⟨rfl,x,rfl,hx⟩|⟨hk,x,y,rfl,hx,hy⟩|⟨hk1,hk4,rfl⟩
    · have:=ih x (by simp) hx
      rw [txt4]
      simp only [nod,zmC,List.length_cons]; omega
    · have h1:=ih x (by simp) hx
      have h2:=ih y (by simp) hy
      rw [zKA hk]
      simp only [nod,zmC,List.length_cons,List.length_append,List.length_nil]; omega
    · rcases zwD h hk4 with ⟨rfl,a,b,c⟩|⟨rfl,a,b,c⟩|⟨rfl,a,b,c,d⟩
      · have:=zcZ a
        rw [txt1]; simp only [nod,zmC,List.length_cons,zoQ]; omega
      · have h1:=zcZ a
        have h2:=zcZ b
        rw [txt2]; simp only [nod,zmC,List.length_cons,List.length_append,zoQ]; omega
      · have h1:=ztt a
        have h2:=Lib.itoa_length_le n (by omega) (by omega)
        rw [txt3]; simp only [nod,zmC,List.length_cons,List.length_append,zoQ]; omega
theorem text_k:∀ (t:AT) (p:Option Addr) (c:Nat) (w:World),IsT w t p c->zeL t=0->nod t<=1099511627776->GP w->FnP Tryz.prog zdu #[av t p c] w fun v w'=>Ext w w'/\v=.string (ofL (txt t)):=by
  intro t
  induction t using AT.ind with
  |h k key val n xs ih =>
    intro p c w hT h hN g
    refine zxs k key val n p xs.length c w _ fun b0 _=>?_
    rcases zoO h with ⟨rfl,x,rfl,hx⟩|⟨hk,x,y,rfl,hx,hy⟩|⟨hk1,hk4,rfl⟩
    · obtain ⟨x',p',c',e1,_,hT',np,np5,g0,g1,g2,g3,g4⟩:=hT.at (k:=0) (by omega) (by show (0:Int)<((1:Nat):Int); omega)
      have:x'=x:=by have h':[x][0]?=some x':=e1; simpa using h'.symm
      subst this
      have hn:nod x'<=1099511627776:=by simp only [nod,zmC] at hN; omega
      have hl:=zts x' hx
      refine ⟨fun h=>by omega,fun _=>⟨fun h=>by omega,fun _=>⟨fun h=>by omega,fun _=>⟨fun _=>⟨np,by omega,by simp,np5,_,g0,_,g1,_,g2,_,g3,_,_,_,g4,fun w8 h8=>(ih x' (by simp) p' c' w8 (hT'.ext h8) hx hn (g.ext h8)).mono fun v w9 ⟨e9,hv⟩=>⟨e9,_,hv,?_,fun w11 h11=>⟨h11,?_⟩⟩⟩,fun h=>absurd rfl h⟩⟩⟩⟩
      · unfold zdk; rw [zat]; show 1+_<=_; omega
      · rw [txt4,<- zb8 ((⟨#[33]⟩:ByteArray)++_),zgS]; rfl
    · obtain ⟨x',p',c',e1,_,hT',np,np5,g0,g1,g2,g3,g4⟩:=hT.at (k:=0) (by omega) (by show (0:Int)<((2:Nat):Int); omega)
      have:x'=x:=by have h':[x,y][0]?=some x':=e1; simpa using h'.symm
      subst this
      obtain ⟨y',p2,c2,e2,_,hT2,np2,np52,q0,q1,q2,q3,q4⟩:=hT.at (k:=1) (by omega) (by show (1:Int)<((2:Nat):Int); omega)
      have:y'=y:=by have h':[x',y][1]?=some y':=e2; simpa using h'.symm
      subst this
      have hn1:nod x'<=1099511627776:=by simp only [nod,zmC] at hN; omega
      have hn2:nod y'<=1099511627776:=by simp only [nod,zmC] at hN; omega
      have hl1:=zts x' hx
      have hl2:=zts y' hy
      have hcat:∀ m:UInt8,(((((⟨#[40]⟩:ByteArray)++ofL (txt x'))++(⟨#[m]⟩:ByteArray))++ofL (txt y'))++(⟨#[41]⟩:ByteArray))=ofL (40::(txt x'++m::(txt y'++[41]))):=fun m=>by
        rw [<- zb8 (((((⟨#[40]⟩:ByteArray)++ofL (txt x'))++(⟨#[m]⟩:ByteArray))++ofL (txt y'))++(⟨#[41]⟩:ByteArray)),zgS,zgS,zgS,zgS]
        simp [ofL]
      have s1:∀ m:UInt8,(⟨#[m]⟩:ByteArray).size=1:=fun _=>rfl
      refine ⟨fun h=>by omega,fun _=>⟨fun h=>by omega,fun _=>⟨fun h=>by omega,fun _=>⟨fun h=>by omega,fun _=>⟨fun h5=>?_,fun h5=>?_⟩⟩⟩⟩⟩
      all_goals refine ⟨np,by omega,by simp,np5,_,g0,_,g1,_,g2,_,g3,_,_,_,g4,np,by omega,by simp,np52,_,q0,_,q1,_,q2,_,q3,_,_,_,q4,fun w15 h15=>(ih x' (by simp) p' c' w15 (hT'.ext h15) hx hn1 (g.ext h15)).mono fun v w16 ⟨e16,hv⟩=>⟨e16,_,hv,?_,?_,fun w18 h18=>(ih y' (by simp) p2 c2 w18 (hT2.ext h18) hy hn2 (g.ext h18)).mono fun v w19 ⟨e19,hv⟩=>⟨e19,_,hv,?_,?_,fun w21 h21=>⟨h21,?_⟩⟩⟩⟩
      all_goals first
        |(rw [hcat,zKA hk]; simp [h5])
        |(unfold zdk; simp only [ByteArray.size_append,s1,zat]; omega)
    · rcases zwD h hk4 with ⟨rfl,a,b,c'⟩|⟨rfl,a,b,c'⟩|⟨rfl,a,b,c',d⟩
      · have hs:=zcZ a
        refine ⟨fun _=>⟨?_,fun w1 h1=>⟨h1,?_⟩⟩,fun h=>absurd rfl h⟩
        · unfold zdk; show 1+_<=_; omega
        · rw [txt1,<- zb8 ((⟨#[63]⟩:ByteArray)++_),zgS]; rfl
      · have hs:=zcZ a
        have hs2:=zcZ b
        refine ⟨fun h=>by omega,fun _=>⟨fun _=>⟨?_,?_,fun w1 h1=>⟨h1,?_⟩⟩,fun h=>absurd rfl h⟩⟩
        · unfold zdk; show _+1<=_; omega
        · unfold zdk; rw [ByteArray.size_append]; show _+1+_<=_; omega
        · rw [txt2,<- zb8 ((key++(⟨#[61]⟩:ByteArray))++val),zgS,zgS]; simp
      · have hs:=ztt a
        have hil:=Lib.itoa_length_le n (by omega) (by omega)
        refine ⟨fun h=>by omega,fun _=>⟨fun h=>by omega,fun _=>⟨fun _=>⟨?_,fun w1 h1=>(zBv n (by omega) w1 (g.ext h1)).mono fun v w2 ⟨e2,hv⟩=>⟨e2,_,hv,?_,fun w4 h4=>⟨h4,?_⟩⟩⟩,fun h=>absurd rfl h⟩⟩⟩
        · unfold zdk; show _+2<=_; omega
        · unfold zdk; rw [ByteArray.size_append,zat]; show _+2+_<=_; omega
        · rw [txt3,<- zb8 ((key++(⟨#[62,61]⟩:ByteArray))++_),zgS,zgS]; simp [ofL]
end Go.Proofs.YtcceeahmcecbnaaGreatDoor
namespace Go.Proofs
open Go.Shelf Go.RowKit Go.Lib
variable {P:Program} {ρ:Ren}
theorem zt1 (w:World) (n:Nat):Below w.heap.size w (w.drewN n):=⟨rfl,rfl,rfl,Nat.le_refl _,fun _ _=>rfl⟩
theorem zux {l:List UInt8} {x:UInt8} (h:∀ y∈l,y≠x):Lib.indexByte l x=-1:=by
  have hcon:=Lib.contains_iff_indexByte l x
  have:l.contains x=false:=by
    cases hc:l.contains x with
    |false => rfl
    |true => exact absurd rfl (h x (by simpa using hc))
  rw [this] at hcon
  have h2:=of_decide_eq_false hcon.symm
  have h3:=Lib.indexByte_ge l x
  omega
set_option maxHeartbeats 4000000 in
set_option maxRecDepth 1000000 in
theorem Any.IndexRune_err (L:Lays.n152 P ρ) (s:ByteArray) (w:World) (hascii:∀ (j:Nat) b,s.data.toList[j]?=some b->b.toNat<128) :
    Calls P (ρ.f 152) #[.string s,.int .i32 65533] w fun e w'=>e=.returned (.int .i64 (-1))/\Below w.heap.size w w':=by
  have HA:Aside (∀ (j:Nat) b,s.data.toList[j]?=some b->b.toNat<128):=hascii
  clear hascii
  have t3:=L.t3; have a3:=L.a3; have z3:=L.z3; have v3:=L.v3
  have t4:=L.t4; have a4:=L.a4; have z4:=L.z4; have v4:=L.v4
  have t5:=L.t5; have a5:=L.a5; have z5:=L.z5; have v5:=L.v5
  have t9:=L.t9; have a9:=L.a9; have z9:=L.z9; have v9:=L.v9
  have t21:=L.t21; have a21:=L.a21; have z21:=L.z21; have v21:=L.v21
  have e137:∀ args w,(callFunc (ρ.f 137) args).run P w=.ok (.enter (ρ.f 137) args) w:=enters_of L.f137 (by kernel_rfl) rfl
  go_enter L.f152,Body.n152_ntmps ρ
  go_wp2
  go_loopg [5,6] s.size (fun g _ _ wx=>∃ i:Nat,i+g=s.size/\wx=w.iter s i)
  case atStart=>exact ⟨0,by omega,rfl⟩
  case round =>
    obtain ⟨i,hig,rfl⟩:=hrel
    cases gk with
    |zero =>
      obtain rfl:i=s.size:=by omega
      have hnx:=run_next_end (P:=P) w s s.size
      go_wp2
      go_ret
      exact ⟨rfl,(Below.refl w.heap.size w).alloc (Nat.le_refl _) _⟩
    |succ g =>
      have hi:i<s.size:=by omega
      obtain ⟨x,hx⟩:∃ x:UInt8,s[i]'hi=x:=⟨_,rfl⟩
      have hxl:s.data.toList[i]?=some x:=by rw [<- hx]; exact Lib.data_getElem? s i hi
      have hx128:x.toNat<128:=HA.out i x hxl
      have hnx:=fun ty=>run_next_ascii (P:=P) w s i ty hi (by rw [hx]; exact hx128)
      rw [hx] at hnx
      have hne:((x.toNat:Int)==65533)=false:=beq_eq_false_iff_ne.2 (by omega)
      clear hxl hx
      go_wp2
      go_roundg g
      case measure=>omega
      case rel=>exact ⟨i+1,by omega,rfl⟩
set_option maxHeartbeats 8000000 in
set_option maxRecDepth 1000000 in
theorem Any.IndexRune_high (L:Lays.n152 P ρ) (s:ByteArray) (r:Int) (w:World) (hr:128<=r) (hne:r≠65533) (hascii:∀ (j:Nat) b,s.data.toList[j]?=some b->b.toNat<128) :
    Calls P (ρ.f 152) #[.string s,.int .i32 r] w fun e w'=>e=.returned (.int .i64 (-1))/\Below w.heap.size w w':=by
  have HA:Aside (∀ (j:Nat) b,s.data.toList[j]?=some b->b.toNat<128):=hascii
  clear hascii
  have t3:=L.t3; have a3:=L.a3; have z3:=L.z3; have v3:=L.v3
  have t4:=L.t4; have a4:=L.a4; have z4:=L.z4; have v4:=L.v4
  have t5:=L.t5; have a5:=L.a5; have z5:=L.z5; have v5:=L.v5
  have t9:=L.t9; have a9:=L.a9; have z9:=L.z9; have v9:=L.v9
  have t21:=L.t21; have a21:=L.a21; have z21:=L.z21; have v21:=L.v21
  have e137:∀ args w,(callFunc (ρ.f 137) args).run P w=.ok (.enter (ρ.f 137) args) w:=enters_of L.f137 (by kernel_rfl) rfl
  have e119:∀ args w,(callFunc (ρ.f 119) args).run P w=.ok (.enter (ρ.f 119) args) w:=enters_of L.f119 (by kernel_rfl) rfl
  have h1:decide (r<128)=false:=decide_eq_false (by omega)
  have h2:(r==65533)=false:=beq_eq_false_iff_ne.2 hne
  go_enter L.f152,Body.n152_ntmps ρ
  cases hv:Lib.validRune r with
  |false =>
    go_wp2_with (go_at_fn (ρ.f 119); refine (Any.utf8_ValidRune { L with } _ _).mono ?_; rintro e w' ⟨rfl,hw⟩; rw [hw,hv])
    go_ret
    exact ⟨rfl,Below.refl _ _⟩
  |true =>
    go_wp2_with (go_at_fn (ρ.f 119); refine (Any.utf8_ValidRune { L with } _ _).mono ?_; rintro e w' ⟨rfl,hw⟩; rw [hw,hv])
    obtain ⟨he2,he4,hlast⟩:=encode_facts r (by rw [validRune_eq]; exact hv) hr
    generalize hgE:Utf8.encode r=E at he2 he4 hlast
    have HL:Aside (∀ h:E.size-1<E.size,128<=(E[E.size-1]'h).toNat):=hlast
    clear hlast
    have hw1:wrap64 ((E.size:Int)-1)=(E.size:Int)-1:=by
      simp only [wrap64]; omega
    go_step3
    go_wp2
    go_loopg [9] 1 (fun g s9 wx=>s9=.int .i64 ((E.size:Int)-1)/\wx=w)
    case atStart=>exact ⟨rfl,rfl⟩
    case round =>
      obtain ⟨rfl,rfl⟩:=hrel
      by_cases hlt:E.size-1<s.size
      · have hd:decide ((E.size:Int)-1<(s.size:Int))=true:=decide_eq_true (by omega)
        have mixed:=L.mixed
        obtain ⟨x,hx⟩:∃ x:UInt8,s[E.size-1]'hlt=x:=⟨_,rfl⟩
        obtain ⟨y,hy⟩:∃ y:UInt8,E[E.size-1]'(by omega)=y:=⟨_,rfl⟩
        have hx128:x.toNat<128:=by rw [<- hx]; exact HA.out (E.size-1) _ (Lib.data_getElem? s (E.size-1) hlt)
        have hy128:128<=y.toNat:=by rw [<- hy]; exact HL.out _
        have hix:∀ w,(Instr.index (ρ.t 9) (.string s) (.int .i64 ((E.size:Int)-1))).run P w=.ok (.int .u8 x.toNat) w:=fun w=>by
          rw [run_index_string (h:=t9),dif_pos ⟨by omega,by omega⟩]
          simp only [show ((E.size:Int)-1).toNat=E.size-1 by omega,hx]
        have hiy:∀ w,(Instr.index (ρ.t 9) (.string E) (.int .i64 ((E.size:Int)-1))).run P w=.ok (.int .u8 y.toNat) w:=fun w=>by
          rw [run_index_string (h:=t9),dif_pos ⟨by omega,by omega⟩]
          simp only [show ((E.size:Int)-1).toNat=E.size-1 by omega,hy]
        have hne2:((x.toNat:Int)==(y.toNat:Int))=false:=beq_eq_false_iff_ne.2 (by omega)
        clear hx hy
        go_wp2
        go_step3
        go_wp2
        have hw2:IntKind.i64.wrap (E.size:Int)=(E.size:Int):=wrap_small _ (by omega) (by omega)
        have hsl:∀ w,(Instr.slice (ρ.t 9) (.string s) (some (.int .i64 (E.size:Int))) none none).run P w=.ok (.string (s.extract E.size s.size)) w:=fun w=>by
          rw [run_slice_string_l (ht:=t9) (h0:=by omega) (h1:=by omega)]; simp
        have hib:Lib.indexByte (s.extract E.size s.size).data.toList y=-1:=zux fun z hz=>by
          have hz':=mem_extract hz
          obtain ⟨j,hj⟩:=List.getElem?_of_mem hz'
          have:=HA.out j z hj
          intro e; subst e; omega
        have hIB:∀ (w:World) n,Calls P (ρ.f 137) #[.string (s.extract E.size s.size),.int .u8 y.toNat] (w.drewN n) fun e w'=>e=.returned (.int .i64 (-1))/\w'=w.drewN n:=fun w n=>(Any.strings_IndexByte { L with } _ _ _).mono fun e w' ⟨he,hw⟩=>⟨by rw [he,show ((y.toNat:Int)).toNat.toUInt8=y by simp,hib],hw⟩
        go_quiet_o (fail)
        go_wp2
        go_quiet_o (first|(go_at_fn (ρ.f 137); exact (hIB _ _).mono fun e w' ⟨h1,h2⟩=>⟨h1,_,h2⟩))
        go_wp2
        rw [Exit.noGoto_ret]
        simp only [Exit.inBlock,Exit.then]
        rw [Exit.noGoto_ret]
        go_ret
        exact ⟨rfl,zt1 _ _⟩
      · have hd:decide ((E.size:Int)-1<(s.size:Int))=false:=decide_eq_false (by omega)
        go_wp2
        rw [Exit.noGoto_ret]
        go_ret
        exact ⟨rfl,Below.refl _ _⟩
theorem Any.IndexRune_any (L:Lays.n152 P ρ) (s:ByteArray) (r:Int) (w:World) (h0:0<=r) (hascii:∀ (j:Nat) b,s.data.toList[j]?=some b->b.toNat<128) :
    Calls P (ρ.f 152) #[.string s,.int .i32 r] w fun e w'=>∃ n:Int,e=.returned (.int .i64 n)/\Below w.heap.size w w':=by
  by_cases h1:r<128
  · exact (Any.strings_IndexRune_ascii L s r w h0 h1).mono fun e w' ⟨he,hw⟩=>⟨_,he,hw▸Below.refl _ _⟩
  by_cases h2:r=65533
  · subst h2
    exact (Any.IndexRune_err L s w hascii).mono fun e w' ⟨he,hw⟩=>⟨_,he,hw⟩
  · exact (Any.IndexRune_high L s r w (by omega) h2 hascii).mono fun e w' ⟨he,hw⟩=>⟨_,he,hw⟩
theorem zAp (s:ByteArray) (pos:Nat) (h:pos<s.size):1<=(Utf8.decode s pos).2:=by
  by_cases ha:(s[pos]'h).toNat<128
  · rw [decode_ascii s pos h ha]; exact Nat.le_refl 1
  · exact (decode_high s pos h (by omega)).2
set_option maxHeartbeats 8000000 in
set_option maxRecDepth 1000000 in
theorem Any.IndexAny_short_any (L:Lays.n153 P ρ) (s chars:ByteArray) (w:World) (h2:2<=chars.size) (h8:s.size<=8) (hascii:∀ (j:Nat) b,chars.data.toList[j]?=some b->b.toNat<128) :
    Calls P (ρ.f 153) #[.string s,.string chars] w fun e w'=>∃ n:Int,e=.returned (.int .i64 n)/\n<s.size/\Below w.heap.size w w':=by
  have HA:Aside (∀ (j:Nat) b,chars.data.toList[j]?=some b->b.toNat<128):=hascii
  clear hascii
  have hemp:chars.toList.isEmpty=false:=by
    rw [Lib.toList_data]
    cases h:chars.data.toList with
    |nil => have:=Lib.size_eq chars; rw [h,List.length_nil] at this; omega
    |cons _ _ => rfl
  have hn1:((chars.size:Int)==1)=false:=beq_eq_false_iff_ne.2 (by omega)
  have h8z:decide ((8:Int)<(s.size:Int))=false:=decide_eq_false (by omega)
  have t3:=L.t3; have a3:=L.a3; have z3:=L.z3; have v3:=L.v3
  have t4:=L.t4; have a4:=L.a4; have z4:=L.z4; have v4:=L.v4
  have t5:=L.t5; have a5:=L.a5; have z5:=L.z5; have v5:=L.v5
  have t9:=L.t9; have a9:=L.a9; have z9:=L.z9; have v9:=L.v9
  have t21:=L.t21; have a21:=L.a21; have z21:=L.z21; have v21:=L.v21
  have e152:∀ args w,(callFunc (ρ.f 152) args).run P w=.ok (.enter (ρ.f 152) args) w:=enters_of L.f152 (by kernel_rfl) rfl
  have e226:∀ args w,(callFunc (ρ.f 226) args).run P w=.ok (.enter (ρ.f 226) args) w:=enters_of L.f226 (by kernel_rfl) rfl
  go_enter L.f153,Body.n153_ntmps ρ
  go_wp2_with (go_at_fn (ρ.f 226); refine (Any.strings_shouldUseASCIISet { L with } _ _).mono ?_; rintro e w' ⟨rfl,hw⟩; rw [hw,h8z])
  go_loopg [9,10] s.size (fun g _ _ wx=>∃ i:Nat,s.size-i<=g/\wx.heap[w.heap.size]?=some (.stringIter s i)/\Below w.heap.size w wx)
  case atStart=>exact ⟨0,Nat.sub_le _ _,World.iter_heap _ _ _,(Below.refl _ w).alloc (Nat.le_refl _) _⟩
  case round =>
    obtain ⟨i,hig,hk,hB⟩:=hrel
    have HB:Aside (Below w.heap.size w wr):=hB
    have HK:Aside (wr.heap[w.heap.size]?=some (.stringIter s i)):=hk
    clear hB
    cases gk with
    |zero =>
      have hnx:=fun ty=>run_next_end_at (P:=P) wr w.heap.size s i ty hk (by omega)
      clear hk
      go_wp2
      go_ret
      exact ⟨_,rfl,by omega,HB.out⟩
    |succ g =>
      by_cases hi:i<s.size
      · have hnx:=fun ty=>run_next_any_at (P:=P) wr w.heap.size s i ty hk hi
        have hd:=zAp s i hi
        generalize hdd:Utf8.decode s i=d at hnx hd
        clear hdd hk
        go_wp2_with (go_at_fn (ρ.f 152); refine (Any.IndexRune_any { L with } _ _ _ (by omega) HA.out).mono ?_; rintro e w' ⟨n,rfl,hw⟩)
        · go_ret
          exact ⟨_,rfl,by omega,(below_iterAt HB.out (Nat.le_refl _) s _).trans (hw.mono (by rw [iterAt_size]; exact HB.out.size))⟩
        · go_roundg g
          case measure=>omega
          case rel =>
            refine ⟨i+d.2,by omega,?_,(below_iterAt HB.out (Nat.le_refl _) s _).trans (hw.mono (by rw [iterAt_size]; exact HB.out.size))⟩
            rw [hw.block _ (by rw [iterAt_size]; exact (Array.getElem?_eq_some_iff.1 HK.out).1)]
            exact iterAt_heap wr w.heap.size s i _ HK.out
      · have hnx:=fun ty=>run_next_end_at (P:=P) wr w.heap.size s i ty hk (by omega)
        clear hk
        go_wp2
        go_ret
        exact ⟨_,rfl,by omega,HB.out⟩
theorem zpg (chars:List UInt8):∀ l:List UInt8,Lib.indexAny l chars<l.length
  |[] => by show (-1:Int)<_; simp
  |b::l => by
    have ih:=zpg chars l
    unfold Lib.indexAny
    simp only [List.length_cons]
    split
    · omega
    · split
      · omega
      · omega
theorem Any.IndexAny_any (L:Lays.n153 P ρ) (h116:(P.info? (ρ.t 116)).map (fun i=>(i.zero,i.size))=some (some (.agg (Array.replicate 256 (.bool false))),256)) (s chars:ByteArray) (w:World) (h2:2<=chars.size) (hs:s.size<4294967281) (hcs:chars.size<4294967281) (hac:∀ (j:Nat) b,chars.data.toList[j]?=some b->b.toNat<128) :
    Calls P (ρ.f 153) #[.string s,.string chars] w fun e w'=>(∃ n:Int,e=.returned (.int .i64 n)/\n<s.size/\((∀ (j:Nat) b,s.data.toList[j]?=some b->b.toNat<128)->n=Lib.indexAny s.data.toList chars.data.toList))/\Below w.heap.size w w':=by
  have hlt:Lib.indexAny s.data.toList chars.data.toList<s.size:=by have:=zpg chars.data.toList s.data.toList; rw [<- Lib.size_eq] at this; exact this
  by_cases h8:s.size<=8
  · by_cases has:∀ (j:Nat) b,s.data.toList[j]?=some b->b.toNat<128
    · exact (Any.strings_IndexAny_laid L h116 s chars w hs hcs has hac).mono fun e w' ⟨he,hb⟩=>⟨⟨_,he,hlt,fun _=>rfl⟩,hb⟩
    · exact (Any.IndexAny_short_any L s chars w h2 h8 hac).mono fun e w' ⟨n,he,hn,hb⟩=>⟨⟨n,he,hn,fun h=>absurd h has⟩,hb⟩
  · refine (Any.strings_IndexAny_long L (zero_of_info h116).1 (zero_of_info h116).2 s chars w h2 (by omega) hs hcs hac).mono fun e w' ⟨he,hw⟩=>⟨⟨_,he,hlt,fun _=>rfl⟩,?_⟩
    rw [hw]
    exact ((Below.refl _ _).alloc (Nat.le_refl _) _).alloc (by simp) _
end Go.Proofs
namespace Go.Proofs.YtcceeahmcecbnaaGreatDoor
open Go.Sx Go.RowKit
def sgs:List UInt8:=[63,61,62,33,40,41,38,124]
def sep (l:List UInt8):Prop:=l=[]\/∃ x r,l=x::r/\x∈sgs
theorem zfd {x:UInt8} {r:List UInt8} (h:x∈sgs):sep (x::r):=.inr ⟨x,r,rfl,h⟩
def asc (l:List UInt8):Prop:=∀ b∈l,b.toNat<128
theorem asc_at {l:List UInt8}:asc l↔∀ (j:Nat) b,l[j]?=some b->b.toNat<128 :=
  ⟨fun h j b hb=>h b (List.mem_of_getElem? hb),fun h b hb=>by obtain ⟨j,hj⟩:=List.getElem?_of_mem hb; exact h j b hj⟩
theorem zHC {a b:List UInt8} (ha:∀ x∈a,x∉sgs) (hb:sep b):(b=[]/\Lib.indexAny (a++b) sgs=-1)\/(b≠[]/\Lib.indexAny (a++b) sgs=a.length):=by
  have hno:∀ j,j<=a.length->Lib.NoAny (a++b) sgs j:=fun j hj i x hi hx=>by
    rw [List.getElem?_append_left (by omega)] at hx
    have:=ha x (List.mem_of_getElem? hx)
    simpa using this
  rcases hb with rfl|⟨x,r,rfl,hx⟩
  · exact .inl ⟨rfl,Lib.indexAny_none (by rw [List.append_nil] at hno ⊢; exact hno _ (Nat.le_refl _))⟩
  · exact .inr ⟨by simp,Lib.indexAny_hit (x:=x) (hno _ (Nat.le_refl _)) (by simp) (by simpa using hx)⟩
theorem zz7 (s:ByteArray) (hs:s.size<=2000) (w:World):FnP Tryz.prog zf0 #[.string s,.string (⟨#[63,61,62,33,40,41,38,124]⟩:ByteArray)] w fun v w'=>Ext w w'/\∃ n:Int,v=.int .i64 n/\n<s.size/\(asc s.data.toList->n=Lib.indexAny s.data.toList sgs) :=
  ⟨fun args w=>Tryz.call275 args w,(Any.IndexAny_any Tryz.lays153 (by kernel_rfl) s _ w (by decide) (by omega) (by decide) (by
    intro j b hb
    have:b∈sgs:=List.mem_of_getElem? hb
    have key:∀ b∈sgs,b.toNat<128:=by decide
    exact key b this)).mono fun e w' ⟨⟨n,he,hn,hv⟩,hb⟩=>⟨_,he,hb,n,rfl,hn,fun h=>hv (asc_at.1 h)⟩⟩
abbrev RD (B:Nat) (w:World) (rb:Nat) (l:List UInt8) (left:Nat):Prop:=Own B w ztT 2 (some ⟨rb,0,none⟩) 1 1 [.string (ofL l),.int .i64 left]
abbrev rp (rb:Nat):Value:=.pointer (some ⟨rb,0,none⟩)
theorem RD.lt {B:Nat} {w:World} {rb:Nat} {l:List UInt8} {left:Nat} (o:RD B w rb l left):rb<w.heap.size:=Own.size_lt o
theorem RD.cells {B:Nat} {w:World} {rb:Nat} {l:List UInt8} {left:Nat} (o:RD B w rb l left):cell w (pAdd (some ⟨rb,0,none⟩) 0) 0=some (.string (ofL l))/\cell w (pAdd (some ⟨rb,0,none⟩) 1) 0=some (.int .i64 left):=by
  have h0:cell w (some ⟨rb,0,none⟩) 0=some (.string (ofL l)):=Own.cells o 0 _ rfl
  have h1:cell w (some ⟨rb,0,none⟩) 1=some (.int .i64 left):=Own.cells o 1 _ rfl
  exact ⟨by rw [zal]; exact h0,by rw [zal]; exact h1⟩
theorem RD.fr {B:Nat} {w w':World} {rb:Nat} {l:List UInt8} {left:Nat} {S:Nat->Prop} (o:RD B w rb l left) (k:Fr S w w') (h:¬ S rb):RD B w' rb l left:=Own.fr o k fun a ha=>by obtain rfl:=Option.some.inj ha; exact h
theorem RD.put {B:Nat} {w:World} {rb:Nat} {l m:List UInt8} {left:Nat} (o:RD B w rb l left) {t:ByteArray} (ht:t=ofL m) {K:World->Prop} (hk:∀ w',RD B w' rb m left->Fr (·=rb) w w'->K w'):zao w (pAdd (some ⟨rb,0,none⟩) 0) [.string t] [] K :=
  zaW (off:=0) o rfl (by simp) (by simp) (by intro v hv; simp at hv; subst hv; rfl) (by simp) fun w' o' g=>hk w' (by subst ht; exact o') (zaR g fun a ha=>by obtain rfl:=Option.some.inj ha; rfl)
theorem RD.left {B:Nat} {w:World} {rb:Nat} {l:List UInt8} {left:Nat} {b0:Nat} (o:RD B w rb l left) (hb:b0≠rb) {x:Int} {m:Nat} (hx:x=m) {K:World->Prop} (hk:∀ w',RD B w' rb l m->Fr (·=rb) w w'->K w'):zao w (pAdd (some ⟨rb,0,none⟩) 1) [.int .i64 x] [b0] K :=
  zaW (off:=1) o rfl (by simp) (by simp) (by intro v hv; simp at hv; subst hv; rfl) (by intro b hb' y hy hh; simp at hb'; subst hb'; obtain rfl:=Option.some.inj hy; exact hb hh.symm) fun w' o' g=>hk w' (by subst hx; exact o') (zaR g fun a ha=>by obtain rfl:=Option.some.inj ha; rfl)
theorem zka {B:Nat} {w:World} {rb:Nat} {l:List UInt8} {left:Nat} (o:RD B w rb l left) (hl:l.length<=2000) (c:UInt8) (ci:Int) (hc:ci=c.toNat) :
    FnP Tryz.prog zaf #[rp rb,.int .u8 ci] w fun v w'=>Fr (·=rb) w w'/\((∃ r,l=c::r/\v=.bool true/\RD B w' rb r left)\/((∀ r,l≠c::r)/\v=.bool false/\RD B w' rb l left)):=by
  subst hc
  obtain ⟨g0,_⟩:=o.cells
  cases l with
  |nil =>
    refine zgb _ _ w _ ⟨by simp,by simp,_,g0,fun _=>by simp,fun _=>by simp,fun _ w1 h1=>⟨zac h1,.inr ⟨fun r=>by simp,rfl,Own.ext o h1⟩⟩,fun h=>absurd rfl h⟩
  |cons x r =>
    have hx:sAt (ofL (x::r)) 0=(x.toNat:Int):=rfl
    refine zgb _ _ w _ ⟨by simp,by simp,_,g0,fun _=>by simp,fun _=>by simp,fun h=>absurd h (by intro h; have:=congrArg (fun s:ByteArray=>s.data.toList) h; simp [ofL] at this),fun _=>⟨_,g0,Int.le_refl _,by rw [zat]; simp,fun hne w2 h2=>⟨zac h2,.inr ⟨fun r' he=>?_,rfl,Own.ext o h2⟩⟩,fun he=>⟨by simp,by simp,_,g0,by omega,by rw [zat]; simp; omega,Int.le_refl _,by simp,by simp,?_⟩⟩⟩
    · rw [hx] at hne
      simp at he
      rw [he.1] at hne
      exact hne rfl
    · rw [hx] at he
      have hxc:x=c:=UInt8.toNat_inj.1 (by omega)
      subst hxc
      refine o.put (m:=r) ?_ fun w3 o3 f3 w4 h4=>⟨f3.tr (zac h4),.inl ⟨r,rfl,rfl,Own.ext o3 h4⟩⟩
      rw [<- zb8 (ByteArray.extract _ _ _)]
      congr 1
      rw [zat]
      simp [ofL]
theorem zz5 {B:Nat} {w:World} {rb:Nat} {l:List UInt8} {left:Nat} (o:RD B w rb l left) (hl:l.length<=2000) :
    FnP Tryz.prog zbu #[rp rb] w fun v w'=>Fr (·=rb) w w'/\∃ a b,v=.string (ofL a)/\l=a++b/\RD B w' rb b left/\(∀ a0 b0,l=a0++b0->asc l->(∀ x∈a0,x∉sgs)->sep b0->a=a0/\b=b0):=by
  obtain ⟨g0,_⟩:=o.cells
  refine zlA _ w _ ⟨by simp,by simp,_,g0,fun w1 h1=>(zz7 (ofL l) (by rw [zat]; omega) w1).mono fun v w2 ⟨e2,n,hv,hn,hval⟩=>⟨e2,n,hv,fun hneg=>⟨by simp,by simp,_,g0,by simp,by simp,_,g0,Int.le_refl _,by omega,Int.le_refl _,by simp,by simp,_,g0,by omega,Int.le_refl _,Int.le_refl _,by simp,by simp,?_⟩,fun hge=>⟨by simp,by simp,_,g0,Int.le_refl _,hge,by omega,by simp,by simp,_,g0,hge,by omega,Int.le_refl _,by simp,by simp,?_⟩⟩⟩
  · refine o.put (m:=[]) ?_ fun w3 o3 f3 w4 h4=>⟨f3.tr (zac h4),l,[],?_,by simp,Own.ext o3 h4,fun a0 b0 he hasc ha hb=>?_⟩
    · rw [<- zb8 (ByteArray.extract _ _ _)]
      congr 1
      simp [ofL]
    · rw [<- zb8 (ByteArray.extract _ _ _)]
      congr 2
      simp [ofL]
    · have hv':=hval hasc
      rw [zcl,he] at hv'
      rcases zHC ha hb with ⟨hb0,_⟩|⟨_,hq⟩
      · subst hb0; exact ⟨by rw [he,List.append_nil],rfl⟩
      · omega
  · have hnl:n.toNat<=l.length:=by rw [zat] at hn; omega
    refine o.put (m:=l.drop n.toNat) ?_ fun w3 o3 f3 w4 h4=>⟨f3.tr (zac h4),l.take n.toNat,l.drop n.toNat,?_,by simp,Own.ext o3 h4,fun a0 b0 he hasc ha hb=>?_⟩
    · rw [<- zb8 (ByteArray.extract _ _ _)]
      congr 1
      rw [zat]
      simp only [ByteArray.data_extract,Array.toList_extract,List.extract_eq_take_drop,ofL]
      exact List.take_of_length_le (by simp)
    · rw [<- zb8 (ByteArray.extract _ _ _)]
      congr 2
      simp [ofL]
    · have hv':=hval hasc
      rw [zcl,he] at hv'
      rcases zHC ha hb with ⟨_,hq⟩|⟨_,hq⟩
      · omega
      · have:n.toNat=a0.length:=by omega
        rw [this,he]
        simp
theorem zg3 {l:List UInt8} {n:Int} (h:Lib.parseIntB 64 l=.ok n):InR .i64 n:=by
  have e:(2:Nat)^(64-1)=9223372036854775808:=by decide
  unfold Lib.parseIntB at h
  split at h
  · cases h
  · simp only at h
    split at h
    · cases h
    · cases h
    · rename_i u _
      split at h
      · cases h
      · rename_i h1
        split at h
        · cases h
        · rename_i h3
          injection h with h
          rw [e] at h1 h3
          split at h
          · rename_i h2; exact i64 (by simp [h2] at h1 h3; omega)
          · rename_i h2; exact i64 (by simp [h2] at h1 h3; omega)
theorem zph {s:ByteArray} (h:lbB s=true):∀ x∈s.data.toList,x∉sgs:=fun x hx hs=>by
  have key:∀ x∈sgs,okC (x.toNat:Int)=false:=by decide
  unfold lbB at h
  simp only [Bool.and_eq_true] at h
  have:=List.all_eq_true.1 h.2 (x.toNat:Int) (List.mem_map.2 ⟨x,hx,rfl⟩)
  rw [key x hs] at this
  cases this
theorem zvQ {s:ByteArray} (h:unB s=true):∀ x∈s.data.toList,x∉sgs:=by
  unfold unB at h
  simp only [Bool.or_eq_true,decide_eq_true_eq] at h
  rcases h with (h|h)|h<;>(subst h; decide)
theorem zGl {n:Int} (h:0<=n):∀ x∈Lib.itoa n,x∉sgs:=fun x hx hs=>by
  have key:∀ x∈sgs,x.toNat<48\/57<x.toNat:=by decide
  rcases key x hs with hk|hk
  · exact ziZ h hk hx
  · exact zzc h hk hx
theorem zmv {k y r:List UInt8} {c:UInt8} (hne:k≠[]) (hk:∀ x∈k,x∉sgs) (hc:c∈sgs):k++y≠c::r:=by
  cases k with
  |nil => exact absurd rfl hne
  |cons a k =>
    intro h
    simp at h
    exact hk a (by simp) (h.1▸hc)
theorem zJU {s:ByteArray} (h:lbB s=true):s.data.toList≠[]:=fun h0=>by
  have:=(zcZ h).1
  rw [<- zoQ,h0] at this
  simp at this
theorem zKB {s:ByteArray} (h:unB s=true):s.data.toList≠[]:=fun h0=>by
  have:=ztt h
  rw [<- zoQ,h0] at this
  simp at this
theorem zCA {k:Int} {key val:ByteArray} {n:Int} {l:Nat} (h:zkZ k key val n l=0) (hk:4<=k):key=emS/\val=emS/\n=0:=by
  unfold zkZ at h
  split at h
  · omega
  split at h
  · omega
  split at h
  · omega
  rename_i a
  refine ⟨Classical.byContradiction fun h1=>a (.inl ⟨hk,h1⟩),Classical.byContradiction fun h1=>a (.inr (.inl ⟨by omega,h1⟩)),Classical.byContradiction fun h1=>a (.inr (.inr ⟨by omega,h1⟩))⟩
theorem nod1 (k:Int) (key val:ByteArray) (n:Int):nod (.mk k key val n [])=1:=by simp [nod,zmC]
theorem zm9 {t:AT} (h:zeL t=0) :
    (∃ key,t=.mk 1 key emS 0 []/\lbB key=true/\txt t=63::key.data.toList) \/
    (∃ key val,t=.mk 2 key val 0 []/\lbB key=true/\lbB val=true/\txt t=key.data.toList++61::val.data.toList) \/
    (∃ key n,t=.mk 3 key emS n []/\unB key=true/\0<=n/\n<=1099511627776/\txt t=key.data.toList++62::61::Lib.itoa n) \/
    (∃ x,t=.mk 4 emS emS 0 [x]/\zeL x=0/\txt t=33::txt x/\nod t=1+nod x) \/
    (∃ k x y,(k=5\/k=6)/\t=.mk k emS emS 0 [x,y]/\zeL x=0/\zeL y=0/\txt t=40::(txt x++(if k=5 then 38 else 124)::(txt y++[41]))/\nod t=1+nod x+nod y):=by
  cases t with
  |mk k key val n xs =>
  have h1:zkZ k key val n xs.length=0:=(zgU h).1
  rcases zoO h with ⟨rfl,x,rfl,hx⟩|⟨hk,x,y,rfl,hx,hy⟩|⟨hk1,hk4,rfl⟩
  · obtain ⟨rfl,rfl,rfl⟩:=zCA h1 (by omega)
    exact .inr (.inr (.inr (.inl ⟨x,rfl,hx,txt4 _ _ _ _,by simp [nod,zmC]⟩)))
  · obtain ⟨rfl,rfl,rfl⟩:=zCA h1 (by omega)
    exact .inr (.inr (.inr (.inr ⟨k,x,y,hk,rfl,hx,hy,zKA hk _ _ _ _ _,by simp [nod,zmC]; omega⟩)))
  · rcases zwD h hk4 with ⟨rfl,a,rfl,rfl⟩|⟨rfl,a,b,rfl⟩|⟨rfl,a,rfl,c,d⟩
    · exact .inl ⟨key,rfl,a,txt1 _ _ _ _⟩
    · exact .inr (.inl ⟨key,val,rfl,a,b,txt2 _ _ _ _⟩)
    · exact .inr (.inr (.inl ⟨key,n,rfl,a,c,d,txt3 _ _ _ _⟩))
theorem zF7 {rb b0:Nat} {w w' w'':World} (h:Fr (·=rb) w w') (hb:w.heap.size<=b0) (x:zag [b0] [] w' w''):Fr (·=rb) w w'' :=
  h.trans (S':=fun b=>b=b0) (zbD x (by intro d hd; simp at hd; exact .inl hd)) fun b hb'=>.inr (hb'▸hb)
theorem RD.b {B:Nat} {w w':World} {rb b0:Nat} {l:List UInt8} {left:Nat} (o:RD B w rb l left) (hb:b0≠rb) (x:zag [b0] [] w w'):RD B w' rb l left :=
  RD.fr (S:=fun b=>b=b0) o (zbD x (by intro d hd; simp at hd; exact .inl hd)) fun h=>hb h.symm
theorem zi1 {rb:Nat} {w w':World} {ns:List Nat} (h:Fr (·=rb) w w') (hn:∀ b∈ns,b<w.heap.size/\b≠rb):zbM ns w w':=h.kept hn
structure Post (B rb:Nat) (l:List UInt8) (left:Nat) (w:World) (t:AT) (p:Option Addr) (c:Nat) (ok:Bool) (w':World) (l':List UInt8) (left':Nat) (used:Nat):Prop where
  fr:Fr (·=rb) w w'
  rd:RD B w' rb l' left'
  len:l'.length<=l.length
  le:left'<=left
  good:ok=true->WfA t/\nod t+left'=left+used/\∀ S:Nat->Prop,(∀ b,S b->b<w.heap.size)->∀ w'',Fr S w' w''->IsT w'' t p c
def zBr (B rb:Nat) (l:List UInt8) (left:Nat) (w:World) (t:AT) (p:Option Addr) (c:Nat) (ok:Bool) (w':World):Prop :=
  ∃ l' left',Post B rb l left w t p c ok w' l' left' 0/\∀ t0 zav,zeL t0=0->nod t0<=left->l=txt t0++zav->sep zav->asc l->ok=true/\t=t0/\l'=zav
def zBP (B rb:Nat) (l:List UInt8) (left:Nat) (w:World) (t:AT) (p:Option Addr) (c:Nat) (ok:Bool) (w':World):Prop :=
  ∃ l' left',Post B rb l left w t p c ok w' l' left' 1/\∀ (k:Int) (x y:AT) zav,(k=5\/k=6)->zeL x=0->zeL y=0->nod x+nod y<=left->l=txt x++(if k=5 then 38 else 124)::(txt y++41::zav)->asc l->ok=true/\t=.mk k emS emS 0 [x,y]/\l'=zav
def AskC (n:Nat):Prop:=∀ (W0 w:World) (B rb left:Nat) (l:List UInt8),(left<=n/\left<=60)->GB W0->Ext W0 w->W0.heap.size<=rb->RD B w rb l left->l.length<=2000 ->
  FnP Tryz.prog za7 #[rp rb] w fun v w'=>∃ t p c ok,v=.tuple #[av t p c,.bool ok]/\zBr B rb l left w t p c ok w'
def TwoC (n:Nat):Prop:=∀ (W0 w:World) (B rb left:Nat) (l:List UInt8),(left<=n/\left<=60)->GB W0->Ext W0 w->W0.heap.size<=rb->RD B w rb l left->l.length<=2000 ->
  FnP Tryz.prog zeN #[rp rb] w fun v w'=>∃ t p c ok,v=.tuple #[av t p c,.bool ok]/\zBP B rb l left w t p c ok w'
theorem zsa {a b:List UInt8} (h:asc (a++b)):asc b:=fun x hx=>h x (List.mem_append_right _ hx)
theorem zhx {a:UInt8} {b:List UInt8} (h:asc (a::b)):asc b:=fun x hx=>h x (List.mem_cons_of_mem _ hx)
theorem zx6 {k:Int} (hk:0<=k/\k<=100) {a b:List UInt8} (ha:a.length<=2000) (hb:b.length<=2000) {n:Int} (hn:InR .i64 n):WfA (.mk k (ofL a) (ofL b) n []):=by
  unfold WfA
  exact ⟨i64 (by omega),by rw [zat]; omega,by rw [zat]; omega,hn,by simp,by unfold WfL; trivial⟩
theorem zok {w:World} {k:Int} {key val:ByteArray} {n:Int} {p:Option Addr} {c:Nat}:IsT w (.mk k key val n []) p c:=by
  unfold IsT
  exact ⟨Nat.zero_le _,by unfold IsL; trivial⟩
theorem two_k (n:Nat) (hA:AskC n):TwoC n:=by
  intro W0 w B rb left l hn g h0 hrb o hl
  refine zmF _ w _ fun b0 hb0 w1 x1=>?_
  have hlt:=o.lt
  have hb0r:b0≠rb:=by omega
  have h1:=zaa x1
  have o1:=Own.ext o h1
  refine (hA W0 w1 B rb left l hn g (h0.trans h1) hrb o1 hl).mono fun v w2 ⟨x,px,cx,ok1,hv,l2,left2,P2,C2⟩=>⟨zi1 P2.fr (by intro b hb; simp at hb; subst hb; exact ⟨x1.lt _ (by simp),hb0r⟩),x.k,x.key,x.val,x.n,px,x.xs.length,cx,ok1,hv,fun b11 hb11=>⟨fun hno w12 x12=>?_,fun hok w12 x12=>?_⟩⟩
  · refine ⟨zjn,none,0,false,rfl,l2,left2,⟨zF7 ((zac h1).tr P2.fr) hb0 x12,RD.b P2.rd hb0r x12,P2.len,P2.le,fun h=>by cases h⟩,fun k a b zav hk ha hb hnod he hasc=>?_⟩
    have:=C2 a _ ha (by omega) he (by split<;>exact zfd (by decide)) hasc
    rw [hno] at this
    exact absurd this.1 (by simp)
  subst hok
  obtain ⟨hWx,hnx,hTx⟩:=P2.good rfl
  have f2:Fr (·=rb) w w2:=(zac h1).tr P2.fr
  have h12:=zaa x12
  have hb2:rb<w2.heap.size:=P2.rd.lt
  have hb0w:b0<w1.heap.size:=x1.lt b0 (by simp)
  have s12:w1.heap.size<=w2.heap.size:=P2.fr.size
  have hns:∀ b∈[b0,b11],b<w12.heap.size/\b≠rb:=by
    intro b hb
    refine ⟨x12.lt b hb,?_⟩
    simp at hb
    rcases hb with rfl|rfl
    · exact hb0r
    · omega
  have tail:∀ (k:Int) (w15:World),(k=5\/k=6)->∀ (l4:List UInt8),Fr (·=rb) w2 w15->RD B w15 rb l4 left2->b0<w15.heap.size->b11<w15.heap.size->l4.length<=l2.length ->
      (∀ (k':Int) (a b:AT) zav,(k'=5\/k'=6)->zeL a=0->zeL b=0->nod a+nod b<=left->l=txt a++(if k'=5 then 38 else 124)::(txt b++41::zav)->asc l->k'=k/\x=a/\l4=txt b++41::zav) ->
      FnP Tryz.prog za7 #[rp rb] w15 fun v w16=>zbM [b0,b11] w15 w16/\∃ y py cy ok2,v=.tuple #[av y py cy,.bool ok2]/\∀ b25:Nat,w16.heap.size<=b25 ->
        ∃ (J:Bool->Int->ByteArray->ByteArray->Int->Option Addr->Nat->Nat->World->Prop),
          (∀ w34,zag [] [b0,b11,b25] w16 w34->Run Tryz.prog (.buildSlice zcj 2 [(0,av x px cx),(1,av y py cy)]) w34 fun v35 w35=>Ext w34 w35/\∃ t36:Option Addr,∃ tl37:Nat,∃ tc38:Nat,v35=(.slice t36 tl37 tc38) /\
            ((ok2=true->∀ w39,zag [] [b0,b11,b25] w35 w39->FnP Tryz.prog zaf #[rp rb,.int .u8 41] w39 fun v40 w40=>zbM [b0,b11,b25] w39 w40/\∃ t41:Bool,v40=.bool t41/\J t41 k (⟨#[]⟩:ByteArray) (⟨#[]⟩:ByteArray) 0 t36 tl37 tc38 w40)/\(ok2=false->J false k (⟨#[]⟩:ByteArray) (⟨#[]⟩:ByteArray) 0 t36 tl37 tc38 w35))) /\
          (ok2=true->∀ w34,zag [] [b0,b11,b25] w16 w34->FnP Tryz.prog zaf #[rp rb,.int .u8 41] w34 fun v35 w35=>zbM [b0,b11,b25] w34 w35/\∃ t36:Bool,v35=.bool t36 /\
            ∀ w37,zag [] [b0,b11,b25] w35 w37->Run Tryz.prog (.buildSlice zcj 2 [(0,av x px cx),(1,av y py cy)]) w37 fun v38 w38=>Ext w37 w38/\∃ t39:Option Addr,∃ tl40:Nat,∃ tc41:Nat,v38=(.slice t39 tl40 tc41)/\J t36 k (⟨#[]⟩:ByteArray) (⟨#[]⟩:ByteArray) 0 t39 tl40 tc41 w38) /\
          (ok2=false->∀ w34,zag [] [b0,b11,b25] w16 w34->Run Tryz.prog (.buildSlice zcj 2 [(0,av x px cx),(1,av y py cy)]) w34 fun v35 w35=>Ext w34 w35/\∃ t36:Option Addr,∃ tl37:Nat,∃ tc38:Nat,v35=(.slice t36 tl37 tc38)/\J false k (⟨#[]⟩:ByteArray) (⟨#[]⟩:ByteArray) 0 t36 tl37 tc38 w35) /\
          (∀ ok kk key val nn q ql qc w33,J ok kk key val nn q ql qc w33->∀ w34,zag [b0] [] w33 w34->∃ t p c ok',Value.tuple #[.agg #[.int .i64 kk,.string key,.string val,.int .i64 nn,.slice q ql qc],.bool ok]=.tuple #[av t p c,.bool ok']/\zBP B rb l left w t p c ok' w34):=by
    intro k w15 hk l4 f15 o15 hb015 hb1115 hl4 hC
    have hl2:=P2.len
    have ext15:Ext W0 w15:=(f2.tr f15).ext h0 (by intro b hb; omega)
    have hle2:=P2.le
    refine (hA W0 w15 B rb left2 l4 (by omega) g ext15 hrb o15 (by omega)).mono fun v w16 ⟨y,py,cy,ok2,hv,l5,left5,P5,C5⟩=>⟨zi1 P5.fr (by intro b hb; simp at hb; rcases hb with rfl|rfl; (· exact ⟨hb015,hb0r⟩); exact ⟨hb1115,by omega⟩),y,py,cy,ok2,hv,fun b25 hb25=>?_⟩
    have f16:Fr (·=rb) w w16:=(f2.tr f15).tr P5.fr
    have hrb16:rb<w16.heap.size:=P5.rd.lt
    have sz2:w2.heap.size<=w15.heap.size:=f15.size
    have sz5:w15.heap.size<=w16.heap.size:=P5.fr.size
    have szw:w.heap.size<=w2.heap.size:=f2.size
    have hnb:∀ (w':World),(∀ b∈[b0,b11,b25],b<w'.heap.size)->∀ b∈[b0,b11,b25],b<w'.heap.size/\b≠rb:=by
      intro w' h b hb
      refine ⟨h b hb,?_⟩
      simp at hb
      rcases hb with rfl|rfl|rfl<;>omega
    have built:∀ (w35 w36:World) (q:Option Addr) (qc:Nat),Fr (·=rb) w16 w35->Own w16.heap.size w35 zdB 5 q 2 qc (zog x px cx++zog y py cy)->Fr (fun b=>b=rb) w35 w36 ->
        ok2=true->∀ S:Nat->Prop,(∀ b,S b->b<w.heap.size)->∀ w'',Fr (fun b=>S b\/b=b0) w36 w''->IsT w'' (.mk k emS emS 0 [x,y]) q qc:=by
      intro w35 w36 q qc fa ow fb hok2 S hS w'' fc
      subst hok2
      obtain ⟨hWy,hny,hTy⟩:=P5.good rfl
      have fall:Fr (fun b=>b=rb\/S b\/b=b0) w16 w'':=((fa.tr fb).mono fun b hb=>.inl hb).tr (fc.mono fun b hb=>.inr hb)
      have bnd:∀ b,(b=rb\/S b\/b=b0)->b<w1.heap.size:=by
        intro b hb
        have:=h1.size
        rcases hb with rfl|hb|rfl
        · omega
        · have:=hS b hb; omega
        · exact hb0w
      have tx:IsT w'' x px cx:=hTx _ bnd w'' ((f15.mono fun b hb=>.inl hb).tr ((P5.fr.mono fun b hb=>.inl hb).tr fall))
      have ty:IsT w'' y py cy:=hTy _ (fun b hb=>by have:=bnd b hb; omega) w'' fall
      unfold IsT
      have hle:=ow.le
      refine ⟨by simpa using hle.1,zxe (l:=[(x,px,cx),(y,py,cy)]) (fun j u hu=>?_) (by intro z hz; simp at hz; rcases hz with rfl|rfl<;>assumption)⟩
      have hcell:Go.Sx.cell w35 q j=some u:=ow.cells j u (by simpa using hu)
      have hq:∀ a,q=some a->¬ (a.block=rb\/S a.block\/a.block=b0):=fun a ha hb=>by
        have:=(ow.lt a ha).1
        have:=bnd _ hb
        omega
      have:=zdN hcell ((fb.mono fun b hb=>.inl hb).tr (fc.mono fun b hb=>.inr hb):Fr (fun b=>b=rb\/S b\/b=b0) w35 w'') hq
      simpa using this
    refine ⟨fun ok kk key val nn q ql qc w'=>(kk=k/\key=(⟨#[]⟩:ByteArray)/\val=(⟨#[]⟩:ByteArray)/\nn=0)/\ql=2/\Fr (·=rb) w16 w'/\∃ l6,RD B w' rb l6 left5/\l6.length<=l5.length/\(ok=true->ok2=true/\∀ S:Nat->Prop,(∀ b,S b->b<w.heap.size)->∀ w'',Fr (fun b=>S b\/b=b0) w' w''->IsT w'' (.mk k emS emS 0 [x,y]) q qc)/\(∀ zav,l5=41::zav->ok2=true->ok=true/\l6=zav),?_,?_,?_,?_⟩
    · intro w34 x34
      have h34:=zaa x34
      refine zcD zfw [av x px cx,av y py cy] rfl rfl (by intro v hv; simp at hv; rcases hv with rfl|rfl<;>rfl) (by omega) (by omega) fun w35 o35 e35=>⟨e35,_,_,_,rfl,fun hok2 w39 x39=>?_,fun hok2=>?_⟩
      · have h39:=zaa x39
        have ow:Own w16.heap.size w39 zdB 5 (some ⟨w34.heap.size,0,none⟩) 2 2 (zog x px cx++zog y py cy):=(by simpa [Value.cells,zog] using (o35 w16.heap.size h34.size)) |> fun o=>Own.ext o h39
        refine (zka (Own.ext (Own.ext (Own.ext P5.rd h34) e35) h39) (by have:=P5.len; omega) 41 41 rfl).mono fun v w40 ⟨f40,hor⟩=>⟨zi1 f40 (hnb w39 x39.lt),?_⟩
        have fa:Fr (·=rb) w16 w39:=zac ((h34.trans e35).trans h39)
        rcases hor with ⟨r,hr,hv,o40⟩|⟨hr,hv,o40⟩
        · exact ⟨true,hv,⟨rfl,rfl,rfl,rfl⟩,rfl,fa.tr f40,r,o40,by rw [hr]; simp,fun _=>⟨hok2,built w39 w40 _ _ fa ow f40 hok2⟩,fun zav he _=>⟨rfl,by rw [hr] at he; simpa using he⟩⟩
        · exact ⟨false,hv,⟨rfl,rfl,rfl,rfl⟩,rfl,fa.tr f40,l5,o40,Nat.le_refl _,fun h=>(by cases h),fun zav he _=>absurd he (hr zav)⟩
      · exact ⟨⟨rfl,rfl,rfl,rfl⟩,rfl,zac (h34.trans e35),l5,Own.ext (Own.ext P5.rd h34) e35,Nat.le_refl _,fun h=>(by cases h),fun zav he hb=>(by rw [hok2] at hb; cases hb)⟩
    · intro hok2 w34 x34
      have h34:=zaa x34
      refine (zka (Own.ext P5.rd h34) (by have:=P5.len; omega) 41 41 rfl).mono fun v w35 ⟨f35,hor⟩=>⟨zi1 f35 (hnb w34 x34.lt),?_⟩
      have fa:Fr (·=rb) w16 w35:=(zac h34).tr f35
      have body:∀ (t36:Bool) (l6:List UInt8),RD B w35 rb l6 left5->l6.length<=l5.length->(∀ zav,l5=41::zav->ok2=true->t36=true/\l6=zav)->∀ w37,zag [] [b0,b11,b25] w35 w37->Run Tryz.prog (.buildSlice zcj 2 [(0,av x px cx),(1,av y py cy)]) w37 fun v38 w38=>Ext w37 w38/\∃ t39:Option Addr,∃ tl40:Nat,∃ tc41:Nat,v38=(.slice t39 tl40 tc41) /\
          ((k=k/\(⟨#[]⟩:ByteArray)=(⟨#[]⟩:ByteArray)/\(⟨#[]⟩:ByteArray)=(⟨#[]⟩:ByteArray)/\(0:Int)=0)/\tl40=2/\Fr (·=rb) w16 w38/\∃ l6,RD B w38 rb l6 left5/\l6.length<=l5.length/\(t36=true->ok2=true/\∀ S:Nat->Prop,(∀ b,S b->b<w.heap.size)->∀ w'',Fr (fun b=>S b\/b=b0) w38 w''->IsT w'' (.mk k emS emS 0 [x,y]) t39 tc41)/\(∀ zav,l5=41::zav->ok2=true->t36=true/\l6=zav)):=by
        intro t36 l6 o6 hl6 hr6 w37 x37
        have h37:=zaa x37
        refine zcD zfw [av x px cx,av y py cy] rfl rfl (by intro v hv; simp at hv; rcases hv with rfl|rfl<;>rfl) (by omega) (by omega) fun w38 o38 e38=>⟨e38,_,_,_,rfl,⟨rfl,rfl,rfl,rfl⟩,rfl,fa.tr (zac (h37.trans e38)),l6,Own.ext (Own.ext o6 h37) e38,hl6,fun _=>⟨hok2,?_⟩,hr6⟩
        have ow:Own w16.heap.size w38 zdB 5 (some ⟨w37.heap.size,0,none⟩) 2 2 (zog x px cx++zog y py cy):=by simpa [Value.cells,zog] using (o38 w16.heap.size (Nat.le_trans fa.size h37.size))
        exact built w38 w38 _ _ (fa.tr (zac (h37.trans e38))) ow (Fr.refl _ _) hok2
      rcases hor with ⟨r,hr,hv,o40⟩|⟨hr,hv,o40⟩
      · exact ⟨true,hv,body true r o40 (by rw [hr]; simp) fun zav he _=>⟨rfl,by rw [hr] at he; simpa using he⟩⟩
      · exact ⟨false,hv,body false l5 o40 (Nat.le_refl _) fun zav he _=>absurd he (hr zav)⟩
    · intro hok2 w34 x34
      have h34:=zaa x34
      refine zcD zfw [av x px cx,av y py cy] rfl rfl (by intro v hv; simp at hv; rcases hv with rfl|rfl<;>rfl) (by omega) (by omega) fun w35 o35 e35=>⟨e35,_,_,_,rfl,⟨rfl,rfl,rfl,rfl⟩,rfl,zac (h34.trans e35),l5,Own.ext (Own.ext P5.rd h34) e35,Nat.le_refl _,fun h=>(by cases h),fun zav he hb=>(by rw [hok2] at hb; cases hb)⟩
    · rintro ok kk key val nn q ql qc w33 ⟨⟨rfl,rfl,rfl,rfl⟩,rfl,f33,l6,o6,hl6,hgood,hrest⟩ w34 x34
      have hlen5:=P5.len
      have hle5:=P5.le
      refine ⟨.mk _ emS emS 0 [x,y],q,qc,ok,rfl,l6,left5,⟨zF7 (f16.tr f33) hb0 x34,RD.b o6 hb0r x34,by omega,by omega,fun hok=>?_⟩,fun k' a b zav hk' ha hb hnod he hasc=>?_⟩
      · obtain ⟨hok2,hT⟩:=hgood hok
        obtain ⟨hWy,hny,_⟩:=P5.good hok2
        refine ⟨zH8 (by omega) (by simp) (by intro z hz; simp at hz; rcases hz with rfl|rfl<;>assumption),by simp only [nod,zmC]; omega,fun S hS w'' fw=>hT S hS w'' ?_⟩
        exact (zbD x34 (by intro d hd; simp at hd; exact .inl (.inr hd))).tr (fw.mono fun b hb=>.inl hb)
      · obtain ⟨rfl,rfl,hl4'⟩:=hC k' a b zav hk' ha hb hnod he hasc
        have hasc4:asc l4:=by
          rw [hl4']
          rw [he] at hasc
          exact zhx (zsa hasc)
        obtain ⟨h5,rfl,hl5⟩:=C5 b (41::zav) hb (by omega) hl4' (zfd (by decide)) hasc4
        obtain ⟨hk1,hk2⟩:=hrest zav hl5 h5
        exact ⟨hk1,rfl,hk2⟩
  refine (zka (Own.ext P2.rd h12) (by have:=P2.len; omega) 124 124 rfl).mono fun v w13 ⟨f13,hor⟩=>⟨zi1 f13 hns,?_⟩
  have szn:w12.heap.size<=w13.heap.size:=f13.size
  have bnd13:∀ b∈[b0,b11],b<w13.heap.size:=fun b hb=>by have:=(hns b hb).1; omega
  rcases hor with ⟨r,hr,hv,o13⟩|⟨hr,hv,o13⟩
  · refine ⟨true,hv,fun _ w15 x15=>?_,fun h=>(by cases h)⟩
    refine (tail 6 w15 (.inr rfl) r (((zac h12).tr f13).tr (zac (zaa x15))) (Own.ext o13 (zaa x15)) (x15.lt _ (by simp)) (x15.lt _ (by simp)) (by rw [hr]; simp) fun k' a b zav hk' ha hb hnod he hasc=>?_).mono fun v w16 ⟨kp,y,py,cy,ok2,hv,hJ⟩=>⟨kp,y.k,y.key,y.val,y.n,py,y.xs.length,cy,ok2,hv,fun b25 hb25=>?_⟩
    · obtain ⟨_,hxa,hl2⟩:=C2 a _ ha (by omega) he (by split<;>exact zfd (by decide)) hasc
      rw [hr] at hl2
      simp only [List.cons.injEq] at hl2
      refine ⟨?_,hxa,hl2.2⟩
      rcases hk' with rfl|rfl
      · exact absurd hl2.1 (by decide)
      · rfl
    · obtain ⟨J,ja,jb,jc,jd⟩:=hJ b25 hb25
      refine ⟨J,?_,jd⟩
      repeat' (first|exact ja|exact jb|exact jc|apply And.intro)
  · refine ⟨false,hv,fun h=>(by cases h),fun _ w15 x15=>?_⟩
    have h15:=zaa x15
    have hns15:∀ b∈[b0,b11],b<w15.heap.size/\b≠rb:=fun b hb=>⟨x15.lt b hb,(hns b hb).2⟩
    refine (zka (Own.ext o13 h15) (by have:=P2.len; omega) 38 38 rfl).mono fun v w16 ⟨f16,hor⟩=>⟨zi1 f16 hns15,?_⟩
    rcases hor with ⟨r,hr2,hv,o16⟩|⟨hr2,hv,o16⟩
    · refine ⟨true,hv,fun h=>(by cases h),fun _ w18 x18=>?_⟩
      refine (tail 5 w18 (.inl rfl) r ((((zac h12).tr f13).tr (zac h15)).tr (f16.tr (zac (zaa x18)))) (Own.ext o16 (zaa x18)) (x18.lt _ (by simp)) (x18.lt _ (by simp)) (by rw [hr2]; simp) fun k' a b zav hk' ha hb hnod he hasc=>?_).mono fun v w19 ⟨kp,y,py,cy,ok2,hv,hJ⟩=>⟨kp,y.k,y.key,y.val,y.n,py,y.xs.length,cy,ok2,hv,fun b25 hb25=>?_⟩
      · obtain ⟨_,hxa,hl2⟩:=C2 a _ ha (by omega) he (by split<;>exact zfd (by decide)) hasc
        rw [hr2] at hl2
        simp only [List.cons.injEq] at hl2
        refine ⟨?_,hxa,hl2.2⟩
        rcases hk' with rfl|rfl
        · rfl
        · exact absurd hl2.1 (by decide)
      · obtain ⟨J,ja,jb,jc,jd⟩:=hJ b25 hb25
        refine ⟨J,?_,jd⟩
        repeat' (first|exact ja|exact jb|exact jc|apply And.intro)
    · refine ⟨false,hv,fun _ w18 x18=>?_,fun h=>(by cases h)⟩
      refine ⟨zjn,none,0,false,rfl,l2,left2,⟨zF7 ((f2.tr ((zac h12).tr f13)).tr ((zac h15).tr f16)) hb0 x18,RD.b o16 hb0r x18,P2.len,P2.le,fun h=>(by cases h)⟩,fun k a b zav hk ha hb hnod he hasc=>?_⟩
      obtain ⟨_,_,hl2⟩:=C2 a _ ha (by omega) he (by split<;>exact zfd (by decide)) hasc
      rcases hk with rfl|rfl
      · exact absurd hl2 (hr2 _)
      · exact absurd hl2 (hr _)
theorem zJu {P:Program} {t:TypeId} {m:Array (String×TypeId)} (ht:P.underlying t=some (.interface m)) {v:Value} (hv:isErr v) {cx:Bool} {w:World} {K:Value->World->Prop} (hk:∀ b:Bool,(b=true↔v=.nilIface)->K (.bool b) w):Run P (.eq .eql t cx true v .nilIface) w K:=by
  have hb:∀ x:Value,∀ r:Bool,(Op.equal t x .nilIface).run P w=.ok r w->(eqGuard .eql t (opd cx) (opd true) x .nilIface).run P w=.ok () w->binOp .eql t x .nilIface=(do pure (.bool (<- Op.equal t x .nilIface)))->(MC.sem (.eq .eql t cx true x .nilIface)).run P w=.ok (.bool r) w:=fun x r h1 h2 h3=>by
    show (do eqGuard .eql t (opd cx) (opd true) x .nilIface; binOp .eql t x .nilIface:Sem Value).run P w=_
    rw [Sem.run_bind,h2,Result.andThen_ok,h3,Sem.run_bind,h1,Result.andThen_ok,Sem.run_pure]
  rcases hv with rfl|⟨a,b,rfl⟩
  · exact ⟨_,w,hb _ true (zkq 9999 ht w) (by cases cx<;>rfl) rfl,hk true (by simp)⟩
  · exact ⟨_,w,hb _ false (zkp 9999 ht a b w) (by cases cx<;>rfl) rfl,hk false (by simp)⟩
theorem zCz {P:Program} {t:TypeId} (ht:zuB P t=true) {v:Value} (hv:isErr v) {cx:Bool} {w:World} {K:Value->World->Prop} (hk:∀ b:Bool,(b=true↔v=.nilIface)->K (.bool b) w):Run P (.eq .eql t cx true v .nilIface) w K:=by
  unfold zuB at ht
  split at ht
  · rename_i m h; exact zJu h hv hk
  · cases ht
theorem zDq (t:AT):1<=nod t:=by cases t; simp [nod]
theorem ask_k:∀ n,AskC n:=by
  intro n
  induction n with
  |zero =>
    intro W0 w B rb left l hn g h0 hrb o hl
    obtain rfl:left=0:=by omega
    obtain ⟨_,g1⟩:=o.cells
    refine zg0 _ w _ fun b0 hb0=>⟨by simp,by simp,_,g1,fun _ w2 h2=>⟨zjn,none,0,false,rfl,l,0,⟨zac h2,Own.ext o h2,Nat.le_refl _,Nat.le_refl _,fun h=>(by cases h)⟩,fun t0 zav h1 h3=>absurd (zDq t0) (by omega)⟩,fun h=>absurd rfl h⟩
  |succ n ih =>
    intro W0 w B rb left l hn g h0 hrb o hl
    obtain ⟨_,g1⟩:=o.cells
    have hlt:=o.lt
    refine zg0 _ w _ fun b0 hb0=>⟨by simp,by simp,_,g1,fun hz w2 h2=>?_,fun hne=>⟨by simp,by simp,_,g1,i64 (by omega),by simp,by simp,?_⟩⟩
    · obtain rfl:left=0:=by omega
      exact ⟨zjn,none,0,false,rfl,l,0,⟨zac h2,Own.ext o h2,Nat.le_refl _,Nat.le_refl _,fun h=>(by cases h)⟩,fun t0 zav h1 h3=>absurd (zDq t0) (by omega)⟩
    have hb0r:b0≠rb:=by omega
    refine o.left hb0r (m:=left-1) (by omega) fun w3 o3 f3 w4 x4=>?_
    have h4:=zaa x4
    have hk:∀ (w' w'':World),b0<w'.heap.size->Fr (·=rb) w' w''->zbM [b0] w' w'':=fun w' w'' hb f=>zi1 f (by intro b hb'; simp at hb'; subst hb'; exact ⟨hb,hb0r⟩)
    have f4:Fr (·=rb) w w4:=f3.tr (zac h4)
    have no:∀ (w' w'':World) (l':List UInt8),Fr (·=rb) w w'->RD B w' rb l' (left-1)->l'.length<=l.length->zag [b0] [] w' w''->(∀ t0 zav,zeL t0=0->nod t0<=left->l=txt t0++zav->sep zav->asc l->False) ->
        zBr B rb l left w zjn none 0 false w'':=fun w' w'' l' f o' hl' x hno =>
      ⟨l',left-1,⟨zF7 f hb0 x,RD.b o' hb0r x,hl',by omega,fun h=>(by cases h)⟩,fun t0 zav h1 h2 h3 h5 h6=>(hno t0 zav h1 h2 h3 h5 h6).elim⟩
    refine (zka (Own.ext o3 h4) hl 63 63 rfl).mono fun v w5 ⟨f5,hor⟩=>⟨hk _ _ (x4.lt _ (by simp)) f5,?_⟩
    have F5:=f4.tr f5
    have sz5:=f5.size
    have hb4:b0<w4.heap.size:=x4.lt _ (by simp)
    rcases hor with ⟨r,hr,hv,o5⟩|⟨hr,hv,o5⟩
    · -- a key that is there
      refine ⟨true,hv,fun _ w7 x7=>?_,fun h=>(by cases h)⟩
      have h7:=zaa x7
      have hrl:r.length<=2000:=by rw [hr] at hl; simp at hl; omega
      refine (zz5 (Own.ext o5 h7) hrl).mono fun v w8 ⟨f8,a,b,hv,hab,o8,hC⟩=>⟨hk _ _ (x7.lt _ (by simp)) f8,_,hv,fun w10 x10=>?_⟩
      have hla:a.length+b.length=r.length:=by rw [hab]; simp
      refine ⟨.mk 1 (ofL a) (ofL []) 0 [],none,0,true,rfl,b,left-1,⟨zF7 ((F5.tr (zac h7)).tr f8) hb0 x10,RD.b o8 hb0r x10,by rw [hr]; simp; omega,by omega,fun _=>⟨zx6 (by omega) (by omega) (by simp) (i64 (by omega)),by rw [nod1]; omega,fun S hS w'' _=>zok⟩⟩,fun t0 zav he hnod hl0 hsep hasc=>?_⟩
      rw [hr] at hl0 hasc
      rcases zm9 he with ⟨key,rfl,hkey,ht⟩|⟨key,val,rfl,hkey,hval,ht⟩|⟨key,m,rfl,hkey,_,_,ht⟩|⟨x,rfl,hx,ht,_⟩|⟨k,x,y,hk',rfl,hx,hy,ht,_⟩
      · rw [ht] at hl0
        simp only [List.cons_append,List.cons.injEq,true_and] at hl0
        obtain ⟨rfl,rfl⟩:=hC _ _ hl0 (zhx hasc) (zph hkey) hsep
        refine ⟨rfl,?_,rfl⟩
        rw [zb8]; rfl
      · rw [ht,List.append_assoc] at hl0
        exact absurd hl0.symm (zmv (zJU hkey) (zph hkey) (by decide))
      · rw [ht,List.append_assoc] at hl0
        exact absurd hl0.symm (zmv (zKB hkey) (zvQ hkey) (by decide))
      · rw [ht] at hl0; simp at hl0
      · rw [ht] at hl0; simp at hl0
    refine ⟨false,hv,fun h=>(by cases h),fun _ w7 x7=>?_⟩
    have h7:=zaa x7
    refine (zka (Own.ext o5 h7) hl 33 33 rfl).mono fun v w8 ⟨f8,hor⟩=>⟨hk _ _ (x7.lt _ (by simp)) f8,?_⟩
    have F8:=(F5.tr (zac h7)).tr f8
    have ext8:Ext W0 w8:=F8.ext h0 (by intro b hb; omega)
    have hb7:b0<w7.heap.size:=x7.lt _ (by simp)
    have sz8:=f8.size
    rcases hor with ⟨r,hr2,hv,o8⟩|⟨hr2,hv,o8⟩
    · -- what is not
      refine ⟨true,hv,fun _ w10 x10=>?_,fun h=>(by cases h)⟩
      have h10:=zaa x10
      have hrl:r.length+1=l.length:=by rw [hr2]; simp
      refine (ih W0 w10 B rb (left-1) r (by omega) g (ext8.trans h10) hrb (Own.ext o8 h10) (by omega)).mono fun v w11 ⟨y,py,cy,ok2,hv,l2,left2,P2,C2⟩=>⟨hk _ _ (x10.lt _ (by simp)) P2.fr,y.k,y.key,y.val,y.n,py,y.xs.length,cy,ok2,hv,fun b20 hb20 w21 x21=>?_⟩
      have h21:=zaa x21
      have hlen2:=P2.len
      have hle2:=P2.le
      refine zcD zfw [av y py cy] rfl rfl (by intro v hv; simp at hv; subst hv; rfl) (by omega) (by omega) fun w22 o22 e22=>⟨e22,_,_,_,rfl,fun w26 x26=>?_⟩
      have F22:Fr (·=rb) w w22:=((F8.tr (zac h10)).tr P2.fr).tr (zac (h21.trans e22))
      refine ⟨.mk 4 emS emS 0 [y],some ⟨w21.heap.size,0,none⟩,1,ok2,rfl,l2,left2,⟨zF7 F22 hb0 x26,RD.b (Own.ext (Own.ext P2.rd h21) e22) hb0r x26,by omega,by omega,fun hok=>?_⟩,fun t0 zav he hnod hl0 hsep hasc=>?_⟩
      · obtain ⟨hWy,hny,hTy⟩:=P2.good hok
        refine ⟨zH8 (by omega) (by simp) (by intro z hz; simp at hz; subst hz; exact hWy),by simp only [nod,zmC]; omega,fun S hS w'' fw=>?_⟩
        have fb:Fr (fun b=>S b\/b=b0) w22 w'':=(zbD x26 (by intro d hd; simp at hd; exact .inl (.inr hd))).tr (fw.mono fun b hb=>.inl hb)
        have bnd:∀ b,(S b\/b=b0)->b<w10.heap.size:=by
          intro b hb
          have:=x10.lt b0 (by simp)
          have s1:=F8.size
          have s2:=h10.size
          rcases hb with hb|rfl
          · have:=hS b hb; omega
          · exact this
        have ty:IsT w'' y py cy:=hTy _ bnd w'' ((zac (h21.trans e22)).tr fb)
        have sA:=P2.fr.size
        have sB:=h21.size
        unfold IsT
        refine ⟨by simp,zxe (l:=[(y,py,cy)]) (fun j u hu=>?_) (by intro z hz; simp at hz; subst hz; exact ty)⟩
        have hcell:Go.Sx.cell w22 (some ⟨w21.heap.size,0,none⟩) j=some u:=(o22 0 (Nat.zero_le _)).cells j u (by simpa [Value.cells,zog,AT.k,AT.key,AT.val,AT.n,AT.xs] using hu)
        have:=zdN hcell fb (fun a ha hb=>by obtain rfl:=Option.some.inj ha; have:=bnd _ hb; simp only [] at this; omega)
        simpa using this
      · rw [hr2] at hl0 hasc
        rcases zm9 he with ⟨key,rfl,hkey,ht⟩|⟨key,val,rfl,hkey,hval,ht⟩|⟨key,m,rfl,hkey,_,_,ht⟩|⟨x,rfl,hx,ht,hnx⟩|⟨k,x,y',hk',rfl,hx,hy,ht,_⟩
        · rw [ht] at hl0; simp at hl0
        · rw [ht,List.append_assoc] at hl0
          exact absurd hl0.symm (zmv (zJU hkey) (zph hkey) (by decide))
        · rw [ht,List.append_assoc] at hl0
          exact absurd hl0.symm (zmv (zKB hkey) (zvQ hkey) (by decide))
        · rw [ht] at hl0
          simp only [List.cons_append,List.cons.injEq,true_and] at hl0
          obtain ⟨h1,rfl,h3⟩:=C2 x zav hx (by omega) hl0 hsep (zhx hasc)
          exact ⟨h1,rfl,h3⟩
        · rw [ht] at hl0; simp at hl0
    refine ⟨false,hv,fun h=>(by cases h),fun _ w10 x10=>?_⟩
    have h10:=zaa x10
    refine (zka (Own.ext o8 h10) hl 40 40 rfl).mono fun v w11 ⟨f11,hor⟩=>⟨hk _ _ (x10.lt _ (by simp)) f11,?_⟩
    have F11:=(F8.tr (zac h10)).tr f11
    have ext11:Ext W0 w11:=F11.ext h0 (by intro b hb; omega)
    have sz11:=f11.size
    have hb10:b0<w10.heap.size:=x10.lt _ (by simp)
    rcases hor with ⟨r,hr3,hv,o11⟩|⟨hr3,hv,o11⟩
    · -- two of them
      refine ⟨true,hv,fun _ w13 x13=>?_,fun h=>(by cases h)⟩
      have h13:=zaa x13
      have hrl:r.length+1=l.length:=by rw [hr3]; simp
      refine (two_k n ih W0 w13 B rb (left-1) r (by omega) g (ext11.trans h13) hrb (Own.ext o11 h13) (by omega)).mono fun v w14 ⟨y,py,cy,ok2,hv,l2,left2,P2,C2⟩=>⟨hk _ _ (x13.lt _ (by simp)) P2.fr,y.k,y.key,y.val,y.n,py,y.xs.length,cy,ok2,hv,fun w23 x23=>?_⟩
      have hlen2:=P2.len
      have hle2:=P2.le
      have F14:=(F11.tr (zac h13)).tr P2.fr
      refine ⟨y,py,cy,ok2,rfl,l2,left2,⟨zF7 F14 hb0 x23,RD.b P2.rd hb0r x23,by omega,by omega,fun hok=>?_⟩,fun t0 zav he hnod hl0 hsep hasc=>?_⟩
      · obtain ⟨hWy,hny,hTy⟩:=P2.good hok
        refine ⟨hWy,by omega,fun S hS w'' fw=>?_⟩
        refine hTy (fun b=>S b\/b=b0) (fun b hb=>?_) w'' ((zbD x23 (by intro d hd; simp at hd; exact .inl (.inr hd))).tr (fw.mono fun b hb=>.inl hb))
        have:=x13.lt b0 (by simp)
        have s1:=F11.size
        have s2:=h13.size
        rcases hb with hb|rfl
        · have:=hS b hb; omega
        · exact this
      · rw [hr3] at hl0 hasc
        rcases zm9 he with ⟨key,rfl,hkey,ht⟩|⟨key,val,rfl,hkey,hval,ht⟩|⟨key,m,rfl,hkey,_,_,ht⟩|⟨x,rfl,hx,ht,hnx⟩|⟨k,x,y',hk',rfl,hx,hy,ht,hnx⟩
        · rw [ht] at hl0; simp at hl0
        · rw [ht,List.append_assoc] at hl0
          exact absurd hl0.symm (zmv (zJU hkey) (zph hkey) (by decide))
        · rw [ht,List.append_assoc] at hl0
          exact absurd hl0.symm (zmv (zKB hkey) (zvQ hkey) (by decide))
        · rw [ht] at hl0; simp at hl0
        · rw [ht] at hl0
          simp only [List.cons_append,List.cons.injEq,true_and,List.append_assoc,List.nil_append] at hl0
          exact C2 k x y' zav hk' hx hy (by omega) hl0 (zhx hasc)
    refine ⟨false,hv,fun h=>(by cases h),fun _ w13 x13=>?_⟩
    have h13:=zaa x13
    have inv:∀ t0 zav,zeL t0=0->l=txt t0++zav->(∃ key val,t0=.mk 2 key val 0 []/\lbB key=true/\lbB val=true/\l=key.data.toList++61::(val.data.toList++zav))\/(∃ key m,t0=.mk 3 key emS m []/\unB key=true/\0<=m/\m<=1099511627776/\l=key.data.toList++62::61::(Lib.itoa m++zav)):=fun t0 zav he hl0=>by
      rcases zm9 he with ⟨key,rfl,hkey,ht⟩|⟨key,val,rfl,hkey,hval,ht⟩|⟨key,m,rfl,hkey,hm1,hm2,ht⟩|⟨x,rfl,hx,ht,hnx⟩|⟨k,x,y',hk',rfl,hx,hy,ht,hnx⟩
      · rw [ht] at hl0; exact absurd hl0 (hr _)
      · exact .inl ⟨key,val,rfl,hkey,hval,by rw [hl0,ht]; simp⟩
      · exact .inr ⟨key,m,rfl,hkey,hm1,hm2,by rw [hl0,ht]; simp⟩
      · rw [ht] at hl0; exact absurd hl0 (hr2 _)
      · rw [ht] at hl0; exact absurd hl0 (hr3 _)
    refine (zz5 (Own.ext o11 h13) hl).mono fun v w14 ⟨f14,a,b,hv,hab,o14,hC⟩=>⟨hk _ _ (x13.lt _ (by simp)) f14,_,hv,fun w16 x16=>?_⟩
    have hla:a.length+b.length=l.length:=by rw [hab]; simp
    have h16:=zaa x16
    have F14:=(F11.tr (zac h13)).tr f14
    refine (zka (Own.ext o14 h16) (by omega) 62 62 rfl).mono fun v w17 ⟨f17,hor⟩=>⟨hk _ _ (x16.lt _ (by simp)) f17,?_⟩
    have F17:=(F14.tr (zac h16)).tr f17
    rcases hor with ⟨r,hr4,hv,o17⟩|⟨hr4,hv,o17⟩
    · refine ⟨true,hv,fun _ w19 x19=>?_,fun h=>(by cases h)⟩
      have h19:=zaa x19
      have hlr:r.length+1=b.length:=by rw [hr4]; simp
      have inv3:∀ t0 zav,zeL t0=0->l=txt t0++zav->asc l->∃ m,t0=.mk 3 (ofL a) emS m []/\0<=m/\m<=1099511627776/\r=61::(Lib.itoa m++zav):=fun t0 zav he hl0 hasc=>by
        rcases inv t0 zav he hl0 with ⟨key,val,rfl,hkey,hval,h⟩|⟨key,m,rfl,hkey,hm1,hm2,h⟩
        · obtain ⟨_,hb⟩:=hC _ _ h hasc (zph hkey) (zfd (by decide))
          rw [hr4] at hb
          simp at hb
        · obtain ⟨ha,hb⟩:=hC _ _ h hasc (zvQ hkey) (zfd (by decide))
          rw [hr4] at hb
          simp only [List.cons.injEq,true_and] at hb
          exact ⟨m,by rw [ha,zb8],hm1,hm2,hb⟩
      refine (zka (Own.ext o17 h19) (by omega) 61 61 rfl).mono fun v w20 ⟨f20,hor⟩=>⟨hk _ _ (x19.lt _ (by simp)) f20,?_⟩
      have F20:=(F17.tr (zac h19)).tr f20
      rcases hor with ⟨r2,hr5,hv,o20⟩|⟨hr5,hv,o20⟩
      · refine ⟨true,hv,fun h=>(by cases h),fun _ w22 x22=>?_⟩
        have h22:=zaa x22
        have hlr2:r2.length+1=r.length:=by rw [hr5]; simp
        refine (zz5 (Own.ext o20 h22) (by omega)).mono fun v w23 ⟨f23,a2,b2,hv,hab2,o23,hC2⟩=>⟨hk _ _ (x22.lt _ (by simp)) f23,_,hv,fun w25 x25=>?_⟩
        have h25:=zaa x25
        have hla2:a2.length+b2.length=r2.length:=by rw [hab2]; simp
        have F25:=((F20.tr (zac h22)).tr f23).tr (zac h25)
        have ext25:Ext W0 w25:=F25.ext h0 (by intro b hb; omega)
        refine (zjw (ofL a2) (by rw [zat]; omega) w25 (g.ext ext25)).mono fun v w26 ⟨e26,m,ev,hv,hcase⟩=>⟨e26,m,ev,hv,?_⟩
        have F26:=F25.tr (zac e26)
        have o26:=Own.ext (Own.ext o23 h25) e26
        refine ⟨fun ok kk key val nn q ql qc w'=>(kk=3/\key=ofL a/\val=(⟨#[]⟩:ByteArray)/\nn=m/\q=none/\ql=0/\qc=0)/\w'=w26/\(ok=true↔ev=.nilIface),⟨fun w37 h37=>?_,fun w37 x37=>?_⟩,?_⟩
        · exact zCz (by kernel_rfl) (hcase.elim (fun h=>.inl h.1) fun h=>.inr h.1) fun t ht=>⟨Ext.refl _,t,rfl,⟨rfl,rfl,rfl,rfl,rfl,rfl,rfl⟩,rfl,ht⟩
        · exact zCz (by kernel_rfl) (hcase.elim (fun h=>.inl h.1) fun h=>.inr h.1) fun t ht=>⟨Ext.refl _,t,rfl,⟨rfl,rfl,rfl,rfl,rfl,rfl,rfl⟩,rfl,ht⟩
        · rintro ok kk key val nn q ql qc w36 ⟨⟨rfl,rfl,rfl,rfl,rfl,rfl,rfl⟩,rfl,hok⟩ w37 x37
          refine ⟨.mk 3 (ofL a) (ofL []) nn [],none,0,ok,rfl,b2,left-1,⟨zF7 F26 hb0 x37,RD.b o26 hb0r x37,by omega,by omega,fun h=>⟨zx6 (by omega) (by omega) (by simp) ?_,by rw [nod1]; omega,fun S hS w'' _=>zok⟩⟩,fun t0 zav he hnod hl0 hsep hasc=>?_⟩
          · rcases hcase with ⟨_,hp⟩|⟨⟨x,y,he⟩,_⟩
            · exact zg3 hp
            · rw [hok.1 h] at he; cases he
          · obtain ⟨m',rfl,hm1,hm2,hr6⟩:=inv3 t0 zav he hl0 hasc
            rw [hr5] at hr6
            simp only [List.cons.injEq,true_and] at hr6
            have hasc2:asc r2:=by
              rw [hab,hr4,hr5] at hasc
              exact zhx (zhx (zsa hasc))
            obtain ⟨rfl,rfl⟩:=hC2 _ _ hr6 hasc2 (zGl hm1) hsep
            have hp:=zem ⟨hm1,hm2⟩
            rcases hcase with ⟨h1,hp'⟩|⟨_,hp'⟩
            · rw [zcl,hp] at hp'
              cases hp'
              exact ⟨hok.2 h1,rfl,rfl⟩
            · rw [zcl] at hp'
              exact absurd hp (hp' _)
      · refine ⟨false,hv,fun _ w22 x22=>?_,fun h=>(by cases h)⟩
        refine ⟨zjn,none,0,false,rfl,no w20 w22 r F20 o20 (by omega) x22 fun t0 zav he hnod hl0 hsep hasc=>?_⟩
        obtain ⟨m,_,_,_,h⟩:=inv3 t0 zav he hl0 hasc
        exact hr5 _ h
    · refine ⟨false,hv,fun h=>(by cases h),fun _ w19 x19=>?_⟩
      have h19:=zaa x19
      have inv2:∀ t0 zav,zeL t0=0->l=txt t0++zav->asc l->∃ val,t0=.mk 2 (ofL a) val 0 []/\lbB val=true/\b=61::(val.data.toList++zav):=fun t0 zav he hl0 hasc=>by
        rcases inv t0 zav he hl0 with ⟨key,val,rfl,hkey,hval,h⟩|⟨key,m,rfl,hkey,hm1,hm2,h⟩
        · obtain ⟨ha,hb⟩:=hC _ _ h hasc (zph hkey) (zfd (by decide))
          exact ⟨val,by rw [ha,zb8],hval,hb⟩
        · obtain ⟨_,hb⟩:=hC _ _ h hasc (zvQ hkey) (zfd (by decide))
          exact absurd hb (hr4 _)
      refine (zka (Own.ext o17 h19) (by omega) 61 61 rfl).mono fun v w20 ⟨f20,hor⟩=>⟨hk _ _ (x19.lt _ (by simp)) f20,?_⟩
      have F20:=(F17.tr (zac h19)).tr f20
      rcases hor with ⟨r2,hr5,hv,o20⟩|⟨hr5,hv,o20⟩
      · refine ⟨true,hv,fun h=>(by cases h),fun _ w22 x22=>?_⟩
        have h22:=zaa x22
        have hlr2:r2.length+1=b.length:=by rw [hr5]; simp
        refine (zz5 (Own.ext o20 h22) (by omega)).mono fun v w23 ⟨f23,a2,b2,hv,hab2,o23,hC2⟩=>⟨hk _ _ (x22.lt _ (by simp)) f23,_,hv,fun w25 x25=>?_⟩
        have hla2:a2.length+b2.length=r2.length:=by rw [hab2]; simp
        refine ⟨.mk 2 (ofL a) (ofL a2) 0 [],none,0,true,rfl,b2,left-1,⟨zF7 ((F20.tr (zac h22)).tr f23) hb0 x25,RD.b o23 hb0r x25,by omega,by omega,fun _=>⟨zx6 (by omega) (by omega) (by omega) (i64 (by omega)),by rw [nod1]; omega,fun S hS w'' _=>zok⟩⟩,fun t0 zav he hnod hl0 hsep hasc=>?_⟩
        obtain ⟨val,rfl,hval,hb⟩:=inv2 t0 zav he hl0 hasc
        rw [hr5] at hb
        simp only [List.cons.injEq,true_and] at hb
        have hasc2:asc r2:=by
          rw [hab,hr5] at hasc
          exact zhx (zsa hasc)
        obtain ⟨rfl,rfl⟩:=hC2 _ _ hb hasc2 (zph hval) hsep
        exact ⟨rfl,by rw [zb8],rfl⟩
      · refine ⟨false,hv,fun _ w22 x22=>?_,fun h=>(by cases h)⟩
        refine ⟨zjn,none,0,false,rfl,no w20 w22 b F20 o20 (by omega) x22 fun t0 zav he hnod hl0 hsep hasc=>?_⟩
        obtain ⟨val,_,_,h⟩:=inv2 t0 zav he hl0 hasc
        exact hr5 _ h
mutual
theorem zsh:∀ t:AT,nod t<=1048576->zI2 t=nod t
  |.mk k key val n xs,h => by
    unfold zI2 nod
    unfold nod at h
    rw [zyS xs 1 (by omega)]
    omega
theorem zyS:∀ (xs:List AT) (a:Int),0<=a/\a+zmC xs<=1048576->zES xs a=a+zmC xs
  |[],a,_ => by unfold zES zmC; simp
  |x::r,a,h => by
    unfold zES zmC
    unfold zmC at h
    have hx:=zsh x (by omega)
    rw [hx,wrap64 (by omega),zyS r (a+nod x) (by omega)]
    omega
end
theorem zo1 {t:AT}:zle t=0↔zI2 t<=60/\zeL t=0:=by
  unfold zle
  constructor
  · intro h
    split at h
    · cases h
    · exact ⟨by omega,h⟩
  · rintro ⟨h1,h2⟩
    rw [if_neg (by omega),h2]
theorem zC8 {s:ByteArray} (h:lbB s=true):asc s.data.toList:=fun x hx=>by
  unfold lbB at h
  simp only [Bool.and_eq_true] at h
  have:=List.all_eq_true.1 h.2 (x.toNat:Int) (List.mem_map.2 ⟨x,hx,rfl⟩)
  unfold okC at this
  simp only [Bool.or_eq_true,Bool.and_eq_true,decide_eq_true_eq] at this
  omega
theorem un_asc {s:ByteArray} (h:unB s=true):asc s.data.toList:=by
  unfold unB at h
  simp only [Bool.or_eq_true,decide_eq_true_eq] at h
  rcases h with (h|h)|h<;>(subst h; unfold asc; decide)
theorem zGk {n:Int} (h:0<=n):asc (Lib.itoa n):=fun x hx=>by
  rcases Nat.lt_or_ge 57 x.toNat with h1|h1
  · exact absurd hx (zzc h h1)
  · omega
theorem zr9 {a b:List UInt8} (ha:asc a) (hb:asc b):asc (a++b):=fun x hx=>(List.mem_append.1 hx).elim (ha x) (hb x)
theorem ziN {a:UInt8} {b:List UInt8} (ha:a.toNat<128) (hb:asc b):asc (a::b):=fun x hx=>(List.mem_cons.1 hx).elim (fun h=>h▸ha) (hb x)
theorem zEv:∀ t:AT,zeL t=0->asc (txt t):=by
  intro t
  induction t using AT.ind with
  |h k key val n xs ih =>
    intro he
    rcases zm9 he with ⟨key,h,hkey,ht⟩|⟨key,val,h,hkey,hval,ht⟩|⟨key,m,h,hkey,hm,_,ht⟩|⟨x,h,hx,ht,hnx⟩|⟨k,x,y',hk',h,hx,hy,ht,hnx⟩
    · rw [ht]; exact ziN (by decide) (zC8 hkey)
    · rw [ht]; exact zr9 (zC8 hkey) (ziN (by decide) (zC8 hval))
    · rw [ht]; exact zr9 (un_asc hkey) (ziN (by decide) (ziN (by decide) (zGk hm)))
    · injection h with _ _ _ _ h5
      rw [ht]; exact ziN (by decide) (ih x (by rw [h5]; simp) hx)
    · injection h with _ _ _ _ h5
      rw [ht]
      refine ziN (by decide) (zr9 (ih x (by rw [h5]; simp) hx) (ziN (by split<;>decide) (zr9 (ih y' (by rw [h5]; simp) hy) (ziN (by decide) (fun z hz=>by cases hz)))))
theorem zHB (t:AT) (p:Option Addr) (c:Nat) (w:World) (hT:IsT w t p c) (hW:WfA t) (hn:nod t<=1048576) (g:GP w):FnP Tryz.prog zjp #[av t p c] w fun v w'=>Ext w w'/\((zle t≠0/\v=.tuple #[.string emS,.int .i64 (zle t)])\/(zle t=0/\v=.tuple #[.string (ofL (txt t)),.int .i64 0])):=by
  refine zxr t.k t.key t.val t.n p t.xs.length c w _ fun b0 _ w1 h1=>(zoG t p c w1 (hT.ext h1) hW).mono fun v w2 ⟨e2,hv⟩=>⟨e2,_,hv,fun hne w4 h4=>⟨h4,.inl ⟨hne,rfl⟩⟩,fun he w4 h4=>?_⟩
  exact (text_k t p c w4 (hT.ext h4) (zo1.1 he).2 (by omega) (g.ext h4)).mono fun v w5 ⟨e5,hv⟩=>⟨e5,_,hv,fun w7 h7=>⟨h7,.inr ⟨he,rfl⟩⟩⟩
theorem zl8 (w:World):IsT w zjn none 0:=zok
theorem zqh:WfA zjn:=by
  unfold WfA
  exact ⟨i64 (by omega),by decide,by decide,i64 (by omega),by simp,by unfold WfL; trivial⟩
theorem zwu (s:ByteArray) (w:World) (g:GB w):FnP Tryz.prog zjo #[.string s] w fun v w'=>Ext w w'/\∃ t p c e,v=.tuple #[av t p c,.int .i64 e]/\WfA t/\(∀ S:Nat->Prop,(∀ b,S b->b<w.heap.size)->∀ w'',Fr S w' w''->IsT w'' t p c) /\
    ((e≠0/\t=zjn/\p=none/\c=0)\/(e=0/\zle t=0/\nod t<=60/\s=ofL (txt t)/\s.size<=2000))/\(∀ t0,zle t0=0->nod t0<=1048576->s=ofL (txt t0)->s.size<=2000->e=0/\t=t0):=by
  refine zxq s w _ fun b0 hb0=>⟨fun hbig w1 h1=>?_,fun hsm w1 x1=>?_⟩
  · exact ⟨h1,zjn,none,0,2,rfl,zqh,fun _ _ _ _=>zl8 _,.inl ⟨by decide,rfl,rfl,rfl⟩,fun t0 _ _ _ h=>by omega⟩
  have h1:=zaa x1
  refine zbE (by intro v hv; simp at hv; rcases hv with rfl|rfl<;>rfl) fun w2 o2 e2 w3 x3=>?_
  have h3:=zaa x3
  have hw3:Ext w w3:=(h1.trans e2).trans h3
  have o3:RD w1.heap.size w3 w1.heap.size s.data.toList 60:=by
    have:=Own.ext (o2 w1.heap.size (Nat.le_refl _)) h3
    simpa [RD,zb8] using this
  have hb1:b0<w1.heap.size:=x1.lt b0 (by simp)
  have s13:w1.heap.size<=w3.heap.size:=Nat.le_trans e2.size h3.size
  refine (ask_k 60 w w3 w1.heap.size w1.heap.size 60 s.data.toList (by omega) g hw3 h1.size o3 (by rw [zoQ]; omega)).mono fun v w4 ⟨t,p,c,ok,hv,l',left',P,C⟩=>⟨zi1 P.fr (by intro b hb; simp at hb; subst hb; exact ⟨by omega,by omega⟩),t.k,t.key,t.val,t.n,p,t.xs.length,c,ok,hv,fun b13 hb13=>⟨fun hno w14 x14=>?_,fun hok w14 h14=>?_⟩⟩
  · have hw4:Ext w w4:=P.fr.ext hw3 (by intro b hb; have:=h1.size; omega)
    refine ⟨zar x14 hw4 (by intro d hd; simp at hd; omega),zjn,none,0,3,rfl,zqh,fun _ _ _ _=>zl8 _,.inl ⟨by decide,rfl,rfl,rfl⟩,fun t0 he hn hs _=>?_⟩
    obtain ⟨h5,h6⟩:=zo1.1 he
    rw [zsh t0 hn] at h5
    have:=C t0 [] h6 (by omega) (by rw [hs,zcl,List.append_nil]) (.inl rfl) (by rw [hs,zcl]; exact zEv t0 h6)
    rw [hno] at this
    exact absurd this.1 (by simp)
  · have hw4:Ext w w4:=P.fr.ext hw3 (by intro b hb; have:=h1.size; omega)
    obtain ⟨hWt,hnt,hTt⟩:=P.good hok
    have hT14:IsT w14 t p c:=hTt (fun _=>False) (fun _ h=>h.elim) w14 (zac h14)
    have hcomp:∀ t0,zle t0=0->nod t0<=1048576->s=ofL (txt t0)->t=t0:=fun t0 he hn hs=>by
      obtain ⟨h5,h6⟩:=zo1.1 he
      rw [zsh t0 hn] at h5
      exact (C t0 [] h6 (by omega) (by rw [hs,zcl,List.append_nil]) (.inl rfl) (by rw [hs,zcl]; exact zEv t0 h6)).2.1
    have hgp:GP w14:=⟨(g.ext (hw4.trans h14)).pow⟩
    refine (zHB t p c w14 hT14 hWt (by omega) hgp).mono fun v w15 ⟨e15,hor⟩=>?_
    have fin:∀ w18,zag [b0] [] w4 w18->Ext w w18/\∀ S:Nat->Prop,(∀ b,S b->b<w.heap.size)->∀ w'',Fr S w18 w''->IsT w'' t p c:=fun w18 x18=>⟨zar x18 hw4 (by intro d hd; simp at hd; omega),fun S hS w'' fw=>hTt (fun b=>S b\/b=b0) (fun b hb=>by have s1:=hw3.size; rcases hb with hb|hb; (· have:=hS b hb; omega); omega) w'' ((zbD x18 (by intro d hd; simp at hd; exact .inl (.inr hd))).tr (fw.mono fun b hb=>.inl hb))⟩
    rcases hor with ⟨hne,hv⟩|⟨he0,hv⟩
    · refine ⟨e15,_,_,hv,fun _ w18 x18=>⟨(fin w18 x18).1,zjn,none,0,3,rfl,zqh,fun _ _ _ _=>zl8 _,.inl ⟨by decide,rfl,rfl,rfl⟩,fun t0 he hn hs _=>?_⟩,fun h=>absurd h.1 hne⟩
      have:=hcomp t0 he hn hs
      subst this
      exact absurd he hne
    · refine ⟨e15,_,_,hv,fun hbad w18 x18=>⟨(fin w18 x18).1,zjn,none,0,3,rfl,zqh,fun _ _ _ _=>zl8 _,.inl ⟨by decide,rfl,rfl,rfl⟩,fun t0 he hn hs _=>?_⟩,fun hgd w18 x18=>⟨(fin w18 x18).1,t,p,c,0,rfl,hWt,(fin w18 x18).2,.inr ⟨rfl,he0,by omega,hgd.2.symm,by omega⟩,fun t0 he hn hs _=>⟨rfl,hcomp t0 he hn hs⟩⟩⟩
      have:=hcomp t0 he hn hs
      subst this
      exact hbad.elim (fun h=>absurd rfl h) fun h=>absurd hs.symm h
abbrev Bs:=List UInt8
def ub (x:Int):UInt8:=UInt8.ofNat (x%256).toNat
theorem zDD {n:Int} (h:-1099511627776<=n/\n<0):Lib.parseIntB 64 (Lib.itoa n)=.ok n:=by
  unfold Lib.itoa
  rw [if_pos (by omega),Lib.parseIntB_minus]
  unfold Lib.parseUintB
  rw [if_neg (zoY _),show (2:Nat)^64-1=18446744073709551615 by decide,zvq _ (by omega)]
  show (if (2:Nat)^(64-1)<n.natAbs then _ else _)=_
  rw [if_neg (by have:(2:Nat)^(64-1)=9223372036854775808:=by decide
                 omega)]
  congr 1; omega
theorem zg2 {n:Int} (h:-1099511627776<=n/\n<=1099511627776):Lib.parseIntB 64 (Lib.itoa n)=.ok n:=by
  rcases Int.lt_or_le n 0 with h0|h0
  · exact zDD ⟨h.1,h0⟩
  · exact zem ⟨h0,h.2⟩
theorem zGj {n:Int}:∀ c∈Lib.itoa n,c=45\/(48<=c.toNat/\c.toNat<=57):=fun c hc=>by
  unfold Lib.itoa at hc
  split at hc
  · rcases List.mem_cons.1 hc with h|h
    · exact .inl h
    · exact .inr (zcY _ c h)
  · exact .inr (zcY _ c hc)
theorem zAi (l:List UInt8):Lib.atoiAll l=Lib.parseIntB 64 l:=by
  unfold Lib.atoiAll Lib.parseIntB
  cases l with
  |nil => rfl
  |cons c r =>
    simp only [Lib.parseUintB_64]
    rfl
theorem zrk (s:ByteArray) (hs:s.size<=281474976710656) (w:World) (g:GB w):FnP Tryz.prog zdg #[.string s] w fun v w'=>Ext w w'/\∃ (n:Int) (ev:Value),v=.tuple #[.int .i64 n,ev] /\
    ((ev=.nilIface/\Lib.parseIntB 64 s.data.toList=.ok n)\/((∃ a b,ev=.iface a b)/\∀ m,Lib.parseIntB 64 s.data.toList≠.ok m)):=by
  have en:znr Tryz.prog zdg:=fun args w=>Tryz.call175 args w
  rw [<- zAi]
  cases hp:Lib.atoiAll s.data.toList with
  |ok v =>
    refine ⟨en,(Tryz.strconv_Atoi_ok s (by omega) v hp w).mono fun e w' ⟨he,hw⟩=>⟨_,he,?_,v,.nilIface,rfl,.inl ⟨rfl,rfl⟩⟩⟩
    rcases hw with rfl|⟨t,rfl⟩
    · exact Ext.refl _
    · exact Lib.bytesWorld_below w 5 t
  |range =>
    obtain ⟨ev,h1,h2⟩:=g.eRan
    exact ⟨en,(Tryz.strconv_Atoi_range s hs hp ev w (zwJ h1) h2).mono fun e w' ⟨N,he,_,_,hb⟩=>⟨_,he,hb,_,_,rfl,.inr ⟨⟨_,_,rfl⟩,fun m h=>by cases h⟩⟩⟩
  |_ =>
    obtain ⟨ev,h1,h2⟩:=g.eSyn
    exact ⟨en,(Tryz.strconv_Atoi_syntax s hs hp ev w (zwJ h1) h2).mono fun e w' ⟨N,he,_,_,hb⟩=>⟨_,he,hb,_,_,rfl,.inr ⟨⟨_,_,rfl⟩,fun m h=>by cases h⟩⟩⟩
theorem znt (n:Int) (h:-9223372036854775808<=n/\n<=9223372036854775807) (w:World) (g:GB w):FnP Tryz.prog zbt #[.int .i64 n] w fun v w'=>Ext w w'/\v=.string (ofL (Lib.itoa n)) :=
  ⟨fun args w=>Tryz.call105 args w,(Tryz.strconv_Itoa n h.1 h.2 w g.pow).mono fun e w' ⟨he,k,os,hw⟩=>⟨_,he,by rw [hw]; exact zmj,rfl⟩⟩
structure Jb where
  user:ByteArray
  prio:Int
  nd:Nd
  ask:AT
  aft:List Int
abbrev jcs (j:Jb) (pa:Option Addr) (ca:Nat) (pf:Option Addr) (cf:Nat):List Value:=[.string j.user,.int .i64 j.prio,.int .i64 j.nd.c,.int .i64 j.nd.m,.int .i64 j.nd.g,.int .i64 j.ask.k,.string j.ask.key,.string j.ask.val,.int .i64 j.ask.n,.slice pa j.ask.xs.length ca,.slice pf j.aft.length cf]
abbrev jv (j:Jb) (pa:Option Addr) (ca:Nat) (pf:Option Addr) (cf:Nat):Value:=.agg #[.string j.user,.int .i64 j.prio,.int .i64 j.nd.c,.int .i64 j.nd.m,.int .i64 j.nd.g,.int .i64 j.ask.k,.string j.ask.key,.string j.ask.val,.int .i64 j.ask.n,.slice pa j.ask.xs.length ca,.slice pf j.aft.length cf]
def IsJ (w:World) (j:Jb) (pa:Option Addr) (ca:Nat) (pf:Option Addr):Prop:=IsT w j.ask pa ca/\zd9 .i64 w pf j.aft
theorem IsJ.ext {w w':World} {j:Jb} {pa:Option Addr} {ca:Nat} {pf:Option Addr} (h:IsJ w j pa ca pf) (e:Ext w w'):IsJ w' j pa ca pf:=⟨h.1.ext e,h.2.ext e⟩
structure WfJ (j:Jb):Prop where
  user:j.user.size<=9223372036854775807
  prio:InR .i64 j.prio
  nd:rng j.nd
  ask:WfA j.ask
  len:j.aft.length<=9223372036854775807
  aft:∀ x∈j.aft,InR .i64 x
def upA:Int->List Int->Prop
  |_,[] => True
  |a,x::r => 1<=x/\x<=60/\a<x/\upA x r
theorem zz0 {l:List Int}:∀ {a:Int} (k:Nat),upA a l->upA a (l.take k):=by
  induction l with
  |nil => intro a k _; simp [upA]
  |cons x r ih =>
    intro a k h
    cases k with
    |zero => simp [upA]
    |succ k => exact ⟨h.1,h.2.1,h.2.2.1,ih k h.2.2.2⟩
def zuF (a:Int) (l:List Int):Int:=l.getLast?.getD a
theorem zoC {x:Int}:∀ {l:List Int} {a:Int},upA a (l++[x])↔upA a l/\1<=x/\x<=60/\zuF a l<x
  |[],a => by simp [upA,zuF]
  |y::r,a => by
    have ih:=zoC (l:=r) (a:=y) (x:=x)
    simp only [List.cons_append,upA,ih]
    have:zuF a (y::r)=zuF y r:=by
      unfold zuF
      cases r with
      |nil => rfl
      |cons z r => simp [List.getLast?_cons]
    rw [this]
    constructor
    · rintro ⟨h1,h2,h3,h4,h5⟩; exact ⟨⟨h1,h2,h3,h4⟩,h5⟩
    · rintro ⟨⟨h1,h2,h3,h4⟩,h5⟩; exact ⟨h1,h2,h3,h4,h5⟩
theorem zfL {l:List Int}:∀ {a:Int},upA a l->∀ x∈l,1<=x/\x<=60:=by
  induction l with
  |nil => intro a _ x hx; cases hx
  |cons y r ih =>
    intro a h x hx
    rcases List.mem_cons.1 hx with rfl|hx
    · exact ⟨h.1,h.2.1⟩
    · exact ih h.2.2.2 x hx
structure okJ (j:Jb):Prop where
  user:lbB j.user=true
  prio:-1000<=j.prio/\j.prio<=1000
  nd:okN j.nd
  ask:zle j.ask=0
  len:j.aft.length<=8
  up:upA 0 j.aft
theorem zzd (j:Jb) (pa:Option Addr) (ca:Nat) (pf:Option Addr) (cf:Nat) (w:World) (hJ:IsJ w j pa ca pf) (hW:WfJ j):FnP Tryz.prog zdn #[jv j pa ca pf cf] w fun v w'=>Ext w w'/\∃ e:Int,v=.int .i64 e/\(e=0↔okJ j):=by
  refine znD j.user j.prio j.nd.c j.nd.m j.nd.g j.ask.k j.ask.key j.ask.val j.ask.n pa j.ask.xs.length ca pf j.aft.length cf w _ fun b0 hb0 w1 h1=>(zgl j.user hW.user w1).mono fun v w2 ⟨e2,hv⟩=>⟨e2,_,hv,fun hno w4 h4=>?_,fun hyes=>⟨fun hbad w4 h4=>?_,fun hpr w4 h4=>?_⟩⟩
  · exact ⟨h4,3,rfl,by simp,fun h=>by rw [h.user] at hno; cases hno⟩
  · exact ⟨h4,4,rfl,by simp,fun h=>by have:=h.prio; omega⟩
  refine (zew j.nd w4).mono fun v w5 ⟨e5,hv⟩=>⟨e5,_,hv,fun hne w7 h7=>⟨h7,_,rfl,fun h=>absurd h hne,fun h=>absurd (zba.2 h.nd) hne⟩,fun hz w7 h7=>?_⟩
  refine (zoG j.ask pa ca w7 (hJ.1.ext h7) hW.ask).mono fun v w8 ⟨e8,hv⟩=>⟨e8,_,hv,fun hne w10 h10=>⟨h10,_,rfl,fun h=>absurd h hne,fun h=>absurd h.ask hne⟩,fun hz2=>⟨fun hbig w10 h10=>⟨h10,2,rfl,by simp,fun h=>by have:=h.len; omega⟩,fun hle=>?_⟩⟩
  refine ⟨fun last k w'=>w'=w/\0<=k/\k<=j.aft.length/\upA 0 (j.aft.take k.toNat)/\last=zuF 0 (j.aft.take k.toNat),fun _ k _=>(j.aft.length-k).toNat,⟨rfl,by omega,by omega,by simp [upA],by simp [zuF]⟩,?_⟩
  rintro last k w' ⟨rfl,hk0,hk1,hup,rfl⟩
  have all:∀ e:Int,(upA 0 j.aft->False)->e≠0->(e=0↔okJ j):=fun e h he=>⟨fun h'=>absurd h' he,fun h'=>(h h'.up).elim⟩
  refine ⟨fun hlt=>?_,fun hge w14 h14=>⟨h14,0,rfl,fun _=>⟨hyes,⟨by omega,by omega⟩,zba.1 hz,hz2,by omega,by rw [List.take_of_length_le (by omega)] at hup; exact hup⟩,fun _=>rfl⟩⟩
  have g:=zd9.idx hJ.2 hk0 hlt
  have hget:j.aft.take (k.toNat+1)=j.aft.take k.toNat++[j.aft.getD k.toNat 0]:=by
    rw [List.take_succ_eq_append_getElem (by omega)]
    congr 2
    simp [List.getD_eq_getElem?_getD,show k.toNat<j.aft.length by omega]
  refine ⟨fun hq=>zak g (zah.2 hq),hk0,hlt,_,g,fun hbad w15 h15=>⟨h15,4,rfl,all 4 (fun h=>?_) (by decide)⟩,fun hin=>⟨fun hle2 w15 h15=>⟨h15,6,rfl,all 6 (fun h=>?_) (by decide)⟩,fun hgt=>⟨i64 (by omega),⟨rfl,by omega,by omega,?_,?_⟩,by simp only []; omega⟩⟩⟩
  · have:=zz0 (k.toNat+1) h
    rw [hget,zoC] at this
    omega
  · have:=zz0 (k.toNat+1) h
    rw [hget,zoC] at this
    omega
  · rw [show (k+1).toNat=k.toNat+1 by omega,hget,zoC]
    exact ⟨hup,hin.1,hin.2,hgt⟩
  · rw [show (k+1).toNat=k.toNat+1 by omega,hget]
    simp [zuF]
def zqj (l:List Int):List UInt8:=if l=[] then [45] else Lib.join (l.map Lib.itoa) [44]
theorem zBU {l:List Int} (h:l.length<=8) (hr:∀ x∈l,InR .i64 x):(zqj l).length<=200:=by
  unfold zqj
  split
  · simp
  · have:=zhH (c:=44) (m:=21) (l.map Lib.itoa) (fun y hy=>by
      obtain ⟨x,hx,rfl⟩:=List.mem_map.1 hy
      have:=zK1 (hr x hx)
      exact Lib.itoa_length_le x this.1 this.2)
    rw [List.length_map] at this
    omega
theorem zIO (l:List Int) (p:Option Addr) (c:Nat) (w:World) (hp:zd9 .i64 w p l) (h8:l.length<=8) (hr:∀ x∈l,InR .i64 x) (g:GB w):FnP Tryz.prog zkh #[.slice p l.length c] w fun v w'=>Ext w w'/\v=.string (ofL (zqj l)):=by
  refine zve p l.length c w _ ⟨fun h0 w0 e0=>⟨e0,?_⟩,fun hne=>?_⟩
  · have:l=[]:=List.eq_nil_of_length_eq_zero (by omega)
    subst this
    rfl
  have hl:l≠[]:=fun h=>hne (by rw [h]; rfl)
  refine ⟨fun out outl outc k w'=>Ext w w'/\0<=k/\k<=l.length/\Own w.heap.size w' zay 1 out outl outc (((l.take k.toNat).map Lib.itoa).map fun y=>Value.string (ofL y)),fun _ _ _ k _=>(l.length-k).toNat,⟨Ext.refl _,by omega,by omega,Own.nil⟩,?_⟩
  rintro out outl outc k w3 ⟨x3,hk0,hk1,o3⟩
  refine ⟨fun hlt=>?_,fun hge w4 h4=>?_⟩
  · have gc:=zd9.idx (hp.ext x3) hk0 hlt
    have hol:=o3.leni
    have hm:=hr _ (zan l 0 (i:=k.toNat) (by omega))
    refine ⟨fun hq=>zak gc (zah.2 hq),hk0,hlt,_,gc,fun w5 h5=>(znt _ (zK1 hm) w5 ((g.ext x3).ext h5)).mono fun v w6 ⟨e6,hv⟩=>⟨e6,_,hv,?_⟩⟩
    simp only [List.length_map,List.length_take] at hol
    refine push zbX (by omega) o3 x3.size rfl (by intro u hu; simp [Value.cells] at hu; subst hu; rfl) (by omega) (by omega) (by omega) fun p' c' w' o' g' _=>⟨i64 (by omega),⟨g'.ext x3 o3,by omega,by omega,?_⟩,by simp only []; omega⟩
    rw [show (k+1).toNat=k.toNat+1 by omega,List.take_succ_eq_append_getElem (by omega),List.map_append,List.map_append]
    simpa [Value.cells,List.getD_eq_getElem?_getD,show k.toNat<l.length by omega] using o'
  · have hkl:k.toNat=l.length:=by omega
    rw [hkl,List.take_length] at o3
    refine (zBz (l.map Lib.itoa) 44 out outl outc w.heap.size zay w4 (o3.ext h4) (by simpa using hl) ?_).mono fun v w5 ⟨e5,hv⟩=>⟨e5,_,hv,fun w7 h7=>⟨x3.trans h7,?_⟩⟩
    · have:=zBU h8 hr
      unfold zqj at this
      rw [if_neg hl] at this
      omega
    · unfold zqj; rw [if_neg hl]
def jps (j:Jb):List (List UInt8):=[j.user.data.toList,Lib.itoa j.prio,zbo j.nd,zqj j.aft,txt j.ask]
def jtx (j:Jb):List UInt8:=Lib.join (jps j) [32]
theorem okJ.rng {j:Jb} (h:okJ j):∀ x∈j.aft,InR .i64 x:=fun x hx=>by have:=zfL h.up x hx; exact i64 (by omega)
theorem zHk {x:Nd} (hx:rng x):(zbo x).length<=78:=by
  unfold zbo
  split
  · simp
  · exact zzf hx
theorem zC5 {j:Jb} (h:okJ j) (hn:nod j.ask<=1048576):∀ y∈jps j,y.length<=3000:=by
  have h1:=zcZ h.user
  have h2:=Lib.itoa_length_le j.prio (by have:=h.prio; omega) (by have:=h.prio; omega)
  have h3:=zHk h.nd.rng
  have h4:=zBU h.len h.rng
  obtain ⟨h5,h6⟩:=zo1.1 h.ask
  have h7:=zts j.ask h6
  rw [zsh j.ask hn] at h5
  intro y hy
  unfold jps at hy
  simp only [List.mem_cons,List.not_mem_nil,or_false] at hy
  rcases hy with rfl|rfl|rfl|rfl|rfl
  · rw [zoQ]; omega
  · omega
  · omega
  · omega
  · omega
theorem zxf (j:Jb) (pa:Option Addr) (ca:Nat) (pf:Option Addr) (cf:Nat) (w:World) (hJ:IsJ w j pa ca pf) (hW:WfJ j) (hn:nod j.ask<=1048576) (g:GB w):FnP Tryz.prog zed #[jv j pa ca pf cf] w fun v w'=>Ext w w'/\∃ (t:ByteArray) (e:Int),v=.tuple #[.string t,.int .i64 e]/\(e=0↔okJ j)/\(e≠0->t=emS)/\(e=0->t=ofL (jtx j)):=by
  refine zxC j.user j.prio j.nd.c j.nd.m j.nd.g j.ask.k j.ask.key j.ask.val j.ask.n pa j.ask.xs.length ca pf j.aft.length cf w _ fun b0 hb0 w1 h1=>(zzd j pa ca pf cf w1 (hJ.ext h1) hW).mono fun v w2 ⟨e2,e,hv,he⟩=>⟨e2,e,hv,fun hne w4 h4=>⟨h4,emS,e,rfl,he,fun _=>rfl,fun h=>absurd h hne⟩,fun hz w4 h4=>?_⟩
  have ho:=he.1 hz
  refine (zDl j.nd w4 (g.ext h4)).mono fun v w5 ⟨e5,t5,f5,hv,hf,_,ht5⟩=>⟨e5,t5,f5,hv,fun w8 h8=>?_⟩
  have ht5:=ht5 (hf.2 ho.nd)
  refine (zHB j.ask pa ca w8 (hJ.1.ext h8) hW.ask hn ⟨(g.ext h8).pow⟩).mono fun v w9 ⟨e9,hor⟩=>?_
  rcases hor with ⟨hne,_⟩|⟨_,hv⟩
  · exact absurd ho.ask hne
  refine ⟨e9,_,_,hv,fun w12 h12=>(znt j.prio (zK1 hW.prio) w12 (g.ext h12)).mono fun v w13 ⟨e13,hv⟩=>⟨e13,_,hv,fun w15 h15=>(zIO j.aft pf cf w15 (hJ.2.ext h15) ho.len ho.rng (g.ext h15)).mono fun v w16 ⟨e16,hv⟩=>⟨e16,_,hv,fun w18 x18=>?_⟩⟩⟩
  have h18:=zaa x18
  refine zcD zbX [.string j.user,.string (ofL (Lib.itoa j.prio)),.string t5,.string (ofL (zqj j.aft)),.string (ofL (txt j.ask))] rfl rfl (by intro v hv; simp at hv; rcases hv with rfl|rfl|rfl|rfl|rfl<;>rfl) (by omega) (by omega) fun w19 o19 e19=>⟨e19,_,_,_,rfl,fun w23 h23=>?_⟩
  have o23:=(o19 w18.heap.size (Nat.le_refl _)).ext h23
  have hrow:([.string j.user,.string (ofL (Lib.itoa j.prio)),.string t5,.string (ofL (zqj j.aft)),.string (ofL (txt j.ask))]:List Value).flatMap (fun v=>v.cells.toList)=(jps j).map fun l=>Value.string (ofL l):=by
    rw [ht5]
    simp [Value.cells,jps,zb8]
  rw [hrow] at o23
  refine (zBz (jps j) 32 _ _ _ _ zay w23 o23 (by simp [jps]) ?_).mono fun v w24 ⟨e24,hv⟩=>⟨e24,_,hv,fun w26 h26=>⟨(h18.trans e19).trans h26,_,0,rfl,⟨fun _=>ho,fun _=>rfl⟩,fun h=>absurd rfl h,fun _=>rfl⟩⟩
  have:=zhH (c:=32) (m:=3000) (jps j) (zC5 ho hn)
  simp only [jps,List.length_cons,List.length_nil] at this ⊢
  omega
theorem zsJ {c d:UInt8}:∀ (L:List (List UInt8)),c∈Lib.join L [d]->c=d\/∃ y∈L,c∈y
  |[],h => by rw [Lib.join_nil] at h; cases h
  |[x],h => by rw [Lib.join_one] at h; exact .inr ⟨x,List.mem_cons_self ..,h⟩
  |x::y::L,h => by
    have e:Lib.join (x::y::L) [d]=x++d::Lib.join (y::L) [d]:=by
      rw [Lib.join_cons,Lib.join_cons]
      simp [Lib.joinTail]
    rw [e] at h
    rcases List.mem_append.1 h with h|h
    · exact .inr ⟨x,List.mem_cons_self ..,h⟩
    · rcases List.mem_cons.1 h with h|h
      · exact .inl h
      · rcases zsJ (y::L) h with h|⟨z,hz,h⟩
        · exact .inl h
        · exact .inr ⟨z,List.mem_cons_of_mem _ hz,h⟩
theorem zzl {s:ByteArray} (h:lbB s=true) {c:UInt8} (hc:okC (c.toNat:Int)=false):c∉s.data.toList:=fun hm=>by
  unfold lbB at h
  simp only [Bool.and_eq_true] at h
  have:=List.all_eq_true.1 h.2 (c.toNat:Int) (List.mem_map.2 ⟨c,hm,rfl⟩)
  rw [hc] at this; cases this
theorem un_not {s:ByteArray} (h:unB s=true) {c:UInt8} (h1:c∉zBm.data.toList) (h2:c∉memS.data.toList) (h3:c∉gpuS.data.toList):c∉s.data.toList:=by
  unfold unB at h
  simp only [Bool.or_eq_true,decide_eq_true_eq] at h
  rcases h with (h|h)|h<;>(subst h; assumption)
theorem zlp {n:Int} {c:UInt8} (h1:c≠45) (h2:c.toNat<48\/57<c.toNat):c∉Lib.itoa n:=fun hm=>by
  rcases zGj c hm with h|h
  · exact h1 h
  · omega
theorem nd_not {x:Nd}:(32:UInt8)∉zbo x:=fun hm=>by
  unfold zbo at hm
  split at hm
  · simp at hm
  · rcases zsJ _ hm with h|⟨y,hy,h⟩
    · exact absurd h (by decide)
    · obtain ⟨i,hi,rfl⟩:=List.mem_map.1 hy
      have hi:=(zpf hi).1
      unfold zgz at h
      rcases List.mem_append.1 h with h|h
      · revert h
        match i,hi with
        |0,_ => decide
        |1,_ => decide
        |2,_ => decide
      · rcases List.mem_cons.1 h with h|h
        · exact absurd h (by decide)
        · exact zlp (by decide) (by decide) h
theorem zIN {l:List Int}:(32:UInt8)∉zqj l:=fun hm=>by
  unfold zqj at hm
  split at hm
  · simp at hm
  · rcases zsJ _ hm with h|⟨y,hy,h⟩
    · exact absurd h (by decide)
    · obtain ⟨x,hx,rfl⟩:=List.mem_map.1 hy
      exact zlp (by decide) (by decide) h
theorem zIV:∀ t:AT,zeL t=0->(32:UInt8)∉txt t:=by
  intro t
  induction t using AT.ind with
  |h k key val n xs ih =>
    intro he hm
    rcases zm9 he with ⟨key,h,hkey,ht⟩|⟨key,val,h,hkey,hval,ht⟩|⟨key,m,h,hkey,hm0,_,ht⟩|⟨x,h,hx,ht,hnx⟩|⟨k,x,y',hk',h,hx,hy,ht,hnx⟩
    · rw [ht] at hm
      rcases List.mem_cons.1 hm with h|h
      · exact absurd h (by decide)
      · exact zzl hkey (by decide) h
    · rw [ht] at hm
      rcases List.mem_append.1 hm with h|h
      · exact zzl hkey (by decide) h
      · rcases List.mem_cons.1 h with h|h
        · exact absurd h (by decide)
        · exact zzl hval (by decide) h
    · rw [ht] at hm
      rcases List.mem_append.1 hm with h|h
      · exact un_not hkey (by decide) (by decide) (by decide) h
      · simp only [List.mem_cons] at h
        rcases h with h|h|h
        · exact absurd h (by decide)
        · exact absurd h (by decide)
        · exact zlp (by decide) (by decide) h
    · injection h with _ _ _ _ h5
      rw [ht] at hm
      rcases List.mem_cons.1 hm with h|h
      · exact absurd h (by decide)
      · exact ih x (by rw [h5]; simp) hx h
    · injection h with _ _ _ _ h5
      rw [ht] at hm
      simp only [List.mem_cons,List.mem_append,List.not_mem_nil,or_false] at hm
      rcases hm with h|h|h|h|h
      · exact absurd h (by decide)
      · exact ih x (by rw [h5]; simp) hx h
      · rcases hk' with rfl|rfl
        · exact absurd h (by decide)
        · exact absurd h (by decide)
      · exact ih y' (by rw [h5]; simp) hy h
      · exact absurd h (by decide)
theorem zJQ {j:Jb} (h:okJ j):∀ y∈jps j,(32:UInt8)∉y:=by
  intro y hy
  unfold jps at hy
  simp only [List.mem_cons,List.not_mem_nil,or_false] at hy
  rcases hy with rfl|rfl|rfl|rfl|rfl
  · exact zzl h.user (by decide)
  · exact zlp (by decide) (by decide)
  · exact nd_not
  · exact zIN
  · exact zIV _ (zo1.1 h.ask).2
theorem zyE {l:List Int} (h:zqj l=[45]):l=[]\/∃ x,l=[x]/\Lib.itoa x=[45]:=by
  unfold zqj at h
  split at h
  · rename_i h0; exact .inl h0
  · cases l with
    |nil => exact .inl rfl
    |cons x r =>
      cases r with
      |nil => exact .inr ⟨x,rfl,by simpa [Lib.join_one] using h⟩
      |cons y r =>
        simp only [List.map_cons] at h
        rw [Lib.join_cons] at h
        have hx:Lib.itoa x≠[]:=by
          unfold Lib.itoa
          split
          · simp
          · exact zoY _
        have hy:Lib.joinTail [44] (Lib.itoa y::r.map Lib.itoa)≠[]:=by
          intro h0
          have:=Lib.joinTail_length [44] (Lib.itoa y::r.map Lib.itoa)
          rw [h0] at this
          simp at this
          omega
        have:=congrArg List.length h
        rw [List.length_append] at this
        have h1:=List.length_pos_iff.2 hx
        have h2:=List.length_pos_iff.2 hy
        simp at this
        omega
def zdt:Jb:=⟨emS,0,za3,zjn,[]⟩
theorem zib:WfJ zdt:=⟨by decide,i64 (by decide),fun i hi=>by
  match i,hi with
  |0,_ => simp [zcd,zdt,za3]
  |1,_ => simp [zcd,zdt,za3]
  |2,_ => simp [zcd,zdt,za3],zqh,by decide,fun x hx => by cases hx⟩
theorem zoE (w:World):IsJ w zdt none 0 none:=⟨zl8 w,zau.nil⟩
structure JT (s:ByteArray) (j:Jb):Prop where
  ok:okJ j
  nod:nod j.ask<=1048576
  is:s=ofL (jtx j)
  ask:(txt j.ask).length<=2000
theorem zge {s:ByteArray} {j:Jb} (h:JT s j):Lib.countB s (one 32)=4/\Lib.splitB (one 32) 0 4 s=(jps j).map ofL:=by
  have:=zdx (c:=32) [Lib.itoa j.prio,zbo j.nd,zqj j.aft,txt j.ask] j.user.data.toList (by simpa [jps] using zJQ h.ok)
  rw [h.is]
  exact this
theorem zpX {l:List Int} (hl:l≠[]):Lib.countB (ofL (zqj l)) (one 44)+1=l.length/\Lib.splitB (one 44) 0 (Lib.countB (ofL (zqj l)) (one 44)) (ofL (zqj l))=(l.map Lib.itoa).map ofL:=by
  cases l with
  |nil => exact absurd rfl hl
  |cons a r =>
    have h:=zdx (c:=44) (r.map Lib.itoa) (Lib.itoa a) (by
      intro y hy
      rw [<- List.map_cons] at hy
      obtain ⟨x,_,rfl⟩:=List.mem_map.1 hy
      exact zlp (by decide) (by decide))
    have e:zqj (a::r)=Lib.join (Lib.itoa a::r.map Lib.itoa) [44]:=by unfold zqj; rw [if_neg (by simp)]; rfl
    rw [e,h.1]
    refine ⟨by simp,?_⟩
    rw [List.length_map] at h ⊢
    simpa using h.2
end Go.Proofs.YtcceeahmcecbnaaGreatDoor
namespace Go.Proofs.YtcceeahmcecbnaaGreatDoor
open Go.Sx Go.RowKit Go.ChangeShapes Go.WideShapes Go.ChangeAt
section
variable {P:Program} {H:Type} {enc:TypeId×Value->H}
end
section
variable {P:Program} {H:Type} {enc:TypeId×Value->H}
end
theorem zxg {W:World} {j_0:ByteArray} (h0:j_0.size<=9223372036854775807) {j_1:Int} (h1:InR .i64 j_1) {j_2:Int} (h2:InR .i64 j_2) {j_3:Int} (h3:InR .i64 j_3) {j_4:Int} (h4:InR .i64 j_4) {j_5:Int} (h5:InR .i64 j_5) {j_6:ByteArray} (h6:j_6.size<=9223372036854775807) {j_7:ByteArray} (h7:j_7.size<=9223372036854775807) {j_8:Int} (h8:InR .i64 j_8)
    {p:Option Addr} {l c:Nat} (hA:zaA Tryz.prog W zdB p l c) {q:Option Addr} {m d:Nat} (hF:zaA Tryz.prog W zfr q m d) :
    ∃ j:Jb,IsJ W j p c q/\WfJ j/\jcs j p c q d=[.string j_0,.int .i64 j_1,.int .i64 j_2,.int .i64 j_3,.int .i64 j_4,.int .i64 j_5,.string j_6,.string j_7,.int .i64 j_8,.slice p l c,.slice q m d]:=by
  obtain ⟨x,rfl,rfl,rfl,rfl,rfl,hT,hW⟩:=zIU hA h5 h6 h7 h8
  obtain ⟨xs,rfl,hx,hi⟩:=hF.ints (k:=.i64) (by kernel_rfl) (by kernel_rfl)
  refine ⟨⟨j_0,j_1,⟨j_2,j_3,j_4⟩,x,xs⟩,⟨hT,hi⟩,⟨h0,h1,fun i hi=>?_,hW,by have:=hF.le; have:=hF.max; show xs.length<=_; omega,hx⟩,rfl⟩
  match i,hi with
  |0,_ => exact zK1 h2
  |1,_ => exact zK1 h3
  |2,_ => exact zK1 h4
theorem zsG {P:Program} {W:World} {l:List (String×DataW Unit)} (h:laidMetH P l W) (hp:(l.all fun x=>x.2.handleName?.isNone)=true) {name:String} {zs:List Int} {k:IntKind}
    (hm:(name,Lib.tabData k zs)∈l) {g:Nat} {t e:TypeId} {n:Nat} (hg:P.globalNamed name=some g) (hty:(P.globals[g]?).map (·.type)=some t)
    (ht:P.underlying t=some (.array n e)) (he:P.underlying e=some (.int k)) (hce:P.cellsOf e=1) (hct:P.cellsOf t=n):Lib.TabIs P W name k zs:=by
  have hnone:(l.filter fun x=>x.2.handleName?.isSome)=[]:=by
    rw [List.filter_eq_nil_iff]
    intro a ha hs
    have:=List.all_eq_true.1 hp a ha
    cases hh:a.2.handleName?<;>simp_all
  have h:laidMet P l W:=by
    unfold laidMetH at h
    rw [hnone] at h
    exact h
  obtain ⟨ps,hL,_⟩:=h
  obtain ⟨g',t',cs,fuel,p,h1,h2,h3,h4⟩:=zeE hL _ hm
  obtain rfl:=Option.some.inj (hg.symm.trans h1)
  obtain rfl:=Option.some.inj (hty.symm.trans h2)
  unfold Lib.TabIs
  rw [h3,<- Lib.cells_of_tab ht he hce hct h4]
theorem zzj {P:Program} {W:World} {l:List (String×DataW Unit)} (h:laidMetH P l W) (hp:(l.all fun x=>x.2.handleName?.isNone)=true) {name:String} {d:DataW Unit}
    (hm:(name,d)∈l) {g:Nat} {t:TypeId} (hg:P.globalNamed name=some g) (hty:(P.globals[g]?).map (·.type)=some t) (ht:zuB P t=true):∃ v,cell W (some (⟨g,0,none⟩:Addr)) 0=some v/\isErr v:=by
  have hnone:(l.filter fun x=>x.2.handleName?.isSome)=[]:=by
    rw [List.filter_eq_nil_iff]
    intro a ha hs
    have:=List.all_eq_true.1 hp a ha
    cases hh:a.2.handleName?<;>simp_all
  have h:laidMet P l W:=by
    unfold laidMetH at h
    rw [hnone] at h
    exact h
  obtain ⟨ps,hL,_⟩:=h
  obtain ⟨g',t',cs,fuel,p,h1,h2,h3,h4⟩:=zeE hL _ hm
  obtain rfl:=Option.some.inj (hg.symm.trans h1)
  obtain rfl:=Option.some.inj (hty.symm.trans h2)
  have h5:=World.var?_cell hg h3 0
  unfold zuB at ht
  split at ht
  · rename_i m hu
    cases fuel with
    |zero => simp [DataW.trod] at h4
    |succ n =>
      unfold DataW.trod at h4
      rw [hu] at h4
      generalize hL':cs.toList=L at h4
      have hc:cs[0]?=L[0]?:=by rw [<- hL']; simp
      have fin:∀ v,L=[v]->isErr v->∃ v,cell W (some (⟨g,0,none⟩:Addr)) 0=some v/\isErr v:=fun v hv he=>by
        refine ⟨v,?_,he⟩
        simp only [cell,Option.bind_some,add_zero]
        rw [h5,hc,hv]; rfl
      match L,h4,fin with
      |[],h4,_ => simp at h4
      |[.nilIface],_,fin => exact fin _ rfl (.inl rfl)
      |[.iface a b],_,fin => exact fin _ rfl (.inr ⟨a,b,rfl⟩)
      |x::y::r,h4,_ => simp at h4
      |[.int _ _],h4,_|[.bool _],h4,_|[.string _],h4,_|[.float _ _],h4,_|[.complex _ _ _],h4,_|[.pointer _],h4,_|[.slice _ _ _],h4,_|[.agg _],h4,_|[.tuple _],h4,_ => simp at h4
      |[x],h4,fin => cases x<;>first|exact fin _ rfl (.inl rfl)|exact fin _ rfl (.inr ⟨_,_,rfl⟩)|simp at h4
  · cases ht
theorem zuy {P:Program} {w:World} {g:Nat} {t:TypeId} {k:IntKind} {zero:Array Value} (h:w.ShapedOpen P) (hg:g<P.globals.size)
    (h0:((begin P (fun _ _=>0) default).world.heap[g]?).bind Obj.row?=some (zero,t)) (hz:zero.size=1)
    (hb:P.buildable t=true) (hc:P.cellTypes P.depth t=some [t]) (hu:P.underlying t=some (.int k)):∃ m,cell w (some (⟨g,0,none⟩:Addr)) 0=some (.int k m):=by
  obtain ⟨cs,hh,hs,hr⟩:=h.1 g zero t hg h0
  obtain ⟨ts,hts,_,hall⟩:=hr hb
  rw [hc] at hts
  cases hts
  have h1:0<cs.size:=by omega
  obtain ⟨u,hu',hok⟩:=hall 0 cs[0] (by simp [h1])
  have:u=t:=by simpa using hu'.symm
  subst this
  have hcell:cell w (some (⟨g,0,none⟩:Addr)) 0=some cs[0]:=by simp [cell,add_zero,World.cell?,hh,h1]
  rw [hcell]
  unfold Cell.ok at hok
  rw [hu] at hok
  cases hv:cs[0]<;>rw [hv] at hok<;>first|(simp at hok; obtain ⟨rfl,_⟩:=hok; exact ⟨_,rfl⟩)|(simp at hok; subst hok; exact ⟨_,rfl⟩)|simp at hok
theorem gb_of {W:World} {l:List (String×DataW Unit)} (h:laidMetH Tryz.prog l W) (hsp:W.ShapedOpen Tryz.prog) (hp:(l.all fun x=>x.2.handleName?.isNone)=true)
    (h2 : ("internal/strconv.uint64pow10", (Rows.laid_internal_strconv_uint64pow10 : DataW Unit)) ∈ l)
    (h3 : ("strconv.ErrRange", (Rows.laid_strconv_ErrRange : DataW Unit)) ∈ l) (h4 : ("strconv.ErrSyntax", (Rows.laid_strconv_ErrSyntax : DataW Unit)) ∈ l) : GB W :=
  ⟨zsG h hp (k := .u64) (zs := Lib.pow10Tab) (by exact h2) (g := (Tryz.prog.globalNamed "internal/strconv.uint64pow10").getD 0) (t := (Tryz.prog.globals[(Tryz.prog.globalNamed "internal/strconv.uint64pow10").getD 0]?).elim 0 (·.type)) (e := zFi) (n := 20) (by kernel_rfl) (by kernel_rfl) (by kernel_rfl) (by kernel_rfl) (by kernel_rfl) (by kernel_rfl),
    zuy (zero:=#[.int .i64 0]) hsp (g:=5) (t:=(Tryz.prog.globals[5]?).elim 0 (·.type)) (of_decide_eq_true (by kernel_rfl)) (by kernel_rfl) rfl (by kernel_rfl) (by kernel_rfl) (by kernel_rfl),
    zzj h hp h4 (g:=2) (t:=(Tryz.prog.globals[2]?).elim 0 (·.type)) (by kernel_rfl) (by kernel_rfl) (by kernel_rfl),
    zzj h hp h3 (g:=3) (t:=(Tryz.prog.globals[3]?).elim 0 (·.type)) (by kernel_rfl) (by kernel_rfl) (by kernel_rfl)⟩
end Go.Proofs.YtcceeahmcecbnaaGreatDoor
namespace Go.Proofs.YtcceeahmcecbnaaGreatDoor
open Go.Sx Go.RowKit
def num (n:Int) (k:Nat):Bs:=(List.range k).map fun (j:Nat)=>ub (zaw .shr .i64 n (8*((k:Int)-1-j)))
structure Ev where
  kind:Int
  job:Jb
  n:Int
  id:Int
  ok:Bool
def enc (x:Ev):Bs:=ub x.kind::(if x.kind=1 then jtx x.job else if x.kind=2 then num x.n 4 else if x.kind=4 then num x.id 2++[if x.ok=true then 1 else 0] else if x.kind=5 then num x.id 2 else [])
def zCD:Int->List Int->Int
  |_,[] => 0
  |a,x::r => if x<1\/60<x then 4 else if x<=a then 6 else zCD x r
theorem zwS:∀ (l:List Int) (a:Int),zCD a l=0↔upA a l
  |[],a => by simp [zCD,upA]
  |x::r,a => by
    have ih:=zwS r x
    unfold zCD upA
    split
    · rename_i h; constructor
      · intro h2; cases h2
      · intro h2; omega
    · split
      · rename_i h; constructor
        · intro h2; cases h2
        · intro h2; omega
      · rw [ih]; constructor
        · intro h2; exact ⟨by omega,by omega,by omega,h2⟩
        · intro h2; exact h2.2.2.2
def zrw (j:Jb):Int:=if lbB j.user=false then 3 else if j.prio < -1000\/1000<j.prio then 4 else if zy3 j.nd≠0 then zy3 j.nd else if zle j.ask≠0 then zle j.ask else if 8<j.aft.length then 2 else zCD 0 j.aft
theorem zgp {j:Jb}:zrw j=0↔okJ j:=by
  unfold zrw
  constructor
  · intro h
    split at h
    · cases h
    rename_i h1
    split at h
    · cases h
    rename_i h2
    split at h
    · rename_i h3; exact absurd h h3
    rename_i h3
    split at h
    · rename_i h4; exact absurd h h4
    rename_i h4
    split at h
    · cases h
    rename_i h5
    exact ⟨by simpa using h1,by omega,zba.1 (by omega),by omega,by omega,(zwS _ _).1 h⟩
  · intro h
    have hp:=h.prio
    have hl:=h.len
    rw [if_neg (by rw [h.user]; simp),if_neg (by omega),if_neg (fun g=>g (zba.2 h.nd)),if_neg (fun g=>g h.ask),if_neg (by omega)]
    exact (zwS _ _).2 h.up
theorem zze (j:Jb) (pa:Option Addr) (ca:Nat) (pf:Option Addr) (cf:Nat) (w:World) (hJ:IsJ w j pa ca pf) (hW:WfJ j):FnP Tryz.prog zdn #[jv j pa ca pf cf] w fun v w'=>Ext w w'/\v=.int .i64 (zrw j):=by
  refine znD j.user j.prio j.nd.c j.nd.m j.nd.g j.ask.k j.ask.key j.ask.val j.ask.n pa j.ask.xs.length ca pf j.aft.length cf w _ fun b0 hb0 w1 h1=>(zgl j.user hW.user w1).mono fun v w2 ⟨e2,hv⟩=>⟨e2,_,hv,fun hno w4 h4=>?_,fun hyes=>⟨fun hbad w4 h4=>?_,fun hpr w4 h4=>?_⟩⟩
  · exact ⟨h4,by unfold zrw; rw [if_pos hno]⟩
  · exact ⟨h4,by unfold zrw; rw [if_neg (by rw [hyes]; simp),if_pos (by omega)]⟩
  refine (zew j.nd w4).mono fun v w5 ⟨e5,hv⟩=>⟨e5,_,hv,fun hne w7 h7=>⟨h7,by unfold zrw; rw [if_neg (by rw [hyes]; simp),if_neg (by omega),if_pos hne]⟩,fun hz w7 h7=>?_⟩
  refine (zoG j.ask pa ca w7 (hJ.1.ext h7) hW.ask).mono fun v w8 ⟨e8,hv⟩=>⟨e8,_,hv,fun hne w10 h10=>⟨h10,by unfold zrw; rw [if_neg (by rw [hyes]; simp),if_neg (by omega),if_neg (by omega),if_pos hne]⟩,fun hz2=>⟨fun hbig w10 h10=>⟨h10,by unfold zrw; rw [if_neg (by rw [hyes]; simp),if_neg (by omega),if_neg (by omega),if_neg (by omega),if_pos (by omega)]⟩,fun hle=>?_⟩⟩
  have hE:zrw j=zCD 0 j.aft:=by unfold zrw; rw [if_neg (by rw [hyes]; simp),if_neg (by omega),if_neg (by omega),if_neg (by omega),if_neg (by omega)]
  rw [hE]
  refine ⟨fun last k w'=>w'=w/\0<=k/\k<=j.aft.length/\zCD 0 j.aft=zCD last (j.aft.drop k.toNat),fun _ k _=>(j.aft.length-k).toNat,⟨rfl,by omega,by omega,by simp⟩,?_⟩
  rintro last k w' ⟨rfl,hk0,hk1,hup⟩
  refine ⟨fun hlt=>?_,fun hge w14 h14=>⟨h14,by rw [hup,List.drop_eq_nil_of_le (by omega)]; rfl⟩⟩
  have g:=zd9.idx hJ.2 hk0 hlt
  have hdrop:j.aft.drop k.toNat=j.aft.getD k.toNat 0::j.aft.drop (k.toNat+1):=by
    rw [List.drop_eq_getElem_cons (by omega)]
    congr 1
    simp [List.getD_eq_getElem?_getD,show k.toNat<j.aft.length by omega]
  rw [hdrop] at hup
  refine ⟨fun hq=>zak g (zah.2 hq),hk0,hlt,_,g,fun hbad w15 h15=>⟨h15,?_⟩,fun hin=>⟨fun hle2 w15 h15=>⟨h15,?_⟩,fun hgt=>⟨i64 (by omega),⟨rfl,by omega,by omega,?_⟩,by simp only []; omega⟩⟩⟩
  · rw [hup,zCD,if_pos (by omega)]
  · rw [hup,zCD,if_neg (by omega),if_pos (by omega)]
  · rw [show (k+1).toNat=k.toNat+1 by omega,hup,zCD,if_neg (by omega),if_neg (by omega)]
theorem zH5 {w:World} {x:Nd} {K:Option Addr->World->Prop} (h:∀ p w',Ext w w'->zBB w' p x->p≠none->K p w'):New w zii (zwl x) K :=
  zbE (by intro v hv; simp at hv; rcases hv with rfl|rfl|rfl<;>rfl) fun w' o e=>h _ w' e (o 0 (Nat.zero_le _)).cells (by simp)
abbrev NdsAt (w:World) (p:Option Addr) (L:List Nd):Prop:=zgJ 3 zwl w p L
def zCC (L:List Nd):Int:=if ∀ x∈L,okN x then 0 else 4
theorem zFZ {L:List Nd}:zCC L=0↔∀ x∈L,okN x:=by unfold zCC; split<;>simp_all
theorem zuT (p:Option Addr) (c:Nat) (L:List Nd) (h63:(L.length:Int)<=9223372036854775807) (w:World) (h:NdsAt w p L):FnP Tryz.prog zch #[.slice p L.length c] w fun v w'=>Ext w w'/\v=.int .i64 (zCC L):=by
  refine zqR p L.length c w _ ⟨fun k w'=>w'=w/\0<=k/\k<=L.length/\∀ i:Nat,(i:Int)<k->okN (L.getD i default),fun k _=>(L.length-k).toNat,⟨rfl,by omega,by omega,fun i hi=>by omega⟩,?_⟩
  rintro k w ⟨rfl,hk0,hk1,hall⟩
  refine ⟨fun hlt=>?_,fun hge w3 h3=>⟨h3,?_⟩⟩
  · have g0:=h.idx default hk0 hlt (j:=0) rfl
    have g1:=h.idx default hk0 hlt (j:=1) rfl
    have g2:=h.idx default hk0 hlt (j:=2) rfl
    refine ⟨fun hq=>zak g0 (zah.2 hq),hk0,hlt,zak g0,_,g0,_,g1,_,g2,fun b6 _=>fun w7 h7=>?_⟩
    refine (zew (L.getD k.toNat default) w7).mono fun v w8 ⟨e8,hv⟩=>⟨e8,_,hv,fun hne w10 h10=>⟨h10,?_⟩,fun he=>⟨i64 (by omega),⟨rfl,by omega,by omega,fun i hi=>?_⟩,by simp only []; omega⟩⟩
    · have hno:¬ okN (L.getD k.toNat default):=fun h=>hne (zba.2 h)
      rw [zmq hno]
      congr 1
      exact (if_neg fun hx=>hno (hx _ (zan L default (by omega)))).symm
    · by_cases hik:(i:Int)<k
      · exact hall i hik
      · obtain rfl:i=k.toNat:=by omega
        exact zba.1 he
  · congr 1
    refine (zFZ.2 fun x hx=>?_).symm
    obtain ⟨i,hi,rfl⟩:=List.getElem_of_mem hx
    have:=hall i (by omega)
    simpa [List.getD_eq_getElem?_getD,hi] using this
theorem zsL (a b:Nd) {ns:List Nat} {w:World} {K:Int->World->Prop} (hk:∀ w',Ext w w'->K (if okN a/\okN b then 0 else 4) w') :
    ∀ w3,zag [] ns w w3->Run Tryz.prog (.buildSlice zBI 2 [(0,nv a),(1,nv b)]) w3 fun v4 w4=>Ext w3 w4/\∃ t5:Option Addr,∃ tl6:Nat,∃ tc7:Nat,v4=.slice t5 tl6 tc7 /\
      ∀ w8,Ext w4 w8->FnP Tryz.prog zch #[.slice t5 tl6 tc7] w8 fun v9 w9=>Ext w8 w9/\∃ t10:Int,v9=.int .i64 t10/\K t10 w4:=by
  intro w3 x3
  refine zcD zub [nv a,nv b] rfl rfl (by intro v hv; simp at hv; rcases hv with rfl|rfl<;>rfl) (by omega) (by omega) fun w4 o4 e4=>⟨e4,_,_,_,rfl,fun w8 h8=>?_⟩
  have o8:=(o4 0 (Nat.zero_le _)).ext h8
  have hL:NdsAt w8 (some ⟨w3.heap.size,0,none⟩) [a,b]:=Own.recs (enc:=zwl) (xs:=[a,b]) o8 fun _ _=>rfl
  refine (zuT _ 2 [a,b] (by simp) w8 hL).mono fun v w9 ⟨e9,hv⟩=>⟨e9,_,hv,?_⟩
  have:zCC [a,b]=if okN a/\okN b then 0 else 4:=by
    unfold zCC; simp
  rw [this]
  exact hk w4 ((zaa x3).trans e4)
theorem zDp (a b:Nd) (w:World):FnP Tryz.prog zhr #[nv a,nv b] w fun v w'=>Ext w w'/\v=.bool (decide (zj1 a b)):=by
  refine zvh a.c a.m a.g b.c b.m b.g w _ fun b0 _ b1 _ w2 h2=>⟨h2,?_⟩
  congr 1
  unfold zj1
  by_cases h1:a.c<=b.c<;>by_cases h2:a.m<=b.m<;>by_cases h3:a.g<=b.g<;>simp [h1,h2,h3]
theorem zxj (a b:Nd) (w:World):FnP Tryz.prog zhp #[nv a,nv b] w fun v w'=>Ext w w'/\∃ t e,v=.tuple #[.bool t,.int .i64 e]/\((okN a/\okN b/\e=0/\t=decide (zj1 a b))\/(¬ (okN a/\okN b)/\e=4/\t=false)):=by
  refine zvf a.c a.m a.g b.c b.m b.g w _ fun b0 hb0 b1 hb1=>?_
  refine zsL a b fun w3 e3=>?_
  by_cases hok:okN a/\okN b
  · rw [if_pos hok]
    refine ⟨fun h=>absurd rfl h,fun _ w10 h10=>(zDp a b w10).mono fun v w11 ⟨e11,hv⟩=>⟨e11,_,hv,fun w13 h13=>⟨e3.trans h13,_,_,rfl,.inl ⟨hok.1,hok.2,rfl,rfl⟩⟩⟩⟩
  · rw [if_neg hok]
    exact ⟨fun _ w10 h10=>⟨e3.trans h10,_,_,rfl,.inr ⟨hok,rfl,rfl⟩⟩,fun h=>by omega⟩
theorem nAdd_k (a b:Nd) (w:World):FnP Tryz.prog zjs #[nv a,nv b] w fun v w'=>Ext w w'/\∃ s e,v=.tuple #[nv s,.int .i64 e] /\
    ((okN a/\okN b/\okN (zwj a b)/\e=0/\s=zwj a b)\/(¬ (okN a/\okN b)/\e=4/\s=za3)\/(okN a/\okN b/\¬ okN (zwj a b)/\e=2/\s=za3)):=by
  refine zxD a.c a.m a.g b.c b.m b.g w _ fun b0 hb0 b1 hb1 b2 hb2=>?_
  refine zsL a b fun w4 e4=>?_
  by_cases hok:okN a/\okN b
  · rw [if_pos hok]
    obtain ⟨⟨a1,a2,a3⟩,⟨c1,c2,c3⟩⟩:=id hok
    refine ⟨fun h=>absurd rfl h,fun _=>⟨i64 (by omega),i64 (by omega),i64 (by omega),fun b11 _ w12 h12=>?_⟩⟩
    refine (zew (zwj a b) w12).mono fun v w13 ⟨e13,hv⟩=>⟨e13,_,hv,fun hne w15 x15=>⟨zwT x15 e4 hb2,za3,_,rfl,.inr (.inr ⟨hok.1,hok.2,fun h=>hne (zba.2 h),rfl,rfl⟩)⟩,fun he w15 x15=>⟨zwT x15 e4 hb2,zwj a b,_,rfl,.inl ⟨hok.1,hok.2,zba.1 he,rfl,rfl⟩⟩⟩
  · rw [if_neg hok]
    exact ⟨fun _ w11 x11=>⟨zwT x11 e4 hb2,za3,_,rfl,.inr (.inl ⟨hok,rfl,rfl⟩)⟩,fun h=>by omega⟩
theorem zzs (a b:Nd) (w:World):FnP Tryz.prog zcu #[nv a,nv b] w fun v w'=>Ext w w'/\∃ s e,v=.tuple #[nv s,.int .i64 e] /\
    ((okN a/\okN b/\zj1 b a/\e=0/\s=zin a b)\/(¬ (okN a/\okN b)/\e=4/\s=za3)\/(okN a/\okN b/\¬ zj1 b a/\e=10/\s=za3)):=by
  refine zxE a.c a.m a.g b.c b.m b.g w _ fun b0 hb0 b1 hb1 b2 hb2=>?_
  refine zsL a b fun w4 e4=>?_
  by_cases hok:okN a/\okN b
  · rw [if_pos hok]
    obtain ⟨⟨a1,a2,a3⟩,⟨c1,c2,c3⟩⟩:=id hok
    refine ⟨fun h=>absurd rfl h,fun _ w11 h11=>?_⟩
    refine (zDp b a w11).mono fun v w12 ⟨e12,hv⟩=>⟨e12,_,hv,fun hf w14 x14=>⟨zwT x14 e4 hb2,za3,_,rfl,.inr (.inr ⟨hok.1,hok.2,by simpa using hf,rfl,rfl⟩)⟩,fun hf=>⟨i64 (by omega),i64 (by omega),i64 (by omega),fun w14 x14=>⟨zwT x14 e4 hb2,zin a b,_,rfl,.inl ⟨hok.1,hok.2,by simpa using hf,rfl,rfl⟩⟩⟩⟩
  · rw [if_neg hok]
    exact ⟨fun _ w11 x11=>⟨zwT x11 e4 hb2,za3,_,rfl,.inr (.inl ⟨hok,rfl,rfl⟩)⟩,fun h=>by omega⟩
def zwf (h:Ht):Prop:=h.name.size<=9223372036854775807/\h.labels.length<=9223372036854775807/\∀ l∈h.labels,l.key.size<=9223372036854775807/\l.val.size<=9223372036854775807
def zjv (w:World) (p:Option Addr) (L:List Ht):Prop:=∀ (i:Nat) (h:Ht),L[i]?=some h->∃ q c,(∀ (j:Nat) u,(zEW h q c)[j]?=some u->Go.Sx.cell w p (i*8+j)=some u)/\Lbs w q h.labels
theorem zjv.ext {w w':World} {p:Option Addr} {L:List Ht} (h:zjv w p L) (he:Ext w w'):zjv w' p L:=fun i x hx=>by
  obtain ⟨q,c,h1,h2⟩:=h i x hx
  exact ⟨q,c,fun j u hu=>zaJ he (h1 j u hu),h2.ext he⟩
theorem zjv.at {w:World} {p:Option Addr} {L:List Ht} (h:zjv w p L) {k:Int} (h0:0<=k) (hk:k<L.length):∃ q c,p≠none/\pIdx p k 8≠none/\(∀ (j:Nat) u,(zEW (L.getD k.toNat default) q c)[j]?=some u->Go.Sx.cell w (pIdx p k 8) j=some u)/\Lbs w q (L.getD k.toNat default).labels:=by
  obtain ⟨q,c,h1,h2⟩:=h k.toNat _ (getElem?_getD L default (by omega))
  have g:∀ (j:Nat) u,(zEW (L.getD k.toNat default) q c)[j]?=some u->Go.Sx.cell w (pIdx p k 8) j=some u:=fun j u hu=>by rw [zae]; exact h1 j u hu
  have g0:=g 0 _ rfl
  exact ⟨q,c,fun hq=>zak g0 (zah.2 hq),zak g0,g,h2⟩
def okLb (l:List Lb):Prop:=(∀ x∈l,lbB x.key=true/\lbB x.val=true)/\(l.map (·.key)).Nodup
def zGF (h:Ht):Prop:=lbB h.name=true/\h.labels.length<=8/\okLb h.labels/\okN h.has/\okN h.used/\zj1 h.used h.has
def zkB (L:List Ht):Prop:=L.length<=30/\(∀ h∈L,zGF h)/\(L.map (·.name)).Nodup
def ziu (w:World) (r:Nat) (S:List ByteArray):Prop:=∃ m:List (ByteArray×Value),zdb Value.string w r m/\∀ a,(a∈S/\ziw m a=some (.bool true))\/(a∉S/\ziw m a=none)
theorem ziu.ext {w w':World} {r:Nat} {S:List ByteArray} (h:ziu w r S) (he:Ext w w'):ziu w' r S:=by
  obtain ⟨m,h1,h2⟩:=h
  exact ⟨m,h1.ext he,h2⟩
theorem ziu.lt {w:World} {r:Nat} {S:List ByteArray} (h:ziu w r S):r<w.heap.size:=by
  obtain ⟨m,h1,h2⟩:=h
  exact h1.lt
theorem ziu.grew {w w':World} {r s:Nat} {S:List ByteArray} (h:ziu w r S) (hr:r≠s) (hg:zcv w w' (some ⟨s,0,none⟩) (some ⟨s,0,none⟩)):ziu w' r S:=by
  obtain ⟨m,h1,h2⟩:=h
  exact ⟨m,h1.grew (fun x hx=>by obtain rfl:=Option.some.inj hx; exact fun he=>hr he.symm) hg,h2⟩
theorem zzO {w:World} {K:Value->World->Prop} (hk:∀ w',ziu w' w.heap.size []->Ext w w'->K (.map (some w.heap.size)) w'):Run Tryz.prog (.makeMap zei) w K :=
  zkL (enc:=Value.string) fun w' h e=>hk w' ⟨[],h,fun a=>.inr ⟨by simp,rfl⟩⟩ e
theorem zoz {w:World} {r:Nat} {S:List ByteArray} (h:ziu w r S) (a:ByteArray) {K:Value->World->Prop} (hk:∀ b:Bool,(b=true↔a∈S)->K (.bool b) w):Run Tryz.prog (.lookup zei (.map (some r)) (.string a) false) w K:=by
  obtain ⟨m,h1,h2⟩:=h
  obtain ⟨i,hi,hz⟩:∃ i,Tryz.prog.info? ztU=some i/\i.zero=some (.bool false):=by
    have:(Tryz.prog.info? ztU).map (·.zero)=some (some (.bool false)):=by kernel_rfl
    obtain ⟨i,h1,h2⟩:=Option.map_eq_some_iff.1 this
    exact ⟨i,h1,h2⟩
  refine zm1 (enc:=Value.string) (zsF (k:=zay) (by kernel_rfl)) (e:=ztU) (by kernel_rfl) hi hz h1 ?_
  rcases h2 a with ⟨h3,h4⟩|⟨h3,h4⟩
  · rw [h4]; exact hk true ⟨fun _=>h3,fun _=>rfl⟩
  · rw [h4]; exact hk false ⟨fun h=>(by cases h),fun h=>absurd h h3⟩
theorem ztk {w:World} {r:Nat} {S:List ByteArray} (h:ziu w r S) (a:ByteArray) {K:Value->World->Prop} (hk:∀ w',ziu w' r (S++[a])->zcv w w' (some ⟨r,0,none⟩) (some ⟨r,0,none⟩)->K undef w'):Run Tryz.prog (.mapUpdate zei (.map (some r)) (.string a) (.bool true)) w K:=by
  obtain ⟨m,h1,h2⟩:=h
  refine zhW (enc:=Value.string) (zsF (k:=zay) (by kernel_rfl)) (e:=ztU) (by kernel_rfl) h1 fun w' h3 h4=>hk w' ⟨_,h3,fun b=>?_⟩ h4
  rw [zlt]
  by_cases hab:a=b
  · subst hab; exact .inl ⟨by simp,by simp⟩
  · have:b≠a:=fun h=>hab h.symm
    rw [if_neg hab]
    rcases h2 b with ⟨h5,h6⟩|⟨h5,h6⟩
    · exact .inl ⟨List.mem_append_left _ h5,h6⟩
    · exact .inr ⟨fun h=>by rcases List.mem_append.1 h with h|h; exact h5 h; exact this (by simpa using h),h6⟩
theorem zrM {α:Type} {l:List α} (h:l.Nodup) (k:Nat) {x:α} (hx:l[k]?=some x):x∉l.take k:=by
  intro hm
  obtain ⟨j,hj,he⟩:=List.getElem_of_mem hm
  rw [List.length_take] at hj
  rw [List.getElem_take] at he
  have h1:l[j]?=some x:=by rw [List.getElem?_eq_getElem (by omega),he]
  have:=(List.getElem?_inj (by omega) h).1 (h1.trans hx.symm)
  omega
theorem zj3 {α:Type}:∀ {l:List α},(∀ (k:Nat) x,l[k]?=some x->x∉l.take k)->l.Nodup:=by
  intro l h
  rw [List.nodup_iff_pairwise_ne,List.pairwise_iff_getElem]
  intro i j hi hj hij he
  refine h j _ (List.getElem?_eq_getElem hj) ?_
  rw [List.mem_iff_getElem]
  exact ⟨i,by simp; omega,by simp [he]⟩
theorem zc1 {α β:Type} (f:α->β) {l:List α} (d:α) {k:Nat} (h:k<l.length):(l.take (k+1)).map f=(l.take k).map f++[f (l.getD k d)]:=by
  rw [List.take_add_one,getElem?_getD l d h]; simp
theorem zss (p:Option Addr) (c:Nat) (L:List Ht) (h63:(L.length:Int)<=9223372036854775807) (hO:∀ h∈L,zwf h) (w:World) (hL:zjv w p L) :
    FnP Tryz.prog zcc #[.slice p L.length c] w fun v w'=>Ext w w'/\∃ e:Int,v=.int .i64 e/\(e=0↔zkB L)/\e≠5/\(∀ h r,L=h::r->lbB h.name=false->L.length<=30->e=3):=by
  refine zlH p L.length c w _ ⟨fun hgt w0 h0=>⟨h0,2,rfl,⟨fun h=>by omega,fun h=>by have:=h.1; omega⟩,by omega,fun h r _ _ hl=>by omega⟩,fun hle w0 h0=>?_⟩
  refine zzO fun w1 S1 e1=>⟨e1,_,rfl,?_⟩
  generalize hr1:w0.heap.size=r1 at S1
  have x1:=h0.trans e1
  have hw1:w.heap.size<=r1:=by have:=h0.size; omega
  refine ⟨fun k w'=>Ext w w'/\0<=k/\k<=L.length/\ziu w' r1 ((L.take k.toNat).map (·.name))/\(∀ j:Nat,(j:Int)<k->zGF (L.getD j default))/\(∀ j:Nat,(j:Int)<k->(L.getD j default).name∉(L.take j).map (·.name)),fun k _=>(L.length-k).toNat,⟨x1,by omega,by omega,S1,fun j hj=>by omega,fun j hj=>by omega⟩,?_⟩
  rintro k w5 ⟨x5,hk0,hk1,S5,hok,hdist⟩
  have fin:∀ {e:Int} {w':World},Ext w w'->(e≠0->¬ zkB L)->e≠0->e≠5->(∀ h r,L=h::r->lbB h.name=false->L.length<=30->e=3)->Ext w w'/\∃ e':Int,Value.int .i64 e=.int .i64 e'/\(e'=0↔zkB L)/\e'≠5/\(∀ h r,L=h::r->lbB h.name=false->L.length<=30->e'=3):=fun hx h1 h2 h3 h4=>⟨hx,_,rfl,⟨fun h=>absurd h h2,fun h=>absurd h (h1 h2)⟩,h3,h4⟩
  refine ⟨fun hlt=>?_,fun hge w6 h6=>⟨x5.trans h6,0,rfl,⟨fun _=>⟨by omega,fun h hh=>?_,?_⟩,fun _=>rfl⟩,by omega,fun h r he hf _=>?_⟩⟩
  · obtain ⟨q,d,hp,hp8,g',hLb⟩:=hL.at hk0 hlt
    have hm:=zan L default (i:=k.toNat) (by omega)
    have hOk:=hO _ hm
    generalize hHd:L.getD k.toNat default=H at g' hLb hm hOk
    have g:∀ (j:Nat) u,(zEW H q d)[j]?=some u->Go.Sx.cell w5 (pIdx p k 8) j=some u:=fun j u hu=>zaJ x5 (g' j u hu)
    obtain ⟨ho1,ho2,ho3⟩:=hOk
    have hnot:∀ (P:Ht->Prop),(∀ h∈L,P h)->P H:=fun P h=>h H hm
    have first:lbB H.name=true->∀ h r,L=h::r->lbB h.name=false->(k:Int)≠0\/False:=fun hn h r he hf=>by
      refine .inl fun hz=>?_
      have:H=h:=by rw [<- hHd,he,hz]; rfl
      rw [this,hf] at hn; cases hn
    have nofirst:lbB H.name=true->∀ (e:Int) h r,L=h::r->lbB h.name=false->L.length<=30->e=3:=fun hn e h r he hf _=>by
      exfalso
      by_cases hz:k=0
      · have:H=h:=by rw [<- hHd,he,hz]; rfl
        rw [this,hf] at hn; cases hn
      · have h0':=(hok 0 (by omega)).1
        have:L.getD 0 default=h:=by rw [he]; rfl
        rw [this,hf] at h0'; cases h0'
    refine ⟨hp,hk0,hlt,hp8,_,g 0 _ rfl,_,_,_,g 1 _ rfl,_,g 2 _ rfl,_,g 3 _ rfl,_,g 4 _ rfl,_,g 5 _ rfl,_,g 6 _ rfl,_,g 7 _ rfl,fun b16 hb16=>?_⟩
    refine ⟨fun w'=>w'=w5/\lbB H.name=true/\H.name∉(L.take k.toNat).map (·.name)/\H.labels.length<=8,fun w19 h19=>?_,?_⟩
    · refine (zgl H.name ho1 w19).mono fun v w20 ⟨e20,hv⟩=>⟨e20,_,hv,fun hf w22 h22=>fin (x5.trans h22) (fun _ ho=>by have:=(ho.2.1 H hm).1; rw [hf] at this; cases this) (by omega) (by omega) (fun _ _ _ _ _=>rfl),fun hn w22 h22=>?_⟩
      refine zoz (S5.ext h22) H.name fun b hb=>⟨Ext.refl _,b,rfl,fun hin w25 h25=>fin (x5.trans h25) (fun _ ho=>?_) (by omega) (by omega) (nofirst hn 6),fun hnin=>⟨fun h8 w25 h25=>fin (x5.trans h25) (fun _ ho=>by have:=(ho.2.1 H hm).2.1; omega) (by omega) (by omega) (nofirst hn 2),fun h8=>⟨rfl,hn,(fun hm=>by rw [hb.2 hm] at hnin; cases hnin),by omega⟩⟩⟩
      have hin:H.name∈(L.take k.toNat).map (·.name):=hb.1 hin
      have hx:(L.map (·.name))[k.toNat]?=some H.name:=by rw [List.getElem?_map,getElem?_getD L default (by omega),hHd]; rfl
      refine zrM ho.2.2 k.toNat hx ?_
      rwa [<- List.map_take]
    rintro w5 ⟨rfl,hn,hnin,h8⟩ w19 x19
    have h19:=zaa x19
    have hb19:b16<w19.heap.size:=x19.lt b16 (by simp)
    have hr5:=S5.lt
    refine ztk (S5.ext h19) H.name fun w20 S20 g20=>⟨fun b hb=>?_,fun w21 x21=>?_⟩
    · simp at hb; subst hb
      refine g20.by_.block b hb19 fun he=>?_
      simp [blk] at he; omega
    have x20:Ext w w20:=g20.below (x5.trans h19) (x5.trans h19).size (fun a ha=>by obtain rfl:=Option.some.inj ha; exact hw1)
    have h21:=zaa x21
    refine zzO fun w22 S22 e22=>⟨e22,_,rfl,?_⟩
    have hr21:r1<w21.heap.size:=by have:=S20.lt; have:=h21.size; omega
    generalize hr2:w21.heap.size=r2 at S22 hr21
    have x22:=(x20.trans h21).trans e22
    have hb16r:b16<r2:=by have:=g20.size; have:=h21.size; omega
    refine ⟨fun j w'=>Ext w w'/\0<=j/\j<=H.labels.length/\ziu w' r1 ((L.take k.toNat).map (·.name)++[H.name])/\ziu w' r2 ((H.labels.take j.toNat).map (·.key))/\(∀ i:Nat,(i:Int)<j->lbB (H.labels.getD i default).key=true/\lbB (H.labels.getD i default).val=true)/\(∀ i:Nat,(i:Int)<j->(H.labels.getD i default).key∉(H.labels.take i).map (·.key)),fun j _=>(H.labels.length-j).toNat,⟨x22,by omega,by omega,(S20.ext h21).ext e22,S22,fun i hi=>by omega,fun i hi=>by omega⟩,?_⟩
    rintro j w26 ⟨x26,hj0,hj1,Sa,Sb,hlab,hldist⟩
    refine ⟨fun hjl=>?_,fun hjg w27 h27=>?_⟩
    · have hLb6:=hLb.ext x26
      have l0:=hLb6.idx default hj0 hjl (j:=0) rfl
      have l1:=hLb6.idx default hj0 hjl (j:=1) rfl
      have hlm:=zan H.labels default (i:=j.toNat) (by omega)
      have hls:=ho3 _ hlm
      generalize hld:H.labels.getD j.toNat default=lb at l0 l1 hlm hls
      refine ⟨fun hq=>zak l0 (zah.2 hq),hj0,hjl,zak l0,_,l0,_,l1,fun b29 hb29=>?_⟩
      refine ⟨fun w'=>w'=w26/\lbB lb.key=true/\lbB lb.val=true/\lb.key∉(H.labels.take j.toNat).map (·.key),fun w32 h32=>?_,?_⟩
      · refine (zgl lb.key hls.1 w32).mono fun v w33 ⟨e33,hv⟩=>⟨e33,_,hv,fun hf w35 h35=>fin (x26.trans h35) (fun _ ho=>by have:=((ho.2.1 H hm).2.2.1.1 lb hlm).1; rw [hf] at this; cases this) (by omega) (by omega) (fun _ _ _ _ _=>rfl),fun hkt w35 h35=>?_⟩
        refine (zgl lb.val hls.2 w35).mono fun v w36 ⟨e36,hv⟩=>⟨e36,_,hv,fun hf w38 h38=>fin (x26.trans h38) (fun _ ho=>by have:=((ho.2.1 H hm).2.2.1.1 lb hlm).2; rw [hf] at this; cases this) (by omega) (by omega) (fun _ _ _ _ _=>rfl),fun hvt w38 h38=>?_⟩
        refine zoz (Sb.ext h38) lb.key fun b hb=>⟨Ext.refl _,b,rfl,fun hin w41 h41=>fin (x26.trans h41) (fun _ ho=>?_) (by omega) (by omega) (nofirst hn 6),fun hnin=>⟨rfl,hkt,hvt,fun hm=>by rw [hb.2 hm] at hnin; cases hnin⟩⟩
        have hin:lb.key∈(H.labels.take j.toNat).map (·.key):=hb.1 hin
        have hx:(H.labels.map (·.key))[j.toNat]?=some lb.key:=by rw [List.getElem?_map,getElem?_getD H.labels default (by omega),hld]; rfl
        refine zrM (ho.2.1 H hm).2.2.1.2 j.toNat hx ?_
        rwa [<- List.map_take]
      rintro w26 ⟨rfl,hkt,hvt,hknin⟩ w32 x32
      have h32:=zaa x32
      refine ztk (Sb.ext h32) lb.key fun w33 S33 g33=>⟨fun b hb=>?_,i64 (by omega),⟨?_,by omega,by omega,?_,?_,fun i hi=>?_,fun i hi=>?_⟩,by simp only []; omega⟩
      · have hlt':=x32.lt b hb
        refine g33.by_.block b hlt' fun he=>?_
        simp [blk] at he
        simp at hb
        have:=Sb.lt
        rcases hb with rfl|rfl<;>omega
      · exact g33.below (x26.trans h32) (x26.trans h32).size (fun a ha=>by obtain rfl:=Option.some.inj ha; show w.heap.size<=r2; omega)
      · exact (Sa.ext h32).grew (by omega) g33
      · rw [show (j+1).toNat=j.toNat+1 by omega,zc1 (fun x:Lb=>x.key) default (by omega),hld]; exact S33
      · by_cases hij:(i:Int)<j
        · exact hlab i hij
        · obtain rfl:i=j.toNat:=by omega
          rw [hld]; exact ⟨hkt,hvt⟩
      · by_cases hij:(i:Int)<j
        · exact hldist i hij
        · obtain rfl:i=j.toNat:=by omega
          rw [hld]; exact hknin
    · have hL1:okLb H.labels:=⟨fun x hx=>by
        obtain ⟨i,hi,rfl⟩:=List.getElem_of_mem hx
        have:=hlab i (by omega)
        simpa [List.getD_eq_getElem?_getD,hi] using this,zj3 fun i x hx=>by
        have hi:i<H.labels.length:=by
          have:=(List.getElem?_eq_some_iff.1 hx).1
          simpa using this
        rw [List.getElem?_map,getElem?_getD H.labels default hi] at hx
        have hx:(H.labels.getD i default).key=x:=by simpa using hx
        rw [<- hx,<- List.map_take]
        exact hldist i (by omega)⟩
      refine (zxj H.used H.has w27).mono fun v w28 ⟨e28,t,e,hv,ht⟩=>⟨e28,_,_,hv,fun w31 h31=>?_⟩
      refine (zew H.has w31).mono fun v w32 ⟨e32,hv⟩=>⟨e32,_,hv,?_⟩
      refine ⟨fun w'=>w'=w26/\okN H.has/\okN H.used/\zj1 H.used H.has,⟨fun hne w36 h36=>?_,fun he0=>⟨fun hne w36 h36=>?_,fun he=>⟨fun hf w36 h36=>?_,fun htt=>?_⟩⟩⟩,?_⟩
      · have hno:¬ okN H.has:=fun h=>hne (zba.2 h)
        rw [zmq hno]
        exact fin (x26.trans h36) (fun _ ho=>hno (ho.2.1 H hm).2.2.2.1) (by omega) (by omega) (nofirst hn 4)
      · rcases ht with ⟨_,_,rfl,_⟩|⟨hno,rfl,_⟩
        · exact absurd rfl hne
        · exact fin (x26.trans h36) (fun _ ho=>hno ⟨(ho.2.1 H hm).2.2.2.2.1,(ho.2.1 H hm).2.2.2.1⟩) (by omega) (by omega) (nofirst hn 4)
      · rcases ht with ⟨_,_,_,rfl⟩|⟨_,rfl,_⟩
        · exact fin (x26.trans h36) (fun _ ho=>by have:=(ho.2.1 H hm).2.2.2.2.2; simp [this] at hf) (by omega) (by omega) (nofirst hn 10)
        · omega
      · rcases ht with ⟨h1,h2,_,rfl⟩|⟨_,rfl,_⟩
        · exact ⟨rfl,h2,h1,by simpa using htt⟩
        · omega
      · rintro w26 ⟨rfl,ha,hu,hfit⟩
        refine ⟨i64 (by omega),⟨x26,by omega,by omega,?_,fun i hi=>?_,fun i hi=>?_⟩,by simp only []; omega⟩
        · rw [show (k+1).toNat=k.toNat+1 by omega,zc1 (fun x:Ht=>x.name) default (by omega),hHd]; exact Sa
        · by_cases hik:(i:Int)<k
          · exact hok i hik
          · obtain rfl:i=k.toNat:=by omega
            rw [hHd]; exact ⟨hn,h8,hL1,ha,hu,hfit⟩
        · by_cases hik:(i:Int)<k
          · exact hdist i hik
          · obtain rfl:i=k.toNat:=by omega
            rw [hHd]; exact hnin
  · obtain ⟨i,hi,rfl⟩:=List.getElem_of_mem hh
    have:=hok i (by omega)
    simpa [List.getD_eq_getElem?_getD,hi] using this
  · refine zj3 fun i x hx=>?_
    have hi:i<L.length:=by
      have:=(List.getElem?_eq_some_iff.1 hx).1
      simpa using this
    rw [List.getElem?_map,getElem?_getD L default hi] at hx
    have hx:(L.getD i default).name=x:=by simpa using hx
    rw [<- hx,<- List.map_take]
    exact hdist i (by omega)
  · exfalso
    have h0':=(hok 0 (by rw [he] at hge; simp at hge; omega)).1
    have:L.getD 0 default=h:=by rw [he]; rfl
    rw [this,hf] at h0'; cases h0'
theorem zpU (xs:List Value):∀ (vs ys:List Value) (i:Nat),zdE (xs++ys) (xs.length+i) vs=xs++zdE ys i vs
  |[],ys,i => rfl
  |v::r,ys,i => by
    simp only [zdE]
    rw [List.set_append_right _ _ (by omega),show xs.length+i-xs.length=i by omega,show xs.length+i+1=xs.length+(i+1) by omega]
    exact zpU xs r _ _
theorem zrZ (ys:List Value):∀ (vs xs:List Value) (i:Nat),i+vs.length<=xs.length->zdE (xs++ys) i vs=zdE xs i vs++ys
  |[],xs,i,_ => rfl
  |v::r,xs,i,h => by
    simp only [zdE]
    simp only [List.length_cons] at h
    rw [List.set_append_left _ _ (by omega)]
    exact zrZ ys r _ _ (by simp; omega)
theorem zlM {α:Type} {enc:α->List Value} {s:Nat} (hs:∀ x,(enc x).length=s) (L:List α) (i j:Nat) (vs:List Value) (x d:α) (hi:i<L.length) (hj:j+vs.length<=s) (he:zdE (enc (L.getD i d)) j vs=enc x) :
    zdE (L.flatMap enc) (i*s+j) vs=(L.set i x).flatMap enc:=by
  have hd:L.getD i d=L[i]:=by simp [List.getD_eq_getElem?_getD,hi]
  have h1:L=L.take i++L[i]::L.drop (i+1):=by rw [List.getElem_cons_drop,List.take_append_drop]
  have h2:L.set i x=L.take i++x::L.drop (i+1):=by
    rw [List.set_eq_take_append_cons_drop,if_pos hi]
  rw [h2]
  conv=>lhs; rw [h1]
  simp only [List.flatMap_append,List.flatMap_cons]
  have hl:((L.take i).flatMap enc).length=i*s:=by rw [zfc hs,List.length_take,Nat.min_eq_left (by omega)]
  rw [<- hl,zpU,zrZ _ _ _ _ (by rw [hs]; omega),<- hd,he]
structure Hm where
  h:Ht
  q:Option Addr
  d:Nat
instance:Inhabited Hm:=⟨⟨default,none,0⟩⟩
abbrev zjz (m:Hm):List Value:=zEW m.h m.q m.d
theorem zf8 (m:Hm):(zjz m).length=8:=rfl
theorem zyX (m:Hm):∀ u∈zjz m,u.oneCell'=true:=by
  intro u hu
  simp [zjz,zEW] at hu
  rcases hu with rfl|rfl|rfl|rfl|rfl|rfl|rfl|rfl<;>rfl
theorem hs_ms {w:World} {p:Option Addr} {L:List Ht} (h:zjv w p L):∃ M:List Hm,M.map (·.h)=L/\zgJ 8 zjz w p M/\∀ m∈M,Lbs w m.q m.h.labels:=by
  have key:∀ n,n<=L.length->∃ M:List Hm,M.map (·.h)=L.take n/\zgJ 8 zjz w p M/\∀ m∈M,Lbs w m.q m.h.labels:=by
    intro n
    induction n with
    |zero => exact fun _ => ⟨[],rfl,fun i x hx => by simp at hx,fun m hm => by simp at hm⟩
    |succ n ih =>
      intro hn
      obtain ⟨M,h1,h2,h3⟩:=ih (by omega)
      have hlen:M.length=n:=by have:=congrArg List.length h1; simp at this; omega
      obtain ⟨q,c,h4,h5⟩:=h n L[n] (List.getElem?_eq_getElem (by omega))
      refine ⟨M++[⟨L[n],q,c⟩],by rw [List.map_append,h1,List.take_succ_eq_append_getElem (by omega)]; rfl,fun i x hx j u hu=>?_,fun m hm=>?_⟩
      · by_cases hi:i<n
        · rw [List.getElem?_append_left (by omega)] at hx
          exact h2 i x hx j u hu
        · rw [List.getElem?_append_right (by omega)] at hx
          have:i-M.length=0:=by
            rcases Nat.eq_zero_or_pos (i-M.length) with h0|h0
            · exact h0
            · rw [List.getElem?_eq_none (by simp; omega)] at hx; cases hx
          rw [this] at hx
          simp at hx; subst hx
          obtain rfl:i=n:=by omega
          exact h4 j u hu
      · rcases List.mem_append.1 hm with hm|hm
        · exact h3 m hm
        · simp at hm; subst hm; exact h5
  obtain ⟨M,h1,h2⟩:=key L.length (Nat.le_refl _)
  exact ⟨M,by simpa using h1,h2⟩
theorem ms_hs {w:World} {p:Option Addr} {M:List Hm} (h:zgJ 8 zjz w p M) (hl:∀ m∈M,Lbs w m.q m.h.labels):zjv w p (M.map (·.h)):=fun i x hx=>by
  rw [List.getElem?_map] at hx
  obtain ⟨m,hm,rfl⟩:=Option.map_eq_some_iff.1 hx
  exact ⟨m.q,m.d,fun j u hu=>h i m hm j u hu,hl m (List.mem_of_getElem? hm)⟩
theorem zjC {w w':World} {q p:Option Addr} {l:List Lb} (h:Lbs w q l) (ha:l=[]\/zbP q p) (hg:zcv w w' p p):Lbs w' q l:=by
  rcases ha with rfl|ha
  · exact fun i x hx=>by simp at hx
  · intro i x hx j u hu
    have h1:=zmY (enc:=zsm) (fun _=>rfl) h
    have h2:=h1.grew ha hg
    have h3:(l.flatMap zsm)[i*2+j]?=some u:=by
      have hi:=(List.getElem?_eq_some_iff.1 hx).1
      have hj:j<2:=(List.getElem?_eq_some_iff.1 hu).1
      have:=zDP (enc:=zsm) (s:=2) (fun _=>rfl) l i
      rw [<- List.getElem?_drop,this,List.drop_eq_getElem_cons hi,List.flatMap_cons,List.getElem?_append_left hj]
      rw [(List.getElem?_eq_some_iff.1 hx).2]; exact hu
    exact h2 _ _ h3
theorem zyr (q:Option Addr) (c:Nat) (l:List Lb) (h8:l.length<=8) (w:World) (h:Lbs w q l) :
    FnP Tryz.prog zaE #[.slice q l.length c] w fun v w'=>Ext w w'/\∃ q' c',v=.slice q' l.length c'/\Lbs w' q' l/\∀ a,q'=some a->w.heap.size<=a.block:=by
  refine zdr q l.length c w _ ⟨fun hn w0 h0=>?_,fun hn=>?_⟩
  · cases l with
    |nil => exact ⟨h0,none,0,rfl,fun i x hx => by simp at hx,fun a ha => by cases ha⟩
    |cons x r => exact absurd hn (h.ne (List.mem_cons_self ..) (by simp))
  · refine zoW (Q:=fun v w'=>Ext w w'/\∃ q' c',v=.slice q' l.length c'/\Lbs w' q' l/\∀ a,q'=some a->w.heap.size<=a.block) zla (by omega) (zmY (enc:=zsm) (s:=2) (fun _=>rfl) h) (zfc (enc:=zsm) (s:=2) (fun _=>rfl) l) (zzB (fun x u hu=>?_) l) (by omega) (by omega) hn fun p' c' w' hx o=>⟨hx,p',c',rfl,o.recs fun _ _=>rfl,fun a ha=>(o.lt a ha).1⟩
    simp at hu; rcases hu with rfl|rfl<;>rfl
theorem zr4 (p:Option Addr) (c:Nat) (M:List Hm) (h30:M.length<=30) (w:World) (h:zgJ 8 zjz w p M) :
    FnP Tryz.prog zaj #[.slice p M.length c] w fun v w'=>Ext w w'/\∃ q' c',v=.slice q' M.length c'/\Own w.heap.size w' zdM 8 q' M.length c' (M.flatMap zjz):=by
  refine zdV p M.length c w _ ⟨fun hn w0 h0=>?_,fun hn=>?_⟩
  · cases M with
    |nil => exact ⟨h0,none,0,rfl,Own.nil⟩
    |cons x r => exact absurd hn (h.ne (List.mem_cons_self ..) (by simp))
  · exact zoW (Q:=fun v w'=>Ext w w'/\∃ q' c',v=.slice q' M.length c'/\Own w.heap.size w' zdM 8 q' M.length c' (M.flatMap zjz)) zf6 (by omega) (zmY zf8 h) (zfc zf8 M) (zzB zyX M) (by omega) (by omega) hn fun p' c' w' hx o=>⟨hx,p',c',rfl,o⟩
def LbA (w:World) (p:Option Addr) (m:Hm):Prop:=Lbs w m.q m.h.labels/\(m.h.labels=[]\/zbP m.q p)
def LbN (n:Nat) (m:Hm):Prop:=m.h.labels=[]\/∀ a,m.q=some a->n<=a.block
def HsS (n:Nat) (w:World) (p:Option Addr) (L:List Ht):Prop:=∀ S:Nat->Prop,(∀ b,S b->b<n)->∀ w'',Fr S w w''->zjv w'' p L
theorem HsS.at {n:Nat} {w:World} {p:Option Addr} {L:List Ht} (h:HsS n w p L):zjv w p L:=h (fun _=>False) (fun _ h=>h.elim) w (Fr.refl _ w)
theorem HsS.ext {n:Nat} {w w':World} {p:Option Addr} {L:List Ht} (h:HsS n w p L) (e:Ext w w'):HsS n w' p L:=fun S hS w'' f=>h S hS w'' ((zac e).tr f)
theorem HsS.weak {n m:Nat} {w:World} {p:Option Addr} {L:List Ht} (h:HsS n w p L) (e:m<=n):HsS m w p L:=fun S hS w'' f=>h S (fun b hb=>Nat.lt_of_lt_of_le (hS b hb) e) w'' f
theorem lbs_fr {S:Nat->Prop} {w w':World} {q:Option Addr} {l:List Lb} (h:Lbs w q l) (ha:l=[]\/∀ a,q=some a->¬ S a.block) (k:Fr S w w'):Lbs w' q l:=fun i x hx j u hu=>by
  rcases ha with rfl|ha
  · simp at hx
  · exact zdN (h i x hx j u hu) k ha
theorem zCU {n N c:Nat} {w:World} {p:Option Addr} {M:List Hm} (o:Own n w zdM 8 p N c (M.flatMap zjz)) (hl:∀ m∈M,Lbs w m.q m.h.labels) (hn:∀ m∈M,LbN n m):HsS n w p (M.map (·.h)):=fun S hS w'' f=>by
  have lt:∀ {a:Option Addr},(∀ y,a=some y->n<=y.block)->∀ y,a=some y->¬ S y.block:=fun h y hy hs=>by
    have:=h y hy
    have:=hS _ hs
    omega
  refine ms_hs ((o.fr f (lt fun y hy=>(o.lt y hy).1)).recs fun _ _=>rfl) fun m hm=>lbs_fr (hl m hm) ?_ f
  rcases hn m hm with h|h
  · exact .inl h
  · exact .inr (lt h)
theorem own_k (p:Option Addr) (c:Nat) (L:List Ht) (h30:L.length<=30) (h8:∀ h∈L,h.labels.length<=8) (w:World) (hL:zjv w p L) :
    FnP Tryz.prog zme #[.slice p L.length c] w fun v w'=>Ext w w'/\∃ p' c',∃ M:List Hm,v=.slice p' L.length c'/\M.map (·.h)=L/\Own w.heap.size w' zdM 8 p' L.length c' (M.flatMap zjz)/\(∀ m∈M,LbA w' p' m)/\∀ m∈M,LbN w.heap.size m:=by
  refine zxB p L.length c w _ fun w0 h0=>?_
  obtain ⟨M0,hM0,hR0,hl0⟩:=hs_ms (hL.ext h0)
  have hlen0:M0.length=L.length:=by rw [<- hM0]; simp
  rw [<- hlen0]
  refine (zr4 p c M0 (by omega) w0 hR0).mono fun v w1 ⟨e1,p',c',hv,o1⟩=>⟨e1,p',M0.length,c',hv,?_⟩
  have lt0:∀ m∈M0,LbA w1 p' m:=fun m hm=>⟨(hl0 m hm).ext e1,by
    cases hlb:m.h.labels with
    |nil => exact .inl rfl
    |cons x r =>
      refine .inr fun a b ha hb=>?_
      have:=(hl0 m hm).lt (x:=x) (by rw [hlb]; exact List.mem_cons_self ..) (by simp) a ha
      have:=(o1.lt b hb).1
      omega⟩
  refine ⟨fun k w'=>Ext w w'/\0<=k/\k<=M0.length/\∃ M:List Hm,M.map (·.h)=L/\Own w0.heap.size w' zdM 8 p' M0.length c' (M.flatMap zjz)/\(∀ m∈M,LbA w' p' m)/\∀ j,j<k.toNat->∀ m,M[j]?=some m->LbN w.heap.size m,fun k _=>(M0.length-k).toNat,⟨h0.trans e1,by omega,by omega,M0,hM0,o1,lt0,fun j hj=>by simp at hj⟩,?_⟩
  rintro k w7 ⟨x7,hk0,hk1,M,hM,o7,hA7,hN7⟩
  have hlen:M.length=M0.length:=by rw [hlen0,<- hM]; simp
  refine ⟨fun hlt=>?_,fun hge w8 h8=>⟨x7.trans h8,p',c',M,rfl,hM,(o7.ext h8).weak h0.size,fun m hm=>⟨(hA7 m hm).1.ext h8,(hA7 m hm).2⟩,fun m hm=>by
    obtain ⟨j,hj⟩:=List.mem_iff_getElem?.1 hm
    have hjl:=(List.getElem?_eq_some_iff.1 hj).1
    exact hN7 j (by omega) m hj⟩⟩
  have r7:zgJ 8 zjz w7 p' M:=o7.recs fun _ _=>rfl
  have g:=r7.idx default hk0 (by omega) (j:=1) rfl
  have hp':=o7.ne1 (by omega) (by omega)
  have hm:=zan M default (i:=k.toNat) (by omega)
  generalize hmd:M.getD k.toNat default=m at g hm
  have hml:m.h∈L:=by rw [<- hM]; exact List.mem_map_of_mem hm
  refine ⟨hp',hk0,hlt,fun hq=>hp' (zah.1 hq),m.q,m.h.labels.length,m.d,by rw [zal]; exact g,fun w11 h11=>?_⟩
  refine (zyr m.q m.d m.h.labels (h8 _ hml) w11 ((hA7 m hm).1.ext h11)).mono fun v w12 ⟨e12,q',d',hv,hl',hn'⟩=>⟨e12,q',_,d',hv,hp',hk0,hlt,fun hq=>hp' (zah.1 hq),?_⟩
  have x12:=h11.trans e12
  have o12:=o7.ext x12
  refine zaW o12 zot (by rw [zfc zf8]; simp; omega) (by simp) (by intro v hv; simp at hv; subst hv; rfl) (by simp) fun w16 o16 g16=>?_
  rw [zlM zf8 M k.toNat 1 [.slice q' m.h.labels.length d'] ⟨m.h,q',d'⟩ default (by omega) (by simp) (by rw [hmd]; rfl)] at o16
  have hmap:(M.set k.toNat ⟨m.h,q',d'⟩).map (·.h)=L:=by
    rw [List.map_set,hM]
    have hk:k.toNat<L.length:=by omega
    have:L[k.toNat]=m.h:=by
      have h1:(M.map (·.h)).getD k.toNat default=m.h:=by
        rw [<- hmd,List.getD_eq_getElem?_getD,List.getD_eq_getElem?_getD,List.getElem?_map,List.getElem?_eq_getElem (by omega:k.toNat<M.length)]; rfl
      rw [hM] at h1
      simpa [List.getD_eq_getElem?_getD,hk] using h1
    rw [<- this,List.set_getElem_self]
  refine ⟨i64 (by omega),⟨?_,by omega,by omega,_,hmap,o16,fun m' hm'=>?_,fun j hj m' hm'=>?_⟩,by simp only []; omega⟩
  · exact g16.ext (x7.trans x12) (o12.weak (by have:=h0.size; omega))
  · rcases List.mem_or_eq_of_mem_set hm' with hm'|rfl
    · exact ⟨zjC ((hA7 m' hm').1.ext x12) (hA7 m' hm').2 g16,(hA7 m' hm').2⟩
    · have ha:zbP q' p':=fun a b ha hb=>by
        have:=hn' a ha
        have:=(o7.lt b hb).2
        have:=h11.size
        omega
      exact ⟨zjC hl' (.inr ha) g16,.inr ha⟩
  · by_cases hjk:j=k.toNat
    · subst hjk
      rw [List.getElem?_set_self (by omega)] at hm'
      obtain rfl:=Option.some.inj hm'
      exact .inr fun a ha=>(by have:=hn' a ha; have:=x7.size; have:=h11.size; omega)
    · rw [List.getElem?_set_ne (by omega)] at hm'
      exact hN7 j (by omega) m' hm'
def zfS (h:Ht) (s:Nd):Ht:=⟨h.name,h.labels,h.has,s⟩
theorem zyN (R:Ht->Nd->Int->Prop) (p:Option Addr) (c:Nat) (L:List Ht) (h63:(L.length:Int)<=9223372036854775807) (hO:∀ h∈L,zwf h) (i:Int) (f:Value) (w:World) (hL:zjv w p L)
    (hf:∀ h∈L,zGF h->∀ q d w',Ext w w'->zih Tryz.prog f [hv h q d] w' fun v w''=>Ext w' w''/\∃ s e,v=.tuple #[nv s,.int .i64 e]/\R h s e) :
    FnP Tryz.prog ze5 #[.slice p L.length c,.int .i64 i,f] w fun v w'=>Ext w w'/\∃ p' n' c' e,v=.tuple #[.slice p' n' c',.int .i64 e] /\
      ((e≠0/\n'=0/\(zkB L->0<=i->i<L.length->∃ s,R (L.getD i.toNat default) s e)) \/
       (e=0/\zkB L/\0<=i/\i<L.length/\n'=L.length/\n'<=c'/\∃ s,R (L.getD i.toNat default) s 0/\HsS w.heap.size w' p' (L.set i.toNat (zfS (L.getD i.toNat default) s)))):=by
  refine zqO p L.length c i f w _ fun w0 h0=>?_
  refine (zss p c L h63 hO w0 (hL.ext h0)).mono fun v w1 ⟨e1,e,hv,he,_,_⟩=>⟨e1,e,hv,fun hne w3 h3=>⟨h3,_,_,_,_,rfl,.inl ⟨hne,rfl,fun ho=>absurd (he.2 ho) hne⟩⟩,fun h0'=>?_⟩
  have hok:=he.1 h0'
  refine ⟨fun hout w3 h3=>⟨h3,_,_,_,_,rfl,.inl ⟨by omega,rfl,fun _ _ _=>by omega⟩⟩,fun ⟨hi0,hi1⟩=>?_⟩
  obtain ⟨q,d,hp,hp8,g,hl⟩:=hL.at hi0 hi1
  have hm:=zan L default (i:=i.toNat) (by omega)
  generalize hHd:L.getD i.toNat default=H at g hl hm
  refine ⟨hp,hi0,hi1,hp8,_,g 0 _ rfl,_,_,_,g 1 _ rfl,_,g 2 _ rfl,_,g 3 _ rfl,_,g 4 _ rfl,_,g 5 _ rfl,_,g 6 _ rfl,_,g 7 _ rfl,fun w13 h13=>?_⟩
  obtain ⟨fi,cap,hfe,hfp⟩:=hf H hm (hok.2.1 H hm) q d w13 h13
  refine ⟨fi,cap,hfe,hfp.mono fun v w14 ⟨e14,s,e',hv',hR⟩=>⟨e14,s.c,s.m,s.g,e',hv',fun b19 hb19=>⟨fun hne w20 h20=>⟨h20,_,_,_,_,rfl,.inl ⟨hne,rfl,fun _ _ _=>⟨s,hR⟩⟩⟩,fun h0' w20 x20=>?_⟩⟩⟩
  subst h0'
  have h20:=zaa x20
  have hb20:b19<w20.heap.size:=x20.lt b19 (by simp)
  refine (own_k p c L hok.1 (fun h hh=>(hok.2.1 h hh).2.1) w20 (hL.ext h20)).mono fun v w21 ⟨e21,p',c',M,hv,hM,o21,hA,hN⟩=>⟨e21,p',_,c',hv,?_⟩
  have hp':=o21.ne1 (by omega) (by omega)
  have hlen:M.length=L.length:=by rw [<- hM]; simp
  refine ⟨hp',hi0,hi1,fun hq=>hp' (zah.1 hq),?_⟩
  refine zaW o21 zot (by rw [zfc zf8]; simp; omega) (by simp) (by intro v hv; simp at hv; rcases hv with rfl|rfl|rfl<;>rfl) (fun b hb x hx=>by simp at hb; subst hb; have:=(o21.lt x hx).1; omega) fun w25 o25 g25 w26 h26=>?_
  have hmd:(M.getD i.toNat default).h=H:=by
    rw [<- hHd,<- hM,List.getD_eq_getElem?_getD,List.getD_eq_getElem?_getD,List.getElem?_map,List.getElem?_eq_getElem (by omega:i.toNat<M.length)]; rfl
  rw [zlM zf8 M i.toNat 5 _ ⟨zfS H s,(M.getD i.toNat default).q,(M.getD i.toNat default).d⟩ default (by omega) (by simp) (by
    show zdE (zEW (M.getD i.toNat default).h (M.getD i.toNat default).q (M.getD i.toNat default).d) 5 _=zEW (zfS H s) _ _
    rw [hmd]; rfl)] at o25
  have hx25:Ext w w25:=g25.ext (h20.trans e21) (o21.weak h20.size)
  refine ⟨hx25.trans h26,p',_,c',0,rfl,.inr ⟨rfl,hok,hi0,hi1,rfl,o21.le.1,s,hR,?_⟩⟩
  have:=zCU o25 (fun m hm=>?_) (fun m hm=>?_)
  · have hmap:(M.set i.toNat ⟨zfS H s,(M.getD i.toNat default).q,(M.getD i.toNat default).d⟩).map (·.h)=L.set i.toNat (zfS H s):=by rw [List.map_set,hM]
    rw [hmap] at this
    exact (this.ext h26).weak h20.size
  · rcases List.mem_or_eq_of_mem_set hm with hm|rfl
    · exact zjC (hA m hm).1 (hA m hm).2 g25
    · have hmm:=zan M default (i:=i.toNat) (by omega)
      have:=zjC (hA _ hmm).1 (hA _ hmm).2 g25
      rw [hmd] at this
      exact this
  · rcases List.mem_or_eq_of_mem_set hm with hm|rfl
    · exact hN m hm
    · have hmm:=zan M default (i:=i.toNat) (by omega)
      have:=hN _ hmm
      unfold LbN at this ⊢
      rw [hmd] at this
      exact this
theorem zlu {w:World} {p:Option Addr} {a:Nd} (h:zBB w p a):Go.Sx.cell w p 0=some (.int .i64 a.c)/\Go.Sx.cell w p 1=some (.int .i64 a.m)/\Go.Sx.cell w p 2=some (.int .i64 a.g):=⟨h 0 _ rfl,h 1 _ rfl,h 2 _ rfl⟩
theorem Take_k (p:Option Addr) (c:Nat) (L:List Ht) (h63:(L.length:Int)<=9223372036854775807) (hO:∀ h∈L,zwf h) (i:Int) (a:Nd) (w:World) (hL:zjv w p L) :
    FnP Tryz.prog zkg #[.slice p L.length c,.int .i64 i,nv a] w fun v w'=>Ext w w'/\∃ p' n' c' e,v=.tuple #[.slice p' n' c',.int .i64 e] /\
      ((e≠0/\n'=0/\(zkB L->0<=i->i<L.length->¬ (okN a/\zj1 a (zin (L.getD i.toNat default).has (L.getD i.toNat default).used)))) \/
       (e=0/\zkB L/\0<=i/\i<L.length/\n'=L.length/\n'<=c'/\okN a/\zj1 a (zin (L.getD i.toNat default).has (L.getD i.toNat default).used)/\HsS w.heap.size w' p' (L.set i.toNat (zfS (L.getD i.toNat default) (zwj (L.getD i.toNat default).used a))))):=by
  refine zvd p L.length c i a.c a.m a.g w _ fun w0 h0=>?_
  refine zH5 (x:=a) fun p1 w1 e1 hN hp1 w2 h2=>?_
  have x2:=(h0.trans e1).trans h2
  refine (zyN (fun h s e=>(e≠0/\¬ (okN a/\zj1 a (zin h.has h.used)))\/(e=0/\s=zwj h.used a/\okN a/\zj1 a (zin h.has h.used))) p c L h63 hO i _ w2 (hL.ext x2) fun h hh hok q d w3 h3=>?_).mono fun v w4 ⟨e4,p',n',c',e,hv,hr⟩=>⟨e4,_,_,_,_,hv,fun w8 h8=>⟨(x2.trans e4).trans h8,_,_,_,_,rfl,?_⟩⟩
  · refine ⟨zhm,#[.pointer p1],rfl,(zqN h.name q h.labels.length d h.has.c h.has.m h.has.g h.used.c h.used.m h.used.g p1 w3 _ ?_:FnP Tryz.prog zhm #[hv h q d,.pointer p1] w3 _)⟩
    intro b0 hb0 b1 hb1 w5 h5
    refine (zzs h.has h.used w5).mono fun v w6 ⟨e6,s,e,hv,hs⟩=>⟨e6,_,_,_,_,hv,fun b8 hb8=>?_⟩
    have hs:e=0/\s=zin h.has h.used:=by
      rcases hs with ⟨_,_,_,h1,h2⟩|⟨hno,_⟩|⟨_,_,hno,_⟩
      · exact ⟨h1,h2⟩
      · exact absurd ⟨hok.2.2.2.1,hok.2.2.2.2.1⟩ hno
      · exact absurd hok.2.2.2.2.2 hno
    obtain ⟨rfl,rfl⟩:=hs
    have hN3:=zlu (zau.ext hN (h2.trans h3))
    refine ⟨hp1,_,hN3.1,_,hN3.2.1,_,hN3.2.2,fun w12 h12=>?_⟩
    refine (zzs (zin h.has h.used) a w12).mono fun v w13 ⟨e13,s,e,hv,hs⟩=>⟨e13,_,_,_,_,hv,fun b18 hb18=>?_⟩
    have hsub:okN (zin h.has h.used):=by
      obtain ⟨h1,h2,h3⟩:=hok.2.2.2.1
      obtain ⟨h4,h5,h6⟩:=hok.2.2.2.2.1
      obtain ⟨h7,h8,h9⟩:=hok.2.2.2.2.2
      refine ⟨?_,?_,?_⟩<;>simp only [zin]<;>omega
    rcases hs with ⟨_,ha,hfit,rfl,rfl⟩|⟨hno,rfl,rfl⟩|⟨_,ha,hno,rfl,rfl⟩
    · refine ⟨fun hne=>absurd rfl hne,fun _=>⟨hp1,_,hN3.1,_,hN3.2.1,_,hN3.2.2,fun w22 h22=>?_⟩⟩
      refine (nAdd_k h.used a w22).mono fun v w23 ⟨e23,s,e,hv,hs⟩=>⟨e23,_,_,_,_,hv,fun w28 h28=>⟨h28,s,e,rfl,.inr ?_⟩⟩
      rcases hs with ⟨_,_,_,h1,h2⟩|⟨hno,_⟩|⟨_,_,hno,_⟩
      · exact ⟨h1,h2,ha,hfit⟩
      · exact absurd ⟨hok.2.2.2.2.1,ha⟩ hno
      · refine absurd ?_ hno
        obtain ⟨h1,h2,h3⟩:=hok.2.2.2.1
        obtain ⟨h4,h5,h6⟩:=hok.2.2.2.2.1
        obtain ⟨h7,h8,h9⟩:=ha
        obtain ⟨h10,h11,h12⟩:=hfit
        simp only [zin] at h10 h11 h12
        refine ⟨?_,?_,?_⟩<;>simp only [zwj]<;>omega
    · exact ⟨fun _ w19 h19=>⟨h19,za3,_,rfl,.inl ⟨by omega,fun hc=>hno ⟨hsub,hc.1⟩⟩⟩,fun h=>by omega⟩
    · exact ⟨fun _ w19 h19=>⟨h19,za3,_,rfl,.inl ⟨by omega,fun hc=>hno hc.2⟩⟩,fun h=>by omega⟩
  · rcases hr with ⟨hne,hn,hno⟩|⟨he,hok,hi0,hi1,hn,hc,s,hR,hAt⟩
    · refine .inl ⟨hne,hn,fun hok hi0 hi1=>?_⟩
      obtain ⟨s,hR⟩:=hno hok hi0 hi1
      rcases hR with ⟨_,h⟩|⟨h,_⟩
      · exact h
      · exact absurd h hne
    · rcases hR with ⟨h,_⟩|⟨_,rfl,ha,hfit⟩
      · exact absurd rfl h
      · exact .inr ⟨he,hok,hi0,hi1,hn,hc,ha,hfit,(hAt.ext h8).weak x2.size⟩
theorem Give_k (p:Option Addr) (c:Nat) (L:List Ht) (h63:(L.length:Int)<=9223372036854775807) (hO:∀ h∈L,zwf h) (i:Int) (a:Nd) (w:World) (hL:zjv w p L) :
    FnP Tryz.prog zkf #[.slice p L.length c,.int .i64 i,nv a] w fun v w'=>Ext w w'/\∃ p' n' c' e,v=.tuple #[.slice p' n' c',.int .i64 e] /\
      ((e≠0/\n'=0/\(zkB L->0<=i->i<L.length->¬ (okN a/\zj1 a (L.getD i.toNat default).used))) \/
       (e=0/\zkB L/\0<=i/\i<L.length/\n'=L.length/\n'<=c'/\HsS w.heap.size w' p' (L.set i.toNat (zfS (L.getD i.toNat default) (zin (L.getD i.toNat default).used a))))):=by
  refine zvc p L.length c i a.c a.m a.g w _ fun w0 h0=>?_
  refine zH5 (x:=a) fun p1 w1 e1 hN hp1 w2 h2=>?_
  have x2:=(h0.trans e1).trans h2
  refine (zyN (fun h s e=>(e≠0/\¬ (okN a/\zj1 a h.used))\/(e=0/\s=zin h.used a)) p c L h63 hO i _ w2 (hL.ext x2) fun h hh hok q d w3 h3=>?_).mono fun v w4 ⟨e4,p',n',c',e,hv,hr⟩=>⟨e4,_,_,_,_,hv,fun w8 h8=>⟨(x2.trans e4).trans h8,_,_,_,_,rfl,?_⟩⟩
  · refine ⟨zhl,#[.pointer p1],rfl,(zqM h.name q h.labels.length d h.has.c h.has.m h.has.g h.used.c h.used.m h.used.g p1 w3 _ ?_:FnP Tryz.prog zhl #[hv h q d,.pointer p1] w3 _)⟩
    intro b0 hb0 b1 hb1
    have hN3:=zlu (zau.ext hN (h2.trans h3))
    refine ⟨hp1,_,hN3.1,_,hN3.2.1,_,hN3.2.2,fun w5 h5=>?_⟩
    refine (zzs h.used a w5).mono fun v w6 ⟨e6,s,e,hv,hs⟩=>⟨e6,_,_,_,_,hv,fun w11 h11=>⟨h11,s,e,rfl,?_⟩⟩
    rcases hs with ⟨_,ha,hfit,rfl,rfl⟩|⟨hno,rfl,rfl⟩|⟨_,ha,hno,rfl,rfl⟩
    · exact .inr ⟨rfl,rfl⟩
    · exact .inl ⟨by omega,fun hc=>hno ⟨hok.2.2.2.2.1,hc.1⟩⟩
    · exact .inl ⟨by omega,fun hc=>hno hc.2⟩
  · rcases hr with ⟨hne,hn,hno⟩|⟨he,hok,hi0,hi1,hn,hc,s,hR,hAt⟩
    · refine .inl ⟨hne,hn,fun hok hi0 hi1=>?_⟩
      obtain ⟨s,hR⟩:=hno hok hi0 hi1
      rcases hR with ⟨_,h⟩|⟨h,_⟩
      · exact h
      · exact absurd h hne
    · rcases hR with ⟨h,_⟩|⟨_,rfl⟩
      · exact absurd rfl h
      · exact .inr ⟨he,hok,hi0,hi1,hn,hc,(hAt.ext h8).weak x2.size⟩
theorem zFW (k:Int) (key val:ByteArray) (n:Int) (l:Nat):zkZ k key val n l≠5:=by
  unfold zkZ
  repeat' split
  all_goals omega
theorem zy2:∀ {xs:List AT},(∀ x∈xs,zeL x≠5)->zAu xs≠5
  |[],_ => by unfold zAu; omega
  |x::r,h => by
    unfold zAu
    split
    · exact h x (List.mem_cons_self ..)
    · exact zy2 fun y hy=>h y (List.mem_cons_of_mem _ hy)
theorem zFX (t:AT):zeL t≠5:=by
  refine AT.ind (P:=fun t=>zeL t≠5) (fun k key val n xs h=>?_) t
  unfold zeL
  split
  · exact zFW _ _ _ _ _
  · exact zy2 h
theorem zFY (t:AT):zle t≠5:=by
  unfold zle
  split
  · omega
  · exact zFX t
def zbI (L:List Ht) (i:Int):Nd:=zin (L.getD i.toNat default).has (L.getD i.toNat default).used
def zF6 (L:List Ht) (t:AT) (a:Nd) (i:Nat):Bool:=zwn (atH (L.getD i default)) t&&decide (zj1 a (zin (L.getD i default).has (L.getD i default).used))
def zbB (L:List Ht) (t:AT) (a:Nd) (k:Nat):List Int:=((List.range k).filter (zF6 L t a)).map (Int.ofNat ·)
theorem zwX (L:List Ht) (t:AT) (a:Nd) (k:Nat):zbB L t a (k+1)=if zF6 L t a k=true then zbB L t a k++[(k:Int)] else zbB L t a k:=by
  unfold zbB
  rw [List.range_succ,List.filter_append,List.map_append]
  by_cases h:zF6 L t a k=true<;>simp [h]
theorem zom {L:List Ht} {t:AT} {a:Nd} {k:Nat} {x:Int}:x∈zbB L t a k↔0<=x/\x<k/\zF6 L t a x.toNat=true:=by
  unfold zbB
  simp only [List.mem_map,List.mem_filter,List.mem_range]
  constructor
  · rintro ⟨n,⟨h1,h2⟩,rfl⟩
    exact ⟨Int.natCast_nonneg n,by simpa using h1,by simpa using h2⟩
  · rintro ⟨h1,h2,h3⟩
    exact ⟨x.toNat,⟨by omega,h3⟩,Int.toNat_of_nonneg h1⟩
theorem zhD (L:List Ht) (t:AT) (a:Nd) (k:Nat):(zbB L t a k).length<=k:=by
  unfold zbB
  rw [List.length_map]
  exact Nat.le_trans (List.length_filter_le _ _) (by simp)
theorem zwY (L:List Ht) (t:AT) (a:Nd) (k:Nat):(zbB L t a k).Pairwise (·<·):=by
  unfold zbB
  rw [List.pairwise_map]
  exact ((List.pairwise_lt_range (n:=k)).filter _).imp fun h=>by simpa using h
def zxp (L:List Ht) (t:AT) (a:Nd):Prop:=zkB L/\zle t=0/\okN a
theorem zDa {h:Ht} (hok:zGF h):okN (zin h.has h.used):=by
  obtain ⟨h1,h2,h3⟩:=hok.2.2.2.1
  obtain ⟨h4,h5,h6⟩:=hok.2.2.2.2.1
  obtain ⟨h7,h8,h9⟩:=hok.2.2.2.2.2
  refine ⟨?_,?_,?_⟩<;>simp only [zin]<;>omega
theorem zzR {h:Ht} (hok:zGF h) (w:World):FnP Tryz.prog zcu #[nv h.has,nv h.used] w fun v w'=>Ext w w'/\v=.tuple #[nv (zin h.has h.used),.int .i64 0] :=
  (zzs h.has h.used w).mono fun v w' ⟨e,s,f,hv,hs⟩=>⟨e,by
    rcases hs with ⟨_,_,_,rfl,rfl⟩|⟨hno,_⟩|⟨_,_,hno,_⟩
    · exact hv
    · exact absurd ⟨hok.2.2.2.1,hok.2.2.2.2.1⟩ hno
    · exact absurd hok.2.2.2.2.2 hno⟩
theorem Fit_k (p:Option Addr) (c:Nat) (L:List Ht) (h63:(L.length:Int)<=9223372036854775807) (hO:∀ h∈L,zwf h) (t:AT) (px:Option Addr) (cx:Nat) (hW:WfA t) (a:Nd) (w:World) (hL:zjv w p L) (hT:IsT w t px cx) :
    FnP Tryz.prog zmd #[.slice p L.length c,av t px cx,nv a] w fun v w'=>Ext w w'/\∃ q n d e,v=.tuple #[.slice q n d,.int .i64 e]/\e≠5/\(∀ x,q=some x->w.heap.size<=x.block) /\
      ((e≠0/\n=0/\¬ zxp L t a)\/(e=0/\zxp L t a/\n=(zbB L t a L.length).length/\zd9 .i64 w' q (zbB L t a L.length))):=by
  refine zxA p L.length c t.k t.key t.val t.n px t.xs.length cx a.c a.m a.g w _ fun b0 hb0 b1 hb1 w2 h2=>?_
  refine (zss p c L h63 hO w2 (hL.ext h2)).mono fun v w3 ⟨e3,e,hv,he,h5,_⟩=>⟨e3,e,hv,fun hne w5 h5'=>⟨h5',_,_,_,_,rfl,h5,fun x hx=>by (cases hx),.inl ⟨hne,rfl,fun ho=>hne (he.2 ho.1)⟩⟩,fun h0 w5 h5=>?_⟩
  have hok:=he.1 h0
  refine (zoG t px cx w5 (hT.ext h5 _ _ _) hW).mono fun v w6 ⟨e6,hv⟩=>⟨e6,_,hv,fun hne w8 h8=>⟨h8,_,_,_,_,rfl,zFY t,fun x hx=>by (cases hx),.inl ⟨hne,rfl,fun ho=>hne ho.2.1⟩⟩,fun hc w8 h8=>?_⟩
  refine (zew a w8).mono fun v w9 ⟨e9,hv⟩=>⟨e9,_,hv,fun hne w11 h11=>⟨h11,_,_,_,_,rfl,(by unfold zy3; split<;>omega),fun x hx=>by (cases hx),.inl ⟨hne,rfl,fun ho=>hne (zba.2 ho.2.2)⟩⟩,fun ha=>?_⟩
  have ha:=zba.1 ha
  refine ⟨fun q l d k w'=>Ext w w'/\0<=k/\k<=L.length/\l=(zbB L t a k.toNat).length/\Own w.heap.size w' zfr 1 q l d ((zbB L t a k.toNat).map (.int .i64))/\∀ b∈[b0,b1],∀ x,q=some x->x.block≠b,
    fun _ _ _ k _=>(L.length-k).toNat,⟨Ext.refl w,by omega,by omega,rfl,Own.nil,fun b _ x hx=>by cases hx⟩,?_⟩
  rintro q l d k w14 ⟨x14,hk0,hk1,rfl,o14,hb14⟩
  refine ⟨fun hlt=>?_,fun hge w15 h15=>⟨x14.trans h15,q,_,d,0,rfl,by omega,fun x hx=>(o14.lt x hx).1,.inr ⟨rfl,⟨hok,hc,ha⟩,?_,?_⟩⟩⟩
  · obtain ⟨qh,dh,hp,hp8,g,hLb⟩:=(hL.ext x14).at hk0 hlt
    have hm:=zan L default (i:=k.toNat) (by omega)
    have hfit:zF6 L t a k.toNat=(zwn (atH (L.getD k.toNat default)) t&&decide (zj1 a (zin (L.getD k.toNat default).has (L.getD k.toNat default).used))):=rfl
    generalize hHd:L.getD k.toNat default=H at g hLb hm hfit
    have hoH:=hok.2.1 H hm
    refine ⟨hp,hk0,hlt,hp8,_,g 0 _ rfl,_,_,_,g 1 _ rfl,_,g 2 _ rfl,_,g 3 _ rfl,_,g 4 _ rfl,_,g 5 _ rfl,_,g 6 _ rfl,_,g 7 _ rfl,fun b25 hb25 w26 h26=>?_⟩
    refine (zzR hoH w26).mono fun v w27 ⟨e27,hv⟩=>⟨e27,_,_,_,_,hv,fun b32 hb32 w33 h33=>?_⟩
    refine (zIr t px cx H qh dh (hO H hm).2.1 w33 (hT.ext (x14.trans h33) _ _ _) hW (hLb.ext h33)).mono fun v w34 ⟨e34,hv⟩=>⟨e34,_,_,hv,fun w37 h37=>?_⟩
    rw [if_pos hc]
    refine (zxj a (zin H.has H.used) w37).mono fun v w38 ⟨e38,tt,e,hv,ht⟩=>⟨e38,_,_,hv,?_⟩
    have ht:tt=decide (zj1 a (zin H.has H.used)):=by
      rcases ht with ⟨_,_,_,h⟩|⟨hno,_⟩
      · exact h
      · exact absurd ⟨ha,zDa hoH⟩ hno
    subst ht
    have hsucc:=zwX L t a k.toNat
    refine ⟨fun hb w41 x41=>?_,fun hb=>?_⟩
    · have hyes:zF6 L t a k.toNat=true:=by rw [hfit,hb.1,hb.2]; rfl
      rw [if_pos hyes] at hsucc
      have hln:=zhD L t a k.toNat
      have hs14:=x14.size
      have h30:=hok.1
      refine zg4 (e:=zfr) (B:=w.heap.size) (ns:=[b0,b1,b25,b32]) zfx o14 hs14 (fun b hb x hx=>?_) (by omega) (by omega) (fun p' c' w' o' g' hp' hns'=>⟨i64 (by omega),⟨?_,by omega,by omega,?_,?_,fun b hb x hx=>hns' b (by simp at hb ⊢; rcases hb with rfl|rfl<;>simp) x hx⟩,by simp only []; omega⟩) w41 x41
      · have:=o14.lt x hx
        simp at hb
        rcases hb with rfl|rfl|rfl|rfl
        · exact hb14 _ (by simp) x hx
        · exact hb14 _ (by simp) x hx
        · omega
        · omega
      · exact g'.ext x14 o14
      · rw [show (k+1).toNat=k.toNat+1 by omega,hsucc]; simp
      · rw [show (k+1).toNat=k.toNat+1 by omega,hsucc]
        rw [show ((k.toNat:Nat):Int)=k by omega]
        exact o'
    · have hno:zF6 L t a k.toNat=false:=by
        rw [hfit]
        rcases hb with hb|hb<;>rw [hb]<;>simp
      rw [hno] at hsucc
      rw [if_neg (by simp)] at hsucc
      refine ⟨i64 (by omega),⟨x14,by omega,by omega,?_,?_,hb14⟩,by simp only []; omega⟩
      · rw [show (k+1).toNat=k.toNat+1 by omega,hsucc]
      · rw [show (k+1).toNat=k.toNat+1 by omega,hsucc]; exact o14
  · rw [show k.toNat=L.length by omega]
  · rw [show k.toNat=L.length by omega] at o14
    exact (o14.ext h15).cells
theorem zBA (p:Option Addr) (c:Nat) (X:List Int) (h63:(X.length:Int)<=9223372036854775807) (hX:X≠[]) (f:Value) (C:Int->Int->Int) (hC:∀ x y z,C x y<0->0<=C z y->0<=C z x) (hR:∀ x,0<=C x x) (w:World) (h:zd9 .i64 w p X)
    (hT:∀ x y,C x y<0->0<=C y x) (hS:∀ x y z,C x y<0->0<=C z y->C x z<0)
    (hf:∀ x∈X,∀ y∈X,∀ w',Ext w w'->zih Tryz.prog f [.int .i64 x,.int .i64 y] w' fun v w''=>Ext w' w''/\v=.int .i64 (C x y)) :
    FnP Tryz.prog zb2 #[.slice p X.length c,f] w fun v w'=>Ext w w'/\∃ m,v=.int .i64 m/\m∈X/\(∀ y∈X,0<=C y m)/\∃ a:Nat,a<X.length/\X.getD a 0=m/\∀ j,j<a->C m (X.getD j 0)<0:=by
  have hlen:0<X.length:=by cases X with|nil=>exact absurd rfl hX|cons=>simp
  refine zgy p X.length c f w _ ⟨fun hlt=>by omega,fun _=>?_⟩
  have g0:=zd9.idx h (i:=0) (by omega) (by omega)
  have hm0:=zan X 0 (i:=0) (by omega)
  refine ⟨fun hq=>zak g0 (zah.2 hq),by omega,by omega,_,g0,?_⟩
  refine ⟨fun m i w'=>w'=w/\1<=i/\i<=X.length/\m∈X/\(∀ j:Nat,(j:Int)<i->0<=C (X.getD j 0) m)/\∃ a:Nat,(a:Int)<i/\X.getD a 0=m/\∀ j,j<a->C m (X.getD j 0)<0,fun _ i _=>(X.length-i).toNat,⟨rfl,by omega,by omega,hm0,fun j hj=>?_,0,by omega,rfl,fun j hj=>by omega⟩,?_⟩
  · obtain rfl:j=0:=by omega
    exact hR _
  rintro m i w4 ⟨rfl,hi0,hi1,hmm,hall,a,ha,ham,haj⟩
  refine ⟨fun hlt=>?_,fun hge w5 h5=>⟨h5,m,rfl,hmm,fun y hy=>?_,a,by omega,ham,haj⟩⟩
  · have g:=zd9.idx h (i:=i) (by omega) hlt
    have hx:=zan X 0 (i:=i.toNat) (by omega)
    have hp:p≠none:=fun hq=>zak g (zah.2 hq)
    refine ⟨hp,by omega,hlt,_,g,fun w6 h6=>?_⟩
    obtain ⟨fi,cap,hfe,hfp⟩:=hf _ hx m hmm w6 h6
    refine ⟨fi,cap,hfe,hfp.mono fun v w7 ⟨e7,hv⟩=>⟨e7,_,hv,fun hneg=>⟨hp,by omega,hlt,_,g,i64 (by omega),⟨rfl,by omega,by omega,hx,fun j hj=>?_,i.toNat,by omega,rfl,fun j hj=>hS _ _ _ hneg (hall j (by omega))⟩,by simp only []; omega⟩,fun hpos=>⟨i64 (by omega),⟨rfl,by omega,by omega,hmm,fun j hj=>?_,a,by omega,ham,haj⟩,by simp only []; omega⟩⟩⟩
    · by_cases hji:(j:Int)<i
      · exact hC _ _ _ hneg (hall j hji)
      · obtain rfl:j=i.toNat:=by omega
        exact hR _
    · by_cases hji:(j:Int)<i
      · exact hall j hji
      · obtain rfl:j=i.toNat:=by omega
        exact hpos
  · obtain ⟨j,hj,rfl⟩:=List.getElem_of_mem hy
    have:=hall j (by omega)
    simpa [List.getD_eq_getElem?_getD,hj] using this
def zwk (a b:Int):Int:=if a<b then -1 else if b<a then 1 else 0
theorem zoH (x y:Int) (w:World):FnP Tryz.prog zbw #[.int .i64 x,.int .i64 y] w fun v w'=>Ext w w'/\v=.int .i64 (zwk x y):=by
  have nan:∀ (x:Int) (w:World),FnP Tryz.prog zcT #[.int .i64 x] w fun v w'=>Ext w w'/\v=.bool false:=fun x w=>zlB x w _ fun w0 h0=>⟨h0,by simp⟩
  refine zjO x y w _ fun w0 h0=>(nan x w0).mono fun v w1 ⟨e1,hv⟩=>⟨e1,_,hv,fun w3 h3=>(nan y w3).mono fun v w4 ⟨e4,hv⟩=>⟨e4,_,hv,fun h=>by (cases h),fun _=>⟨fun h=>by (cases h),fun _=>⟨fun hlt w6 h6=>⟨h6,?_⟩,fun hge=>⟨fun hlt w6 h6=>⟨h6,?_⟩,fun hle w6 h6=>⟨h6,?_⟩⟩⟩⟩⟩⟩
  · unfold zwk; rw [if_pos hlt]
  · unfold zwk; rw [if_neg (by omega),if_pos hlt]
  · unfold zwk; rw [if_neg (by omega),if_neg (by omega)]
theorem Or3_k (p:Option Addr) (c:Nat) (a b d:Int) (w:World) (h:zd9 .i64 w p [a,b,d]):FnP Tryz.prog ziG #[.slice p 3 c] w fun v w'=>Ext w w'/\v=.int .i64 (if a≠0 then a else if b≠0 then b else d):=by
  refine zsX p 3 c w _ ?_
  refine ⟨fun k w'=>w'=w/\0<=k/\k<=3/\∀ j:Nat,(j:Int)<k->[a,b,d].getD j 0=0,fun k _=>(3-k).toNat,⟨rfl,by omega,by omega,fun j hj=>by omega⟩,?_⟩
  rintro k w2 ⟨rfl,hk0,hk1,hz⟩
  refine ⟨fun hlt=>?_,fun hge w3 h3=>⟨h3,?_⟩⟩
  · have hlt:k<3:=by simpa using hlt
    have g:=zd9.idx h hk0 (by simpa using hlt)
    refine ⟨fun hq=>zak g (zah.2 hq),hk0,by simpa using hlt,_,g,fun hne w4 h4=>⟨h4,?_⟩,fun he=>⟨i64 (by omega),⟨rfl,by omega,by omega,fun j hj=>?_⟩,by simp only []; omega⟩⟩
    · have:k=0\/k=1\/k=2:=by omega
      rcases this with rfl|rfl|rfl
      · rw [if_pos (by simpa using hne)]; rfl
      · have h0:=hz 0 (by omega)
        rw [if_neg (by simpa using h0),if_pos (by simpa using hne)]; rfl
      · have h0:=hz 0 (by omega)
        have h1:=hz 1 (by omega)
        rw [if_neg (by simpa using h0),if_neg (by simpa using h1)]; rfl
    · by_cases hjk:(j:Int)<k
      · exact hz j hjk
      · obtain rfl:j=k.toNat:=by omega
        exact he
  · obtain rfl:k=3:=by simp at hge; omega
    have h0:=hz 0 (by omega)
    have h1:=hz 1 (by omega)
    have h2:=hz 2 (by omega)
    rw [if_neg (by simpa using h0),if_neg (by simpa using h1)]
    exact congrArg _ (by simpa using h2.symm)
def zwK (a b:Nd):Int:=if zwk a.c b.c≠0 then zwk a.c b.c else if zwk a.m b.m≠0 then zwk a.m b.m else zwk a.g b.g
theorem ze8 {a b:Nd}:zwK a b<0↔a.c<b.c\/a.c=b.c/\(a.m<b.m\/a.m=b.m/\a.g<b.g):=by
  unfold zwK zwk
  repeat' split
  all_goals omega
theorem zJW (p1 p:Option Addr) (c:Nat) (L:List Ht) (hok:zkB L) (i:Int) (hi0:0<=i) (hi1:i<L.length) (w:World) (hc:Go.Sx.cell w p1 0=some (.slice p L.length c)) (hL:zjv w p L) :
    FnP Tryz.prog zcX #[.int .i64 i,.pointer p1] w fun v w'=>Ext w w'/\v=nv (zbI L i):=by
  obtain ⟨q,d,hp,hp8,g,_⟩:=hL.at hi0 hi1
  have hm:=hok.2.1 _ (zan L default (i:=i.toNat) (by omega))
  have hlf:zbI L i=zin (L.getD i.toNat default).has (L.getD i.toNat default).used:=rfl
  generalize hHd:L.getD i.toNat default=H at g hm hlf
  have g':∀ (o j:Nat) u,(zEW H q d)[o+j]?=some u->Go.Sx.cell w (pAdd (pIdx p i 8) o) j=some u:=fun o j u hu=>by rw [zal]; exact g _ u hu
  have x2:=zak (g' 2 0 _ rfl)
  have x5:=zak (g' 5 0 _ rfl)
  refine zqK i p1 w _ fun b0 hb0=>⟨fun n e w'=>Ext w w'/\zBB w' n (zbI L i),⟨p,L.length,c,hc,hp,hi0,hi1,hp8,x2,_,g' 2 0 _ rfl,_,g' 2 1 _ rfl,_,g' 2 2 _ rfl,p,L.length,c,hc,hp,hi0,hi1,hp8,x5,_,g' 5 0 _ rfl,_,g' 5 1 _ rfl,_,g' 5 2 _ rfl,?_,?_⟩,?_⟩
  · intro w17 h17
    refine (zzR hm w17).mono fun v w18 ⟨e18,hv⟩=>⟨e18,_,_,_,_,hv,fun w23 x23=>?_⟩
    have hb:b0<w23.heap.size:=x23.lt b0 (by simp)
    refine (zc4.nil (ns:=[b0]) (zaa x23)).new_row (by intro v hv; simp at hv; subst hv; rfl) (by simpa using hb) fun p24 w24 H24 e24=>?_
    refine H24.store 0 rfl 0 (zfa _) (by simp) (by simp) (by intro v hv; simp at hv; rcases hv with rfl|rfl|rfl<;>rfl) (by have:=e24.size; simp; omega) fun w25 H25 g25=>⟨H25.ext,?_⟩
    rw [hlf]
    exact (H25.get 0 rfl).cells
  · intro w17 x17
    have hb:b0<w17.heap.size:=x17.lt b0 (by simp)
    refine (zc4.nil (ns:=[b0]) (zaa x17)).new_row (by intro v hv; simp at hv; subst hv; rfl) (by simpa using hb) fun p18 w18 H18 e18 w19 h19=>?_
    refine (zzR hm w19).mono fun v w20 ⟨e20,hv⟩=>⟨e20,_,_,_,_,hv,?_⟩
    refine H18.store 0 rfl 0 (zfa _) (by simp) (by simp) (by intro v hv; simp at hv; rcases hv with rfl|rfl|rfl<;>rfl) (by have:=e18.size; simp; omega) fun w25 H25 g25=>⟨H25.ext,?_⟩
    rw [hlf]
    exact (H25.get 0 rfl).cells
  · rintro n e w4 ⟨x4,hN⟩
    have hN3:=zlu hN
    exact ⟨zak hN3.1,_,hN3.1,_,hN3.2.1,_,hN3.2.2,fun w8 x8=>⟨zwT x8 x4 hb0,rfl⟩⟩
theorem zJX (p14 p1 p:Option Addr) (c:Nat) (L:List Ht) (hok:zkB L) (i:Int) (hi0:0<=i) (hi1:i<L.length) (k:Int) (hk0:0<=k) (hk1:k<L.length) (w:World) (hc:Go.Sx.cell w p1 0=some (.slice p L.length c)) (hL:zjv w p L)
    (hf:Go.Sx.cell w p14 0=some (.func (.func zcX) #[] #[.pointer p1])) :
    FnP Tryz.prog zhk #[.int .i64 i,.int .i64 k,.pointer p14] w fun v w'=>Ext w w'/\v=.int .i64 (zwK (zbI L i) (zbI L k)):=by
  have call:∀ j:Int,0<=j->j<L.length->∀ w',Ext w w'->zih Tryz.prog (.func (.func zcX) #[] #[.pointer p1]) [.int .i64 j] w' fun v w''=>Ext w' w''/\v=nv (zbI L j):=fun j h0 h1 w' hx =>
    ⟨zcX,#[.pointer p1],rfl,zJW p1 p c L hok j h0 h1 w' (zaJ hx hc) (hL.ext hx)⟩
  have calli:=call i hi0 hi1
  have callk:=call k hk0 hk1
  have vmono:∀ {f:Value} {args:List Value} {w:World} {K K':Value->World->Prop},zih Tryz.prog f args w K->(∀ v w',K v w'->K' v w')->zih Tryz.prog f args w K':=fun ⟨f,c,h1,h2⟩ hk=>⟨f,c,h1,h2.mono hk⟩
  have H0:zc4 w [] w []:=zc4.nil (Ext.refl w)
  let row:Option Addr->Nd->znQ:=fun p x=>⟨zii,3,p,1,1,zwl x⟩
  refine zqL i k p14 w _ ⟨fun a b w'=>∃ rs,zc4 w [] w' rs/\∃ m n:Nat,rs[m]?=some (row a (zbI L i))/\rs[n]?=some (row b (zbI L k)),⟨_,hf,_,hf,?_⟩,?_⟩
  · repeat' (first
      |exact ⟨_,by assumption,0,1,rfl,rfl⟩
      |exact ⟨_,by assumption,1,0,rfl,rfl⟩
      |(refine (by assumption:zc4 w [] _ _).new_row (by intro v hv; simp at hv; subst hv; rfl) (by simp) fun _ _ _ _ => ?_)
      |(refine zc4.store (by assumption) 0 (e:=zii) (s:=3) rfl 0 (zfa _) (by simp) (by simp) (by intro v hv; simp at hv; rcases hv with rfl|rfl|rfl<;>rfl) (by simp) fun _ _ _ => ?_)
      |(refine zc4.store (by assumption) 1 (e:=zii) (s:=3) rfl 0 (zfa _) (by simp) (by simp) (by intro v hv; simp at hv; rcases hv with rfl|rfl|rfl<;>rfl) (by simp) fun _ _ _ => ?_)
      |(refine vmono (calli _ (by first|assumption|exact zc4.ext (by assumption))) fun _ _ ⟨ex,hv⟩ => ⟨ex,_,_,_,hv,?_⟩)
      |(refine vmono (callk _ (by first|assumption|exact zc4.ext (by assumption))) fun _ _ ⟨ex,hv⟩ => ⟨ex,_,_,_,hv,?_⟩)
      |(refine ⟨?_,?_⟩)
      |(intro wx hx; have Hx:=zc4.to (w0:=w) (ns:=[]) (by assumption) hx))
  · rintro a b w3 ⟨rs,H3,m,n,hm,hn⟩
    have ca:zBB w3 a (zbI L i):=(H3.get m hm).cells
    have cb:zBB w3 b (zbI L k):=(H3.get n hn).cells
    have ca':=zlu ca
    have cb':=zlu cb
    have z:∀ {p:Option Addr} {o:Nat} {v:Value},Go.Sx.cell w3 p o=some v->Go.Sx.cell w3 (pAdd p o) 0=some v:=fun h=>by rw [zal]; exact h
    refine ⟨zak ca'.1,_,z ca'.1,zak cb'.1,_,z cb'.1,zak ca'.1,_,z ca'.2.1,zak cb'.1,_,z cb'.2.1,zak ca'.1,_,z ca'.2.2,zak cb'.1,_,z cb'.2.2,fun w10 h10=>?_⟩
    refine (zoH _ _ w10).mono fun v w11 ⟨e11,hv⟩=>⟨e11,_,hv,fun w13 h13=>?_⟩
    refine (zoH _ _ w13).mono fun v w14 ⟨e14,hv⟩=>⟨e14,_,hv,fun w16 h16=>?_⟩
    refine (zoH _ _ w16).mono fun v w17 ⟨e17,hv⟩=>⟨e17,_,hv,fun w19 h19=>?_⟩
    refine zcD zfx [.int .i64 (zwk (zbI L i).c (zbI L k).c),.int .i64 (zwk (zbI L i).m (zbI L k).m),.int .i64 (zwk (zbI L i).g (zbI L k).g)] rfl rfl (by intro v hv; simp at hv; rcases hv with rfl|rfl|rfl<;>rfl) (by omega) (by omega) fun w20 o20 e20=>⟨e20,_,_,_,rfl,fun w24 h24=>?_⟩
    refine (Or3_k _ 3 (zwk (zbI L i).c (zbI L k).c) (zwk (zbI L i).m (zbI L k).m) (zwk (zbI L i).g (zbI L k).g) w24 (by have:=((o20 0 (Nat.zero_le _)).ext h24).cells; simpa [Value.cells,zd9] using this)).mono fun v w25 ⟨e25,hv⟩=>⟨e25,_,hv,fun w27 h27=>⟨((H3.ext.trans h19).trans e20).trans h27,?_⟩⟩
    rfl
def zfW (L:List Ht) (t:AT) (a:Nd) (k:Int):Prop:=k∈zbB L t a L.length/\∀ j∈zbB L t a L.length,0<=zwK (zbI L j) (zbI L k)/\(j<k->zwK (zbI L k) (zbI L j)<0)
theorem zFr {L:List Ht} {t:AT} {a:Nd} {k m:Int} (h:zfW L t a k) (g:zfW L t a m):k=m:=by
  have h1:=h.2 m g.1
  have g1:=g.2 k h.1
  rcases Int.lt_trichotomy k m with hl|hl|hl
  · have:=g1.2 hl; have:=h1.1; omega
  · exact hl
  · have:=h1.2 hl; have:=g1.1; omega
theorem zBs (p:Option Addr) (c:Nat) (L:List Ht) (h63:(L.length:Int)<=9223372036854775807) (hO:∀ h∈L,zwf h) (t:AT) (px:Option Addr) (cx:Nat) (hW:WfA t) (a:Nd) (w:World) (hL:zjv w p L) (hT:IsT w t px cx) :
    FnP Tryz.prog zfn #[.slice p L.length c,av t px cx,nv a] w fun v w'=>Ext w w'/\∃ k e,v=.tuple #[.int .i64 k,.int .i64 e] /\
      ((e≠0/\k=0/\(e=5↔zxp L t a)/\(zxp L t a->zbB L t a L.length=[]))\/(e=0/\zxp L t a/\zfW L t a k)):=by
  refine zva p L.length c t.k t.key t.val t.n px t.xs.length cx a.c a.m a.g w _ fun w0 h0=>?_
  refine zbE (by intro v hv; simp at hv; subst hv; rfl) fun w1 o1 e1=>?_
  generalize hp1:(some ⟨w0.heap.size,0,none⟩:Option Addr)=p1
  rw [hp1] at o1
  have c1:Go.Sx.cell w1 p1 0=some (.slice p L.length c):=(o1 0 (Nat.zero_le _)).cells 0 _ rfl
  intro b2 hb2 b3 hb3
  refine ⟨p,L.length,c,c1,fun w7 x7=>?_⟩
  have x7':=(h0.trans e1).trans (zaa x7)
  refine (Fit_k p c L h63 hO t px cx hW a w7 (hL.ext x7') (hT.ext x7' _ _ _)).mono fun v w8 ⟨e8,q,n,d,e,hv,h5,hnew,hr⟩=>⟨e8,q,n,d,e,hv,?_⟩
  have x8:=x7'.trans e8
  rcases hr with ⟨hne,rfl,hno⟩|⟨rfl,hok,rfl,hI⟩
  · exact ⟨fun _ w13 h13=>⟨x8.trans h13,_,_,rfl,.inl ⟨hne,rfl,⟨fun h=>absurd h h5,fun h=>absurd h hno⟩,fun h=>absurd h hno⟩⟩,fun h=>absurd h hne⟩
  refine ⟨fun h=>absurd rfl h,fun _=>⟨fun hz w13 h13=>⟨x8.trans h13,_,_,rfl,.inl ⟨by omega,rfl,⟨fun _=>hok,fun _=>rfl⟩,fun _=>List.length_eq_zero_iff.1 (by omega)⟩⟩,fun hnz w13 x13=>?_⟩⟩
  have x13':=x8.trans (zaa x13)
  refine (zc4.nil (w0:=w13) (ns:=[b2,b3]) (Ext.refl w13)).new_row (by intro v hv; simp at hv; subst hv; rfl) (x13.lt) fun p14 w14 H14 e14=>?_
  refine H14.store 0 rfl 0 (zfa _) (by simp) (by simp) (by intro v hv; simp at hv; subst hv; rfl) (fun b hb=>Nat.lt_of_lt_of_le (x13.lt b hb) e14.size) fun w15 H15 g15 w16 h16=>?_
  have e15:=H15.ext
  have x16:=(x13'.trans e15).trans h16
  have cf:Go.Sx.cell w16 p14 0=some (.func (.func zcX) #[] #[.pointer p1]):=zaJ h16 ((H15.get 0 rfl).cells 0 _ rfl)
  have c16:Go.Sx.cell w16 p1 0=some (.slice p L.length c):=zaJ ((((zaa x7).trans e8).trans (zaa x13)).trans (e15.trans h16)) c1
  have hln:=zhD L t a L.length
  refine (zBA q d (zbB L t a L.length) (by omega) (by intro h; rw [h] at hnz; simp at hnz) _ (fun x y=>zwK (zbI L x) (zbI L y)) (fun x y z h1 h2=>?_) (fun x=>?_) w16 (hI.ext (((zaa x13).trans e15).trans h16)) (fun x y h1=>?_) (fun x y z h1 h2=>?_) fun x hx y hy w' hx'=>?_).mono fun v w17 ⟨e17,m,hv,hm,hall,a',ha',ham,haj⟩=>⟨e17,m,hv,fun w19 h19=>⟨(x13'.trans e15).trans h19,_,_,rfl,.inr ⟨rfl,hok,hm,fun j hj=>⟨hall j hj,fun hjm=>?_⟩⟩⟩⟩
  · have h1:=ze8.1 h1
    have h2:¬ zwK (zbI L z) (zbI L y)<0:=by omega
    rw [ze8] at h2
    have h3:¬ zwK (zbI L z) (zbI L x)<0:=by rw [ze8]; omega
    show 0<=zwK (zbI L z) (zbI L x)
    omega
  · have:¬ zwK (zbI L x) (zbI L x)<0:=by rw [ze8]; omega
    show 0<=zwK (zbI L x) (zbI L x)
    omega
  · have h1:=ze8.1 h1
    have:¬ zwK (zbI L y) (zbI L x)<0:=by rw [ze8]; omega
    show 0<=zwK (zbI L y) (zbI L x)
    omega
  · have h1:=ze8.1 h1
    have h2:¬ zwK (zbI L z) (zbI L y)<0:=by omega
    rw [ze8] at h2
    show zwK (zbI L x) (zbI L z)<0
    rw [ze8]
    omega
  · have hx1:=zom.1 hx
    have hy1:=zom.1 hy
    exact ⟨zhk,#[.pointer p14],rfl,zJX p14 p1 p c L hok.1 x hx1.1 hx1.2.1 y hy1.1 hy1.2.1 w' (zaJ hx' c16) (hL.ext (x16.trans hx')) (zaJ hx' cf)⟩
  · obtain ⟨b,hb,rfl⟩:=List.getElem_of_mem hj
    have hbg:(zbB L t a L.length).getD b 0=(zbB L t a L.length)[b]:=by simp [List.getD_eq_getElem?_getD,hb]
    have hba:b<a':=by
      rcases Nat.lt_or_ge b a' with h|h
      · exact h
      exfalso
      have hs:=zwY L t a L.length
      have ham':(zbB L t a L.length)[a']=m:=by rw [<- ham]; simp [List.getD_eq_getElem?_getD,ha']
      rcases Nat.lt_or_ge a' b with h2|h2
      · have:=(List.pairwise_iff_getElem.1 hs) a' b ha' hb h2
        omega
      · obtain rfl:a'=b:=by omega
        omega
    have:=haj b hba
    rw [hbg] at this
    exact this
theorem zus {W:World} {p:Option Addr} {l c:Nat} (h:zaA Tryz.prog W zdM p l c):∃ L:List Ht,L.length=l/\(L.length:Int)<=9223372036854775807/\(∀ h∈L,zwf h)/\zjv W p L:=by
  have labels:∀ {q:Option Addr} {m d:Nat},zaA Tryz.prog W zmf q m d->∃ L:List Lb,L.length=m/\(∀ l∈L,l.key.size<=9223372036854775807/\l.val.size<=9223372036854775807)/\Lbs W q L:=by
    intro q m d h
    obtain ⟨L,h1,h2,h3⟩:=h.list (α:=Lb) zsm (fun l=>l.key.size<=9223372036854775807/\l.val.size<=9223372036854775807) (fun n es hg he=>by
      have hlv:=zcL (P:=Tryz.prog) 6 zmf [zay,zay] n es (by kernel_rfl) hg
      obtain ⟨v0,r0,rfl,l0,hlv⟩:=zai hlv
      obtain ⟨v1,r1,rfl,l1,hlv⟩:=zai hlv
      obtain rfl:=zhI hlv
      obtain ⟨a,rfl,ha⟩:=zc0 (by kernel_rfl) l0
      obtain ⟨b,rfl,hb⟩:=zc0 (by kernel_rfl) l1
      exact ⟨⟨a,b⟩,rfl,ha,hb⟩)
    refine ⟨L,h1,h2,fun i x hx j u hu=>?_⟩
    have:=h3 i x hx j u hu
    rwa [show Tryz.prog.cellsOf zmf=2 by kernel_rfl] at this
  obtain ⟨M,h1,h2,h3⟩:=h.list (α:=Hm) zjz (fun m=>zwf m.h/\Lbs W m.q m.h.labels) (fun n es hg he=>by
    have hlv:=zcL (P:=Tryz.prog) 6 zdM [zay,zAb,zdd,zdd,zdd,zdd,zdd,zdd] n es (by kernel_rfl) hg
    obtain ⟨v0,r0,rfl,l0,hlv⟩:=zai hlv
    obtain ⟨v1,r1,rfl,l1,hlv⟩:=zai hlv
    obtain ⟨v2,r2,rfl,l2,hlv⟩:=zai hlv
    obtain ⟨v3,r3,rfl,l3,hlv⟩:=zai hlv
    obtain ⟨v4,r4,rfl,l4,hlv⟩:=zai hlv
    obtain ⟨v5,r5,rfl,l5,hlv⟩:=zai hlv
    obtain ⟨v6,r6,rfl,l6,hlv⟩:=zai hlv
    obtain ⟨v7,r7,rfl,l7,hlv⟩:=zai hlv
    obtain rfl:=zhI hlv
    obtain ⟨nm,rfl,hnm⟩:=zc0 (by kernel_rfl) l0
    obtain ⟨q,m,d,rfl,s1,s2,s3,s4⟩:=zff (e:=zmf) (by kernel_rfl) l1
    obtain ⟨x2,rfl,_⟩:=zaK (k:=.i64) (by kernel_rfl) l2
    obtain ⟨x3,rfl,_⟩:=zaK (k:=.i64) (by kernel_rfl) l3
    obtain ⟨x4,rfl,_⟩:=zaK (k:=.i64) (by kernel_rfl) l4
    obtain ⟨x5,rfl,_⟩:=zaK (k:=.i64) (by kernel_rfl) l5
    obtain ⟨x6,rfl,_⟩:=zaK (k:=.i64) (by kernel_rfl) l6
    obtain ⟨x7,rfl,_⟩:=zaK (k:=.i64) (by kernel_rfl) l7
    obtain ⟨L,rfl,hLo,hLl⟩:=labels (zaA.mk s1 s2 s3 s4)
    exact ⟨⟨⟨nm,L,⟨x2,x3,x4⟩,⟨x5,x6,x7⟩⟩,q,d⟩,rfl,⟨hnm,by simp only []; omega,hLo⟩,hLl⟩)
  rw [show Tryz.prog.cellsOf zdM=8 by kernel_rfl] at h3
  have hle:=h.le
  have hmx:=h.max
  refine ⟨M.map (·.h),by simpa using h1,by simp; omega,fun x hx=>?_,ms_hs h3 fun m hm=>(h2 m hm).2⟩
  obtain ⟨m,hm,rfl⟩:=List.mem_map.1 hx
  exact (h2 m hm).1
theorem zE9 (p:Option Addr) (c:Nat) (X:List Int) (h63:(X.length:Int)<=9223372036854775807) (f:Value) (Pr:Int->Bool) (w:World) (h:zd9 .i64 w p X)
    (hf:∀ x∈X,∀ w',Ext w w'->zih Tryz.prog f [.int .i64 x] w' fun v w''=>Ext w' w''/\v=.bool (Pr x)) :
    FnP Tryz.prog zbL #[.slice p X.length c,f] w fun v w'=>Ext w w'/\∃ t,v=.int .i64 t/\(0<=t↔∃ x∈X,Pr x=true):=by
  refine zfC p X.length c f w _ ?_
  refine ⟨fun k w'=>w'=w/\0<=k/\k<=X.length/\∀ j:Nat,(j:Int)<k->Pr (X.getD j 0)=false,fun k _=>(X.length-k).toNat,⟨rfl,by omega,by omega,fun j hj=>by omega⟩,?_⟩
  rintro k w ⟨rfl,hk0,hk1,hno⟩
  refine ⟨fun hlt=>?_,fun hge w4 h4=>⟨h4,_,rfl,?_⟩⟩
  · have g:=zd9.idx h hk0 hlt
    refine ⟨fun hq=>zak g (zah.2 hq),hk0,hlt,_,g,fun w4 h4=>?_⟩
    obtain ⟨fi,cap,hfe,hfp⟩:=hf _ (zan X 0 (i:=k.toNat) (by omega)) w4 h4
    refine ⟨fi,cap,hfe,hfp.mono fun v w5 ⟨e5,hv⟩=>⟨e5,_,hv,fun hyes w9 h9=>⟨h9,_,rfl,fun _=>⟨_,zan X 0 (by omega),hyes⟩,fun _=>hk0⟩,fun hn=>⟨i64 (by omega),⟨rfl,by omega,by omega,fun j hj=>?_⟩,by simp only []; omega⟩⟩⟩
    by_cases hjk:(j:Int)<k
    · exact hno j hjk
    · obtain rfl:j=k.toNat:=by omega
      exact hn
  · constructor
    · intro h; omega
    · rintro ⟨x,hm,hx⟩
      obtain ⟨j,hj,rfl⟩:=List.getElem_of_mem hm
      have:=hno j (by omega)
      rw [show X.getD j 0=X[j] by simp [List.getD_eq_getElem?_getD,hj],hx] at this
      cases this
theorem zoI (p:Option Addr) (c:Nat) (X:List Int) (h63:(X.length:Int)<=9223372036854775807) (f:Value) (Pr:Int->Bool) (w:World) (h:zd9 .i64 w p X)
    (hf:∀ x∈X,∀ w',Ext w w'->zih Tryz.prog f [.int .i64 x] w' fun v w''=>Ext w' w''/\v=.bool (Pr x)) :
    FnP Tryz.prog zaX #[.slice p X.length c,f] w fun v w'=>Ext w w'/\∃ b:Bool,v=.bool b/\(b=true↔∃ x∈X,Pr x=true):=by
  refine zeF p X.length c f w _ ?_
  intro w1 h1
  refine (zE9 p c X h63 f Pr w1 (h.ext h1) fun x hx w' hw=>hf x hx w' (h1.trans hw)).mono fun v w2 ⟨e2,t,hv,ht⟩=>⟨e2,t,hv,fun w4 h4=>⟨h4,_,rfl,?_⟩⟩
  rw [decide_eq_true_iff]; exact ht
theorem getD_set_ne {α:Type} (L:List α) (d x:α) {i k:Nat} (h:i≠k):(L.set i x).getD k d=L.getD k d:=by
  rw [List.getD_eq_getElem?_getD,List.getElem?_set_ne h,List.getD_eq_getElem?_getD]
end Go.Proofs.YtcceeahmcecbnaaGreatDoor
