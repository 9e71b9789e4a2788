/- The framework, the program's texts and what is shown of them: part 4. -/
import Derived.Test.YtcceeahmcecbnaaGreatDoorWTopDone3
import Derived.Lib.ItoaLen
import Derived.Laws.IdiomStrings
import Derived.Shelf.Strings.IndexAnyAll
import Derived.Shelf.Small.Utf8
import Derived.Laws.Runes
import Derived.Shelf.RegionOpenPlain
import Derived.Laws.RangeAny
import Derived.Lib.OthersKept
import Derived.Lib.AtoiAllCases
import Derived.Lib.LaidTab
import Derived.Handed
import Derived.Lib.AppendStr
import Derived.Laws.BitsLemmas
set_option linter.unusedVariables false
set_option linter.unusedSimpArgs false
set_option maxRecDepth 100000
namespace Go.Proofs.YtcceeahmcecbnaaGreatDoor
open Go.Sx Go.RowKit
structure Nd where
  c:Int
  m:Int
  g:Int
deriving DecidableEq,Inhabited
abbrev zv9 (x:Nd):List Value:=[.int .i64 x.c,.int .i64 x.m,.int .i64 x.g]
abbrev nv (x:Nd):Value:=.agg #[.int .i64 x.c,.int .i64 x.m,.int .i64 x.g]
def okN (x:Nd):Prop:=(0<=x.c/\x.c<=1099511627776)/\(0<=x.m/\x.m<=1099511627776)/\(0<=x.g/\x.g<=1099511627776)
instance (x:Nd):Decidable (okN x):=by unfold okN; infer_instance
def zjU (a b:Nd):Prop:=a.c<=b.c/\a.m<=b.m/\a.g<=b.g
instance (a b:Nd):Decidable (zjU a b):=by unfold zjU; infer_instance
def zv7 (a b:Nd):Nd:=⟨a.c+b.c,a.m+b.m,a.g+b.g⟩
def zii (a b:Nd):Nd:=⟨a.c-b.c,a.m-b.m,a.g-b.g⟩
def za6:Nd:=⟨0,0,0⟩
def zyO (x:Nd):Int:=if okN x then 0 else 4
theorem zba {x:Nd}:zyO x=0↔okN x:=by unfold zyO; split<;>simp_all
theorem zmn {x:Nd} (h:¬ okN x):zyO x=4:=if_neg h
theorem zJW {a b:Nd}:a=b↔[a.c,a.m,a.g]=[b.c,b.m,b.g]:=by cases a; cases b; simp
def zcd (x:Nd) (i:Nat):Int:=match i with|0=>x.c|1=>x.m|_=>x.g
theorem zpr {x:Nd}:okN x↔∀ i,i<3->0<=zcd x i/\zcd x i<=1099511627776:=by
  constructor
  · rintro ⟨h1,h2,h3⟩ i hi
    match i,hi with
    |0,_ => exact h1
    |1,_ => exact h2
    |2,_ => exact h3
  · intro h
    exact ⟨h 0 (by omega),h 1 (by omega),h 2 (by omega)⟩
def pn (i:Nat):ByteArray:=match i with|0=>⟨#[99,112,117]⟩|1=>⟨#[109,101,109]⟩|_=>⟨#[103,112,117]⟩
abbrev zvi (a:Option Addr):List Value:=[.string (pn 0),.pointer (pAdd a 0),.string (pn 1),.pointer (pAdd a 1),.string (pn 2),.pointer (pAdd a 2)]
theorem zs2 {w:World} {q a:Option Addr} (h:zau w q (zvi a)) {k:Int} (h0:0<=k) (h1:k<3):Go.Sx.cell w (pIdx q k 2) 0=some (.string (pn k.toNat))/\Go.Sx.cell w (pIdx q k 2) 1=some (.pointer (pAdd a k.toNat)):=by
  have hk:k=0\/k=1\/k=2:=by omega
  rcases hk with rfl|rfl|rfl
  · exact ⟨by rw [zae]; exact h 0 _ rfl,by rw [zae]; exact h 1 _ rfl⟩
  · exact ⟨by rw [zae]; exact h 2 _ rfl,by rw [zae]; exact h 3 _ rfl⟩
  · exact ⟨by rw [zae]; exact h 4 _ rfl,by rw [zae]; exact h 5 _ rfl⟩
theorem zs3 (a:Option Addr) (ha:a≠none) (w:World):FnP Tryz.prog zey #[.pointer a] w fun v w'=>Ext w w'/\∃ q,v=.slice q 3 3/\zau w' q (zvi a)/\∀ x,q=some x->w.heap.size<=x.block:=by
  refine zsW a w _ ⟨ha,ha,ha,ha,ha,ha,fun w0 h0=>?_⟩
  refine zcC zmm [_,_,_] rfl rfl (by intro v hv; simp at hv; rcases hv with rfl|rfl|rfl<;>rfl) (by omega) (by omega) fun w1 o1 e1=>⟨e1,_,_,_,rfl,fun w5 h5=>⟨(h0.trans e1).trans h5,_,rfl,?_,fun x hx=>?_⟩⟩
  · have o5:=((o1 0 (Nat.zero_le _)).ext h5).cells
    exact o5
  · obtain rfl:=Option.some.inj hx
    exact h0.size
abbrev zBj (w:World) (p:Option Addr) (x:Nd):Prop:=zau w p (zv9 x)
theorem nd_at {w:World} {p:Option Addr} {x:Nd} (h:zBj w p x) {i:Nat} (hi:i<3):Go.Sx.cell w (pAdd p i) 0=some (.int .i64 (zcd x i)):=by
  rw [zam,Nat.add_zero]
  match i,hi with
  |0,_ => exact h 0 _ rfl
  |1,_ => exact h 1 _ rfl
  |2,_ => exact h 2 _ rfl
theorem zet (x:Nd) (w:World):FnP Tryz.prog zbg #[nv x] w fun v w'=>Ext w w'/\v=.int .i64 (zyO x):=by
  refine zsV x.c x.m x.g w _ fun w0 h0=>?_
  refine zbC (by simp [Value.oneCell']) fun w1 o1 e1=>fun w2 h2=>?_
  have c1:zBj w1 (some ⟨w0.heap.size,0,none⟩) x:=(o1 0 (Nat.zero_le _)).cells
  have n1:(some (⟨w0.heap.size,0,none⟩:Addr))≠none:=by simp
  generalize (some (⟨w0.heap.size,0,none⟩:Addr))=p1 at c1 n1 ⊢
  refine (zs3 p1 n1 w2).mono fun v w3 ⟨e3,q,hv,hq,_⟩=>⟨e3,q,3,3,hv,?_⟩
  have c3:=(c1.ext h2).ext e3
  have x3:=((h0.trans e1).trans h2).trans e3
  refine ⟨fun k w'=>w'=w3/\0<=k/\k<=3/\∀ i:Nat,(i:Int)<k->0<=zcd x i/\zcd x i<=1099511627776,fun k _=>(3-k).toNat,⟨rfl,by omega,by omega,fun i hi=>by omega⟩,?_⟩
  rintro k w3 ⟨rfl,hk0,hk1,hall⟩
  refine ⟨fun hlt=>?_,fun hge w10 h10=>⟨x3.trans h10,?_⟩⟩
  · obtain ⟨d1,d2⟩:=zs2 hq hk0 hlt
    have ci:=nd_at c3 (i:=k.toNat) (by omega)
    have hne:pAdd p1 k.toNat≠none:=fun h=>n1 (zdh.1 h)
    have bad:¬ (0<=zcd x k.toNat/\zcd x k.toNat<=1099511627776)->zyO x=4:=fun h=>zmn fun ho=>h (zpr.1 ho _ (by omega))
    refine ⟨fun hq=>zak d1 (zah.2 hq),hk0,hlt,zak d1,_,d1,_,d2,fun b12 _=>⟨hne,_,ci,fun _=>hne,fun hn w14 h14=>⟨x3.trans h14,by rw [bad (by omega)]⟩,fun hp=>⟨_,ci,fun hb w15 h15=>⟨x3.trans h15,by rw [bad (by omega)]⟩,fun hl=>⟨i64 (by omega),⟨rfl,by omega,by omega,fun i hi=>?_⟩,by simp only []; omega⟩⟩⟩⟩
    by_cases hik:(i:Int)<k
    · exact hall i hik
    · obtain rfl:i=k.toNat:=by omega
      omega
  · rw [zba.2 (zpr.2 fun i hi=>hall i (by omega))]
def rng (x:Nd):Prop:=∀ i,i<3->-9223372036854775808<=zcd x i/\zcd x i<=9223372036854775807
theorem okN.rng {x:Nd} (h:okN x):rng x:=fun i hi=>by have:=zpr.1 h i hi; omega
def idx (x:Nd) (k:Nat):List Nat:=(List.range k).filter fun i=>decide (zcd x i≠0)
def zgu (x:Nd) (i:Nat):List UInt8:=(pn i).data.toList++61::Lib.itoa (zcd x i)
def pcs (x:Nd) (k:Nat):List (List UInt8):=(idx x k).map (zgu x)
def zbo (x:Nd):List UInt8:=if pcs x 3=[] then [45] else Lib.join (pcs x 3) [44]
theorem zF3 (x:Nd) (k:Nat):idx x (k+1)=idx x k++if zcd x k≠0 then [k] else []:=by
  unfold idx
  rw [List.range_succ,List.filter_append]
  congr 1
  by_cases h:zcd x k=0<;>simp [h]
theorem zs4 (x:Nd) (k:Nat):pcs x (k+1)=pcs x k++if zcd x k≠0 then [zgu x k] else []:=by
  unfold pcs
  rw [zF3,List.map_append]
  congr 1
  split<;>rfl
theorem zpb {x:Nd} {k i:Nat} (h:i∈idx x k):i<k/\zcd x i≠0:=by
  unfold idx at h
  rw [List.mem_filter,List.mem_range] at h
  exact ⟨h.1,by simpa using h.2⟩
theorem zzj (i:Nat):(pn i).size=3:=by
  match i with
  |0 => rfl
  |1 => rfl
  |n+2 => rfl
theorem zDs {x:Nd} (hx:rng x) {i:Nat} (hi:i<3):(zgu x i).length<=25:=by
  unfold zgu
  have:=Lib.itoa_length_le (zcd x i) (hx i hi).1 (hx i hi).2
  have h3:(pn i).data.toList.length=3:=zzj i
  rw [List.length_append,List.length_cons,h3]; omega
theorem zhD {c:UInt8} {m:Nat}:∀ (L:List (List UInt8)),(∀ y∈L,y.length<=m)->(Lib.join L [c]).length<=L.length*(m+1)
  |[],_ => by simp [Lib.join_nil]
  |[x],h => by rw [Lib.join_one]; have:=h x (List.mem_cons_self ..); simp; omega
  |x::y::L,h => by
    have ih:=zhD (c:=c) (y::L) fun z hz=>h z (List.mem_cons_of_mem _ hz)
    have hx:=h x (List.mem_cons_self ..)
    have e:Lib.join (x::y::L) [c]=x++c::Lib.join (y::L) [c]:=by
      rw [Lib.join_cons,Lib.join_cons]
      simp [Lib.joinTail]
    rw [e,List.length_append,List.length_cons,List.length_cons,Nat.add_mul]
    omega
theorem zCF (x:Nd) (k:Nat):(idx x k).length<=k:=by
  unfold idx
  have:=List.length_filter_le (fun i=>decide (zcd x i≠0)) (List.range k)
  rwa [List.length_range] at this
theorem zyZ {x:Nd} (hx:rng x):(Lib.join (pcs x 3) [44]).length<=78:=by
  have h1:=zhD (c:=44) (m:=25) (pcs x 3) fun y hy=>by
    obtain ⟨i,hi,rfl⟩:=List.mem_map.1 hy
    exact zDs hx (zpb hi).1
  have h2:(pcs x 3).length<=3:=by unfold pcs; rw [List.length_map]; exact zCF x 3
  omega
theorem zw7 (x:Nd) (hx:rng x) (w:World) (g:GB w):FnP Tryz.prog zea #[nv x] w fun v w'=>Ext w w'/\v=.string (ofL (zbo x)):=by
  refine zu7 x.c x.m x.g w _ fun w0 h0=>?_
  refine zbC (by simp [Value.oneCell']) fun w1 o1 e1=>fun w2 h2=>?_
  have c1:zBj w1 (some ⟨w0.heap.size,0,none⟩) x:=(o1 0 (Nat.zero_le _)).cells
  have n1:(some (⟨w0.heap.size,0,none⟩:Addr))≠none:=by simp
  have l1:∀ a,(some (⟨w0.heap.size,0,none⟩:Addr))=some a->a.block<w1.heap.size:=c1.lt (by simp)
  generalize (some (⟨w0.heap.size,0,none⟩:Addr))=p1 at c1 n1 l1 ⊢
  refine (zs3 p1 n1 w2).mono fun v w3 ⟨e3,q,hv,hq,hqb⟩=>⟨e3,q,3,3,hv,?_⟩
  have x3:=((h0.trans e1).trans h2).trans e3
  refine ⟨fun out outl outc k w'=>Ext w w'/\0<=k/\k<=3/\zBj w' p1 x/\zau w' q (zvi p1)/\Own w.heap.size w' zay 1 out outl outc ((pcs x k.toNat).map fun l=>Value.string (ofL l))/\zbT p1 out/\zbT q out/\(out=none↔pcs x k.toNat=[]),fun _ _ _ k _=>(3-k).toNat,
    ⟨x3,by omega,by omega,(c1.ext h2).ext e3,hq,Own.nil,zbT.nil,zbT.nil,by simp [pcs,idx]⟩,?_⟩
  rintro out outl outc k w10 ⟨x10,hk0,hk3,c10,q10,o10,a1,a2,hout⟩
  refine ⟨fun hlt=>?_,fun hge=>?_⟩
  · obtain ⟨d1,d2⟩:=zs2 q10 hk0 hlt
    have ci:=nd_at c10 (i:=k.toNat) (by omega)
    have hne:pAdd p1 k.toNat≠none:=fun h=>n1 (zdh.1 h)
    have hr:=hx k.toNat (by omega)
    have hil:=Lib.itoa_length_le (zcd x k.toNat) hr.1 hr.2
    have hlen:(pcs x k.toNat).length<=3:=by unfold pcs; rw [List.length_map]; have:=zCF x k.toNat; omega
    have hol:=o10.leni
    have hps:(pn k.toNat).size=3:=zzj _
    refine ⟨fun hq=>zak d1 (zah.2 hq),hk0,hlt,zak d1,_,d1,_,d2,fun b13 hb13=>⟨hne,_,ci,fun hnz=>?_,fun hz=>?_⟩⟩
    · refine ⟨by unfold zdi; rw [hps]; decide,hne,_,ci,fun w16 h16=>?_⟩
      refine (zoG _ hr w16 ((g.ext x10).ext h16)).mono fun v w17 ⟨e17,hv⟩=>⟨e17,_,hv,?_,?_⟩
      · unfold zdi
        rw [ByteArray.size_append,hps,zas]
        show 3+1+_<=_
        omega
      · have hpc:(pn k.toNat++(⟨#[61]⟩:ByteArray))++ofL (Lib.itoa (zcd x k.toNat))=ofL (zgu x k.toNat):=by
          rw [<- zb8 ((pn k.toNat++(⟨#[61]⟩:ByteArray))++ofL (Lib.itoa (zcd x k.toNat))),zgN,zgN]
          unfold zgu
          rw [zck]
          simp
        rw [hpc]
        refine zpJ zbW (by omega) o10 x10.size (fun b hb y hy=>by simp at hb; subst hb; have:=(o10.lt y hy).2; omega) rfl (by intro u hu; simp [Value.cells] at hu; subst hu; rfl) (by omega) (by omega) (by omega) fun p' c' w' o' g' np _=>⟨i64 (by omega),⟨g'.ext x10 o10,by omega,by omega,c10.grew a1 g',q10.grew a2 g',?_,a1.grewC (c10.lt (by simp)) g',a2.grewC (q10.lt (by simp)) g',?_⟩,by simp only []; omega⟩
        · rw [show (k+1).toNat=k.toNat+1 by omega,zs4,if_pos hnz,List.map_append]
          simpa [Value.cells] using o'
        · rw [show (k+1).toNat=k.toNat+1 by omega,zs4,if_pos hnz]
          simp [np]
    · have hp:pcs x (k+1).toNat=pcs x k.toNat:=by
        rw [show (k+1).toNat=k.toNat+1 by omega,zs4,if_neg (by simpa using hz),List.append_nil]
      exact ⟨i64 (by omega),⟨x10,by omega,by omega,c10,q10,by rw [hp]; exact o10,a1,a2,by rw [hp]; exact hout⟩,by simp only []; omega⟩
  · obtain rfl:k=3:=by omega
    have hout:out=none↔pcs x 3=[]:=hout
    have o10:Own w.heap.size w10 zay 1 out outl outc ((pcs x 3).map fun l=>Value.string (ofL l)):=o10
    refine ⟨fun hn w11 h11=>⟨x10.trans h11,?_⟩,fun hn w11 h11=>?_⟩
    · unfold zbo; rw [if_pos (hout.1 hn)]; rfl
    · have hpn:pcs x 3≠[]:=fun h=>hn (hout.2 h)
      refine (zBh (pcs x 3) 44 out outl outc w.heap.size zay w11 (o10.ext h11) hpn (by have:=zyZ hx; omega)).mono fun v w12 ⟨e12,hv⟩=>⟨e12,_,hv,fun w14 h14=>⟨x10.trans h14,?_⟩⟩
      unfold zbo; rw [if_neg hpn]
theorem zC4 (x:Nd) (w:World) (g:GB w):FnP Tryz.prog zhk #[nv x] w fun v w'=>Ext w w'/\∃ (t:ByteArray) (e:Int),v=.tuple #[.string t,.int .i64 e]/\(e=0↔okN x)/\(e≠0->t=⟨#[]⟩)/\(e=0->t=ofL (zbo x)):=by
  refine zu5 x.c x.m x.g w _ fun b0 _ w1 h1=>(zet x w1).mono fun v w2 ⟨e2,hv⟩=>⟨e2,_,hv,fun hne w4 h4=>⟨h4,_,_,rfl,zba,fun _=>rfl,fun h=>absurd h hne⟩,fun hz w4 h4=>?_⟩
  have ok:=zba.1 hz
  exact (zw7 x ok.rng w4 (g.ext h4)).mono fun v w5 ⟨e5,hv⟩=>⟨e5,_,hv,fun w7 h7=>⟨h7,_,_,rfl,⟨fun _=>ok,fun _=>rfl⟩,fun h=>absurd rfl h,fun _=>rfl⟩⟩
theorem zht (s:ByteArray):s.data.toList.length=s.size:=by simp
theorem zeF {c:UInt8}:∀ (k:Nat) (s:ByteArray),Lib.countB s (one c)=k->(Lib.splitB (one c) 0 k s).length=k+1
  |0,s,_ => by rw [Lib.splitB_zero]; rfl
  |k+1,s,h => by
    rcases Lib.indexB_cases s (one c) with hm|⟨j,hj,hle⟩
    · rw [Lib.countB_miss _ _ hm] at h; omega
    · rw [Lib.countB_hit s (one c) j (Nat.le_refl 1) hj] at h
      rw [Lib.splitB_hit (one c) 0 k s j hj,List.length_cons,zeF k _ (by omega)]
def upN (cur:Nd) (name:ByteArray) (v:Int) (k:Nat):Nd:=⟨if 0<k/\pn 0=name then v else cur.c,if 1<k/\pn 1=name then v else cur.m,if 2<k/\pn 2=name then v else cur.g⟩
theorem zzL (cur:Nd) (name:ByteArray) (v:Int):upN cur name v 0=cur:=by cases cur; simp [upN]
theorem zEj {cur:Nd} {name:ByteArray} {v:Int} {k:Nat} (hk:k<3) (h:pn k=name):(zv9 (upN cur name v k)).set k (.int .i64 v)=zv9 (upN cur name v (k+1)):=by
  match k,hk with
  |0,_ => simp [zv9,upN,h]
  |1,_ => simp [zv9,upN,h]
  |2,_ => simp [zv9,upN,h]
theorem zzK {cur:Nd} {name:ByteArray} {v:Int} {k:Nat} (hk:k<3) (h:pn k≠name):upN cur name v (k+1)=upN cur name v k:=by
  match k,hk with
  |0,_ => simp [upN,h]
  |1,_ => simp [upN,h]
  |2,_ => simp [upN,h]
theorem zEi {cur:Nd} {name:ByteArray} {v:Int} {i:Nat} (hi:i<3):zcd (upN cur name v 3) i=if pn i=name then v else zcd cur i:=by
  match i,hi with
  |0,_ => simp [upN,zcd]
  |1,_ => simp [upN,zcd]
  |2,_ => simp [upN,zcd]
theorem pn_inj:∀ {i j:Nat},i<3->j<3->pn i=pn j->i=j:=by
  intro i j hi hj h
  match i,j,hi,hj with
  |0,0,_,_ => rfl
  |1,1,_,_ => rfl
  |2,2,_,_ => rfl
  |0,1,_,_ => exact absurd h (by decide)
  |0,2,_,_ => exact absurd h (by decide)
  |1,0,_,_ => exact absurd h (by decide)
  |1,2,_,_ => exact absurd h (by decide)
  |2,0,_,_ => exact absurd h (by decide)
  |2,1,_,_ => exact absurd h (by decide)
theorem zGx:∀ {i:Nat},i<3->(61:UInt8)∉(pn i).data.toList/\(44:UInt8)∉(pn i).data.toList:=by
  intro i hi
  match i,hi with
  |0,_ => decide
  |1,_ => decide
  |2,_ => decide
theorem zGw {x:Nd} (hx:okN x) {i:Nat} (hi:i<3):(44:UInt8)∉zgu x i:=fun hm=>by
  have h0:=(zpr.1 hx i hi).1
  unfold zgu at hm
  rcases List.mem_append.1 hm with h|h
  · exact (zGx hi).2 h
  · rcases List.mem_cons.1 h with h|h
    · exact absurd h (by decide)
    · exact ziT h0 (by decide) h
theorem zAP {x:Nd} (hx:okN x) (hne:zbo x≠[45]):Lib.countB (ofL (zbo x)) (one 44)+1=(idx x 3).length/\Lib.splitB (one 44) 0 (Lib.countB (ofL (zbo x)) (one 44)) (ofL (zbo x))=(pcs x 3).map ofL:=by
  have hp:pcs x 3≠[]:=fun h=>hne (by unfold zbo; rw [if_pos h])
  have ht:zbo x=Lib.join (pcs x 3) [44]:=by unfold zbo; rw [if_neg hp]
  rw [ht]
  cases hl:pcs x 3 with
  |nil => exact absurd hl hp
  |cons a l =>
    obtain ⟨h1,h2⟩:=zdv (c:=44) l a fun y hy=>by
      rw [<- hl] at hy
      obtain ⟨i,hi,rfl⟩:=List.mem_map.1 hy
      exact zGw hx (zpb hi).1
    have hlen:(idx x 3).length=l.length+1:=by
      have:=congrArg List.length hl
      unfold pcs at this
      rw [List.length_map] at this
      simpa using this
    rw [h1,h2]
    exact ⟨by omega,rfl⟩
def good (x cur:Nd) (k:Nat):Prop:=∀ i,i<3->zcd cur i=if i∈(idx x 3).take k then zcd x i else 0
theorem zoe {x cur:Nd} (h:good x cur (idx x 3).length):cur=x:=by
  have key:∀ i,i<3->zcd cur i=zcd x i:=fun i hi=>by
    rw [h i hi,List.take_length]
    split
    · rfl
    · rename_i hn
      by_cases h0:zcd x i=0
      · exact h0.symm
      · exact absurd (List.mem_filter.2 ⟨List.mem_range.2 hi,by simpa using h0⟩) hn
  have a:=key 0 (by omega)
  have b:=key 1 (by omega)
  have c:=key 2 (by omega)
  cases cur; cases x
  simp only [zcd] at a b c
  simp [a,b,c]
theorem zuh {x cur:Nd} {k i:Nat} (h:good x cur k) (hi:(idx x 3)[k]?=some i):good x (upN cur (pn i) (zcd x i) 3) (k+1):=by
  have hm:=zpb (List.mem_of_getElem? hi)
  intro j hj
  rw [zEi hj,List.take_add_one,hi]
  simp only [Option.toList_some,List.mem_append,List.mem_singleton]
  by_cases e:j=i
  · subst e; simp
  · rw [if_neg (fun hp=>e (pn_inj hj hm.1 hp)),h j hj]
    simp [e]
theorem zjs {x:Nd}:good x za6 0:=fun i hi=>by
  match i,hi with
  |0,_ => simp [zcd,za6]
  |1,_ => simp [zcd,za6]
  |2,_ => simp [zcd,za6]
abbrev RQ (w:World) (s:ByteArray) (v:Value) (w':World):Prop:=Ext w w'/\∃ (a:Nd) (e:Int),v=.tuple #[nv a,.int .i64 e]/\(e≠0->a=za6)/\(e=0->okN a/\s=ofL (zbo a))/\(∀ x,okN x->s=ofL (zbo x)->e=0/\a=x)
def rtail (s:ByteArray) (p2:Option Addr) (b0:Nat) (w10:World) (Q:Value->World->Prop):Prop :=
       p2≠none /\
       ∃ t11:Int,cell w10 p2 0=some (.int .i64 t11) /\
       ∃ t12:Int,cell w10 p2 1=some (.int .i64 t12) /\
       ∃ t13:Int,cell w10 p2 2=some (.int .i64 t13) /\
       ∀ w14,Ext w10 w14 ->
       FnP Tryz.prog zea #[(.agg #[(.int .i64 t11),(.int .i64 t12),(.int .i64 t13)])] w14 fun v15 w15 =>
        Ext w14 w15 /\
        ∃ t16:ByteArray,v15=(.string t16) /\
        ((t16≠s) ->
         ∀ w17,zag [b0] [] w10 w17 ->
         Q (.tuple #[(.agg #[(.int .i64 0),(.int .i64 0),(.int .i64 0)]),(.int .i64 3)]) w17) /\
        ((t16=s) ->
         p2≠none /\
         ∃ t17:Int,cell w10 p2 0=some (.int .i64 t17) /\
         ∃ t18:Int,cell w10 p2 1=some (.int .i64 t18) /\
         ∃ t19:Int,cell w10 p2 2=some (.int .i64 t19) /\
         ∀ w20,Ext w10 w20 ->
         FnP Tryz.prog zbg #[(.agg #[(.int .i64 t17),(.int .i64 t18),(.int .i64 t19)])] w20 fun v21 w21 =>
          Ext w20 w21 /\
          ∃ t22:Int,v21=(.int .i64 t22) /\
          ((t22≠0) ->
           ∀ w23,zag [b0] [] w10 w23 ->
           Q (.tuple #[(.agg #[(.int .i64 0),(.int .i64 0),(.int .i64 0)]),(.int .i64 t22)]) w23) /\
          ((t22=0) ->
           p2≠none /\
           ∃ t23:Int,cell w10 p2 0=some (.int .i64 t23) /\
           ∃ t24:Int,cell w10 p2 1=some (.int .i64 t24) /\
           ∃ t25:Int,cell w10 p2 2=some (.int .i64 t25) /\
           ∀ w26,zag [b0] [] w10 w26 ->
           Q (.tuple #[(.agg #[(.int .i64 t23),(.int .i64 t24),(.int .i64 t25)]),(.int .i64 0)]) w26))
theorem zzs {w w10:World} {s:ByteArray} {p2:Option Addr} {b0:Nat} {cur:Nd} (x10:Ext w w10) (hb0:w.heap.size<=b0) (c10:zBj w10 p2 cur) (hp:p2≠none) (hr:rng cur) (g:GB w)
    (hgood:∀ x,okN x->s=ofL (zbo x)->cur=x):rtail s p2 b0 w10 (RQ w s):=by
  have k0:=c10 0 _ rfl
  have k1:=c10 1 _ rfl
  have k2:=c10 2 _ rfl
  have bx:∀ {w':World},zag [b0] [] w10 w'->Ext w w':=fun h=>zav h x10 (by intro d hd; simp at hd; omega)
  refine ⟨hp,_,k0,_,k1,_,k2,fun w14 h14=>(zw7 cur hr w14 (g.ext (x10.trans h14))).mono fun v w15 ⟨e15,hv⟩=>⟨e15,_,hv,fun hne w17 x17=>⟨bx x17,za6,_,rfl,fun _=>rfl,fun h=>by omega,fun x hx hs=>?_⟩,fun heq=>⟨hp,_,k0,_,k1,_,k2,fun w20 h20=>(zet cur w20).mono fun v w21 ⟨e21,hv⟩=>⟨e21,_,hv,fun hne w23 x23=>⟨bx x23,za6,_,rfl,fun _=>rfl,fun h=>absurd h hne,fun x hx hs=>?_⟩,fun hz=>⟨hp,_,k0,_,k1,_,k2,fun w26 x26=>⟨bx x26,cur,0,rfl,fun h=>absurd rfl h,fun _=>⟨zba.1 hz,heq.symm⟩,fun x hx hs=>⟨rfl,hgood x hx hs⟩⟩⟩⟩⟩⟩⟩
  · exact absurd (by rw [hgood x hx hs]; exact hs.symm) hne
  · exact absurd (zba.2 (by rw [hgood x hx hs]; exact hx)) hne
theorem zC3 (s:ByteArray) (hs:s.size<4294967281) (w:World) (g:GB w):FnP Tryz.prog zfj #[.string s] w (RQ w s):=by
  refine znC s w _ fun b0 hb0 w1 x1=>zbC (by simp [Value.oneCell']) fun w2 o2 e2=>?_
  have h1:=zaa x1
  have l0:=x1.lt b0 (by simp)
  have o2:=o2 w.heap.size h1.size
  have np:(some (⟨w1.heap.size,0,none⟩:Addr))≠none:=by simp
  have h2:=h1.trans e2
  have rz:rng za6:=fun i hi=>by
    match i,hi with
    |0,_ => simp [zcd,za6]
    |1,_ => simp [zcd,za6]
    |2,_ => simp [zcd,za6]
  have hpb:∀ y,(some (⟨w1.heap.size,0,none⟩:Addr))=some y->y.block≠b0:=fun y hy=>by obtain rfl:=Option.some.inj hy; show w1.heap.size≠b0; omega
  have hpl:∀ y,(some (⟨w1.heap.size,0,none⟩:Addr))=some y->y.block<w2.heap.size:=fun y hy=>(o2.lt y hy).2
  generalize hpp:(some (⟨w1.heap.size,0,none⟩:Addr))=p at o2 np hpb hpl ⊢
  refine ⟨fun hne w3 x3=>?_,fun heq=>?_⟩
  rotate_left
  · refine zzs (cur:=za6) h2 hb0 o2.cells np rz g fun x hx hs=>?_
    have hl:zbo x=[45]:=zmB (hs.symm.trans heq)
    by_cases hp:pcs x 3=[]
    · refine zoe ?_
      have:idx x 3=[]:=by simpa [pcs] using hp
      intro i hi
      rw [this]
      exact zjs i hi
    · exfalso
      unfold zbo at hl
      rw [if_neg hp] at hl
      cases hc:pcs x 3 with
      |nil => exact hp hc
      |cons a l =>
        rw [hc,Lib.join_cons] at hl
        have ha:a∈pcs x 3:=by rw [hc]; exact List.mem_cons_self ..
        obtain ⟨i,_,rfl⟩:=List.mem_map.1 ha
        have:=congrArg List.length hl
        unfold zgu at this
        have h3:(pn i).data.toList.length=3:=zzj i
        rw [List.length_append,List.length_append,h3] at this
        simp at this
        omega
  have h3:=h2.trans (zaa x3)
  have g3:=g.ext h3
  refine (zeR 44 s hs w3 g3).mono fun v w4 ⟨e4,hv,hc4,_⟩=>⟨e4,_,_,_,hv,?_⟩
  have spn:(some (⟨w3.heap.size,0,none⟩:Addr))≠none:=by simp
  have apsp:zbT (some (⟨w3.heap.size,0,none⟩:Addr)) p:=fun a b ha hb he=>by
    obtain rfl:=Option.some.inj ha
    have h5:=hpl b hb
    have h6:=(zaa x3).size
    have h7:w3.heap.size=b.block:=he
    omega
  generalize (some (⟨w3.heap.size,0,none⟩:Addr))=sp at hc4 spn apsp ⊢
  have slen:=zeF (c:=44) _ s rfl
  have ssz:∀ i q,(Lib.splitB (one 44) 0 (Lib.countB s (one 44)) s)[i]?=some q->q.size+i<=s.size:=fun i q h=>zcw _ s i q h
  have sgood:∀ x,okN x->s=ofL (zbo x)->Lib.countB s (one 44)+1=(idx x 3).length/\Lib.splitB (one 44) 0 (Lib.countB s (one 44)) s=(pcs x 3).map ofL:=fun x hx hsx=>by
    have:=zAP hx fun h=>hne (by rw [hsx,h]; rfl)
    rwa [<- hsx] at this
  generalize Lib.splitB (one 44) 0 (Lib.countB s (one 44)) s=S at hc4 slen ssz sgood
  generalize Lib.countB s (one 44)=n at slen sgood ⊢
  refine ⟨fun k w'=>Ext w w'/\0<=k/\k<=(n+1:Nat)/\zau w' sp (S.map Value.string)/\∃ cur,Own w.heap.size w' zid 3 p 1 1 (zv9 cur)/\rng cur/\∀ x,okN x->s=ofL (zbo x)->good x cur k.toNat,fun k _=>(n+1-k).toNat,
    ⟨h3.trans e4,by omega,by omega,hc4,za6,(o2.ext (zaa x3)).ext e4,rz,fun x _ _=>zjs⟩,?_⟩
  rintro k w10 ⟨x10,hk0,hk1,c10,cur,o10,hr,hgd⟩
  refine ⟨fun hlt=>?_,fun hge=>?_⟩
  rotate_left
  · refine zzs (cur:=cur) x10 hb0 o10.cells np hr g fun x hx hsx=>zoe ?_
    have:=hgd x hx hsx
    rwa [show k.toNat=(idx x 3).length by have:=(sgood x hx hsx).1; omega] at this
  obtain ⟨pc,hpc⟩:∃ pc,S[k.toNat]?=some pc:=⟨_,List.getElem?_eq_getElem (by omega)⟩
  have hcell:Go.Sx.cell w10 (pIdx sp k 1) 0=some (.string pc):=by
    rw [zae]
    exact c10 _ _ (by simp [hpc])
  have hpsz:=ssz _ _ hpc
  refine ⟨spn,hk0,hlt,_,hcell,fun w12 h12=>(zwd 61 pc (by omega) w12 ((g.ext x10).ext h12)).mono fun v w13 ⟨e13,hv⟩=>⟨e13,_,_,_,hv,fun w17 x17=>?_⟩⟩
  have hx17:=x10.trans (zaa x17)
  have hcsz:(Lib.cut pc.data.toList [61]).2.1.length<=pc.size:=by have:=zhw pc.data.toList 61; rwa [zht] at this
  have hthis:∀ x,okN x->s=ofL (zbo x)->∃ i,(idx x 3)[k.toNat]?=some i/\i<3/\0<zcd x i/\ofL (Lib.cut pc.data.toList [61]).1=pn i/\Lib.parseIntB 64 (ofL (Lib.cut pc.data.toList [61]).2.1).data.toList=.ok (zcd x i):=fun x hx hsx=>by
    have hS:=(sgood x hx hsx).2
    rw [hS,List.getElem?_map] at hpc
    unfold pcs at hpc
    rw [List.getElem?_map,Option.map_map,Option.map_eq_some_iff] at hpc
    obtain ⟨i,hi,rfl⟩:=hpc
    have hm:=zpb (List.mem_of_getElem? hi)
    have hb:=zpr.1 hx i hm.1
    have hcut:Lib.cut (ofL (zgu x i)).data.toList [61]=((pn i).data.toList,Lib.itoa (zcd x i),true):=zwz _ (zGx hm.1).1
    have hcut':Lib.cut ((ofL∘zgu x) i).data.toList [61]=((pn i).data.toList,Lib.itoa (zcd x i),true):=hcut
    rw [hcut']
    exact ⟨i,hi,hm.1,by omega,zb8 _,zei hb⟩
  generalize (ofL (Lib.cut pc.data.toList [61]).1)=name at hthis ⊢
  have hnsz:(ofL (Lib.cut pc.data.toList [61]).2.1).size<=281474976710656:=by rw [zas]; omega
  generalize (ofL (Lib.cut pc.data.toList [61]).2.1)=num at hthis hnsz ⊢
  refine (zjo num hnsz w17 (g.ext hx17)).mono fun v w18 ⟨e18,vn,ev,hv,hcase⟩=>⟨e18,vn,ev,hv,fun w21 h21=>?_⟩
  have hx18:=hx17.trans e18
  refine ziW (by kernel_rfl) (hcase.elim (fun h=>.inl h.1) fun h=>.inr h.1) fun t ht=>⟨Ext.refl _,t,rfl,fun hbad w24 x24=>⟨zav x24 hx18 (by intro d hd; simp at hd; omega),za6,3,rfl,fun _=>rfl,fun h=>by omega,fun x hx hsx=>?_⟩,fun hok w24 x24=>?_⟩
  · exfalso
    obtain ⟨i,_,_,hpos,_,hpar⟩:=hthis x hx hsx
    rcases hcase with ⟨h1,h2⟩|⟨_,h2⟩
    · rw [hpar] at h2
      injection h2 with h2
      rcases hbad with h|h
      · rw [ht.2 h1] at h; cases h
      · omega
    · exact h2 _ hpar
  have hx24:=hx18.trans (zaa x24)
  obtain ⟨hev,hpar⟩:ev=.nilIface/\Lib.parseIntB 64 num.data.toList=.ok vn:=by
    rcases hcase with h|⟨⟨a,b,h⟩,_⟩
    · exact h
    · have:=ht.1 hok.1
      rw [h] at this; cases this
  have o24:Own w.heap.size w24 zid 3 p 1 1 (zv9 cur):=(((o10.ext (zaa x17)).ext e18).ext (zaa x24))
  have c24:zau w24 sp (S.map Value.string):=(((c10.ext (zaa x17)).ext e18).ext (zaa x24))
  refine (zs3 p np w24).mono fun v w25 ⟨e25,q,hv,hq,hqb⟩=>⟨e25,q,3,3,hv,?_⟩
  have apq:zbT q p:=fun a b ha hb he=>by
    have h5:=hqb a ha
    have h6:=(o24.lt b hb).2
    omega
  refine ⟨fun k30 w'=>Ext w w'/\0<=k30/\k30<=3/\zau w' sp (S.map Value.string)/\zau w' q (zvi p)/\Own w.heap.size w' zid 3 p 1 1 (zv9 (upN cur name vn k30.toNat)),fun k30 _=>(3-k30).toNat,
    ⟨hx24.trans e25,by omega,by omega,c24.ext e25,hq,by rw [show (0:Int).toNat=0 from rfl,zzL]; exact o24.ext e25⟩,?_⟩
  rintro k30 w31 ⟨x31,hj0,hj3,c31,q31,o31⟩
  refine ⟨fun hjlt=>?_,fun hjge=>?_⟩
  · obtain ⟨d1,d2⟩:=zs2 q31 hj0 hjlt
    have hj:k30.toNat<3:=by omega
    refine ⟨fun hq=>zak d1 (zah.2 hq),hj0,hjlt,zak d1,_,d1,_,d2,fun b34 hb34=>⟨fun heq=>⟨fun h=>np (zdh.1 h),?_⟩,fun hne=>⟨i64 (by omega),⟨x31,by omega,by omega,c31,q31,?_⟩,by simp only []; omega⟩⟩⟩
    · refine zco o31 (by simpa using hj) rfl (fun b hb y hy=>?_) fun w35 o35 g35=>⟨i64 (by omega),⟨g35.ext x31 o31,by omega,by omega,c31.grew apsp g35,q31.grew apq g35,?_⟩,by simp only []; omega⟩
      · simp only [List.mem_cons,List.mem_singleton,List.mem_nil_iff,or_false] at hb
        rcases hb with rfl|rfl
        · exact hpb y hy
        · have:=(o31.lt y hy).2; omega
      · rw [show (k30+1).toNat=k30.toNat+1 by omega,<- zEj hj heq]
        exact o35
    · rw [show (k30+1).toNat=k30.toNat+1 by omega,zzK hj hne]
      exact o31
  · obtain rfl:k30=3:=by omega
    refine ⟨i64 (by omega),⟨x31,by omega,by omega,c31,upN cur name vn 3,o31,fun i hi=>?_,fun x hx hsx=>?_⟩,by simp only []; omega⟩
    · rw [zEi hi]
      split
      · have:=zvf hpar hok.2
        omega
      · exact hr i hi
    · obtain ⟨i,hi,hi3,_,hname,hp2⟩:=hthis x hx hsx
      rw [hpar] at hp2
      injection hp2 with hp2
      rw [hp2,hname,show (k+1).toNat=k.toNat+1 by omega]
      exact zuh (hgd x hx hsx) hi
def zfp (s:ByteArray):List Int:=s.data.toList.map fun b=>(b.toNat:Int)
theorem zz2 (s:ByteArray):(zfp s).length=s.size:=by simp [zfp]
theorem zKi {P:Program} {src dst e:TypeId} {s:ByteArray} (hs:P.underlying src=some .string) (hd:P.underlying dst=some (.slice e)) (he:P.underlying e=some (.int .u8)) {w:World} {K:Value->World->Prop}
    (hk:∀ p c w',Ext w w'->zes .u8 w' p (zfp s)->K (.slice p s.size c) w'):Run P (.convert src dst (.string s)) w K:=by
  refine ⟨_,_,run_bytes_of_string w src dst e s hs hd he,hk _ _ _ ?_ fun i v hv=>?_⟩
  · exact Below.alloc (B:=w.heap.size) (a:=w) (w:=w.drew) ⟨rfl,rfl,rfl,Nat.le_refl _,fun _ _=>rfl⟩ (Nat.le_refl _) _
  · obtain ⟨hi,hv⟩:=List.getElem?_eq_some_iff.1 hv
    have hi':i<s.data.size:=by simpa [zfp] using hi
    have hc:=World.cell?_alloc_mark w.drew (bytesRow s (grownCap w s.size 0 e)) e ((bytesRow s (grownCap w s.size 0 e)).size,(bytesRow s (grownCap w s.size 0 e)).size+1) i
    rw [bytesRow_at s _ i hi'] at hc
    simp only [cell,Option.bind_some]
    have ha:(Addr.add ⟨w.heap.size,0,none⟩ i)=⟨w.drew.heap.size,i,none⟩:=by simp [Addr.add]; intro h; exact h.symm
    rw [ha,hc,<- hv]
    simp [zfp]
inductive AT where
  |mk (k:Int) (key val:ByteArray) (n:Int) (xs:List AT)
def AT.k:AT->Int|.mk k _ _ _ _=>k
def AT.key:AT->ByteArray|.mk _ key _ _ _=>key
def AT.val:AT->ByteArray|.mk _ _ val _ _=>val
def AT.n:AT->Int|.mk _ _ _ n _=>n
def AT.xs:AT->List AT|.mk _ _ _ _ xs=>xs
theorem AT.eta (t:AT):t=.mk t.k t.key t.val t.n t.xs:=by cases t; rfl
theorem AT.ind {P:AT->Prop} (h:∀ k key val n xs,(∀ x∈xs,P x)->P (.mk k key val n xs)) (t:AT):P t:=by
  refine AT.rec (motive_1:=P) (motive_2:=fun l=>∀ x∈l,P x) ?_ ?_ ?_ t
  · intro k key val n xs ih; exact h k key val n xs ih
  · intro x hx; cases hx
  · intro x l h1 h2 y hy
    rcases List.mem_cons.1 hy with rfl|hy
    · exact h1
    · exact h2 y hy
def zoc (t:AT) (p:Option Addr) (c:Nat):List Value:=[.int .i64 t.k,.string t.key,.string t.val,.int .i64 t.n,.slice p t.xs.length c]
abbrev av (t:AT) (p:Option Addr) (c:Nat):Value:=.agg #[.int .i64 t.k,.string t.key,.string t.val,.int .i64 t.n,.slice p t.xs.length c]
mutual
def IsT (w:World):AT->Option Addr->Nat->Prop
  |.mk _ _ _ _ xs,p,c => xs.length<=c/\IsL w xs p 0
def IsL (w:World):List AT->Option Addr->Nat->Prop
  |[],_,_ => True
  |x::r,p,i => (∃ p' c',(∀ j u,(zoc x p' c')[j]?=some u->cell w p (i*5+j)=some u)/\IsT w x p' c')/\IsL w r p (i+1)
end
theorem IsL.get {w:World}:∀ {xs:List AT} {p:Option Addr} {i:Nat},IsL w xs p i->∀ {j:Nat} {x:AT},xs[j]?=some x->∃ p' c',(∀ m u,(zoc x p' c')[m]?=some u->cell w p ((i+j)*5+m)=some u)/\IsT w x p' c'
  |[],p,i,h,j,x,hx => by simp at hx
  |y::r,p,i,h,j,x,hx => by
    unfold IsL at h
    cases j with
    |zero =>
      simp at hx; subst hx
      exact h.1
    |succ j =>
      have:=IsL.get h.2 (j:=j) (x:=x) (by simpa using hx)
      rw [show i+(j+1)=i+1+j by omega]
      exact this
theorem IsL.of {w:World}:∀ {xs:List AT} {p:Option Addr} {i:Nat},(∀ (j:Nat) (x:AT),xs[j]?=some x->∃ p' c',(∀ m u,(zoc x p' c')[m]?=some u->cell w p ((i+j)*5+m)=some u)/\IsT w x p' c')->IsL w xs p i
  |[],p,i,h => by unfold IsL; trivial
  |y::r,p,i,h => by
    unfold IsL
    refine ⟨h 0 y rfl,IsL.of fun j x hx=>?_⟩
    have:=h (j+1) x (by simpa using hx)
    rw [show i+(j+1)=i+1+j by omega] at this
    exact this
theorem IsT.ext {w w':World} (he:Ext w w'):∀ (t:AT) (p:Option Addr) (c:Nat),IsT w t p c->IsT w' t p c:=by
  intro t
  induction t using AT.ind with
  |h k key val n xs ih =>
    intro p c h
    unfold IsT at h ⊢
    refine ⟨h.1,IsL.of fun j x hx=>?_⟩
    obtain ⟨p',c',h1,h2⟩:=h.2.get hx
    exact ⟨p',c',fun m u hu=>zaI he (h1 m u hu),ih x (List.mem_of_getElem? hx) p' c' h2⟩
theorem IsT.at {w:World} {t:AT} {p:Option Addr} {c:Nat} (h:IsT w t p c) {k:Int} (h0:0<=k) (hk:k<t.xs.length) :
    ∃ x p' c',t.xs[k.toNat]?=some x/\x∈t.xs/\IsT w x p' c'/\p≠none/\pIdx p k 5≠none/\cell w (pIdx p k 5) 0=some (.int .i64 x.k)/\cell w (pIdx p k 5) 1=some (.string x.key)/\cell w (pIdx p k 5) 2=some (.string x.val) /\
      cell w (pIdx p k 5) 3=some (.int .i64 x.n)/\cell w (pIdx p k 5) 4=some (.slice p' x.xs.length c'):=by
  cases t with
  |mk kk key val n xs =>
    unfold IsT at h
    have hk:k<xs.length:=hk
    obtain ⟨x,hx⟩:∃ x,xs[k.toNat]?=some x:=⟨_,List.getElem?_eq_getElem (by omega)⟩
    obtain ⟨p',c',h1,h2⟩:=h.2.get hx
    simp only [Nat.zero_add] at h1
    have g:∀ (m:Nat) u,(zoc x p' c')[m]?=some u->cell w (pIdx p k 5) m=some u:=fun m u hu=>by rw [zae]; exact h1 m u hu
    have g0:=g 0 _ rfl
    exact ⟨x,p',c',hx,List.mem_of_getElem? hx,h2,fun hq=>zak g0 (zah.2 hq),zak g0,g0,g 1 _ rfl,g 2 _ rfl,g 3 _ rfl,g 4 _ rfl⟩
mutual
def WfA:AT->Prop
  |.mk k key val n xs => InR .i64 k/\key.size<=9223372036854775807/\val.size<=9223372036854775807/\InR .i64 n/\xs.length<=9223372036854775807/\WfL xs
def WfL:List AT->Prop
  |[] => True
  |x::r => WfA x/\WfL r
end
theorem WfL.mem:∀ {l:List AT},WfL l->∀ x∈l,WfA x
  |[],_,x,hx => by cases hx
  |y::r,h,x,hx => by
    unfold WfL at h
    rcases List.mem_cons.1 hx with rfl|hx
    · exact h.1
    · exact WfL.mem h.2 x hx
theorem WfL.of:∀ {l:List AT},(∀ x∈l,WfA x)->WfL l
  |[],_ => by unfold WfL; trivial
  |y::r,h => by unfold WfL; exact ⟨h y (List.mem_cons_self ..),WfL.of fun x hx => h x (List.mem_cons_of_mem _ hx)⟩
theorem WfA.len {t:AT} (h:WfA t):t.xs.length<=9223372036854775807:=by cases t; unfold WfA at h; exact h.2.2.2.2.1
theorem WfA.sub {t:AT} (h:WfA t):∀ x∈t.xs,WfA x:=by cases t; unfold WfA at h; exact h.2.2.2.2.2.mem
theorem zE9 {w:World}:∀ (n:Nat) (cs:List Value),Go.Sx.Good Tryz.prog w n zdJ cs->∃ t p c,cs=zoc t p c/\IsT w t p c/\WfA t:=by
  intro n
  induction n using Nat.strongRecOn with
  |_ n ih =>
  intro cs hg
  have hlv:=zcJ (P:=Tryz.prog) 6 zdJ [zfJ,zay,zay,zdb,zci] n cs (by kernel_rfl) hg
  obtain ⟨v0,r0,rfl,l0,hlv⟩:=zai hlv
  obtain ⟨v1,r1,rfl,l1,hlv⟩:=zai hlv
  obtain ⟨v2,r2,rfl,l2,hlv⟩:=zai hlv
  obtain ⟨v3,r3,rfl,l3,hlv⟩:=zai hlv
  obtain ⟨v4,r4,rfl,l4,hlv⟩:=zai hlv
  obtain rfl:=zhE hlv
  obtain ⟨k,rfl,hk⟩:=zaJ (k:=.i64) (by kernel_rfl) l0
  obtain ⟨key,rfl,hkey⟩:=zcY (by kernel_rfl) l1
  obtain ⟨val,rfl,hval⟩:=zcY (by kernel_rfl) l2
  obtain ⟨m,rfl,hm⟩:=zaJ (k:=.i64) (by kernel_rfl) l3
  have hsl:∃ n',n'<n/\Go.Sx.Good Tryz.prog w n' zci [v4]:=by
    cases n with
    |zero => exact hg.elim
    |succ n =>
      unfold Go.Sx.Good at hg
      have hu:Tryz.prog.underlying zdJ=some (.struct (Tryz.prog.fieldsOf zdJ)):=by kernel_rfl
      rw [hu] at hg
      have hf:((Tryz.prog.fieldsOf zdJ)[4]?).map (fun f=>(f.type,f.offset))=some (zci,4):=by kernel_rfl
      obtain ⟨f,hf1,hf2⟩:=Option.map_eq_some_iff.1 hf
      simp only [Prod.mk.injEq] at hf2
      have:=hg.2 f (by have:=Array.mem_of_getElem? hf1; simpa using this)
      rw [hf2.1,hf2.2] at this
      exact ⟨n,by omega,by simpa [show Tryz.prog.cellsOf zci=1 by kernel_rfl] using this⟩
  obtain ⟨n1,hn1,hsl⟩:=hsl
  have hin:∃ p l c,v4=.slice p l c/\l<=c/\c<=9223372036854775807/\(p=none->c=0)/\∀ a,p=some a->∀ i,i<c->∃ n2 es,n2<n/\w.cells? 0 (a.add (i*5)) 5=some es/\Go.Sx.Good Tryz.prog w n2 zdJ es:=by
    cases n1 with
    |zero => exact hsl.elim
    |succ n1 =>
      unfold Go.Sx.Good at hsl
      have hu:Tryz.prog.underlying zci=some (.slice zdJ):=by kernel_rfl
      have hc5:Tryz.prog.cellsOf zdJ=5:=by kernel_rfl
      rw [hu] at hsl
      simp only [hc5] at hsl
      rcases hsl with h|⟨a,len,cap,h,h1,h2,h3⟩
      · simp only [List.cons.injEq,and_true] at h
        exact ⟨none,0,0,h,Nat.le_refl _,by omega,fun _=>rfl,fun a ha=>by cases ha⟩
      · simp only [List.cons.injEq,and_true] at h
        refine ⟨some a,len,cap,h,h1,h2,fun ha=>(by cases ha),fun b hb i hi=>?_⟩
        obtain rfl:=Option.some.inj hb
        obtain ⟨es,h4,h5⟩:=h3 i hi
        exact ⟨n1,es,by omega,h4,h5⟩
  obtain ⟨p,l,c,rfl,hlc,hcm,hpn,hel⟩:=hin
  have hxs:∀ (d i:Nat),i+d=l->∃ xs:List AT,xs.length=d/\(∀ x∈xs,WfA x)/\IsL w xs p i:=by
    intro d
    induction d with
    |zero => exact fun i _ => ⟨[],rfl,fun x hx => (by cases hx),by unfold IsL; trivial⟩
    |succ d ihd =>
      intro i hi
      obtain ⟨xs,h1,h2,h3⟩:=ihd (i+1) (by omega)
      cases p with
      |none => have:=hpn rfl; omega
      |some a =>
        obtain ⟨n2,es,h4,h5,h6⟩:=hel a rfl i (by omega)
        obtain ⟨x,p',c',rfl,h7,h8⟩:=ih n2 h4 es h6
        refine ⟨x::xs,by simp [h1],fun y hy=>?_,?_⟩
        · rcases List.mem_cons.1 hy with rfl|hy
          · exact h8
          · exact h2 y hy
        · unfold IsL
          refine ⟨⟨p',c',fun j u hu=>?_,h7⟩,h3⟩
          have:=(cells?_some h5).2 j u hu
          simp only [cell,Option.bind_some] at this ⊢
          rw [<- zfm]; exact this
  obtain ⟨xs,h1,h2,h3⟩:=hxs l 0 (by omega)
  subst h1
  exact ⟨.mk k key val m xs,p,c,rfl,by unfold IsT; exact ⟨hlc,h3⟩,by unfold WfA; exact ⟨hk,hkey,hval,hm,by omega,WfL.of h2⟩⟩
theorem zIM {W:World} {p:Option Addr} {l c:Nat} (h:zaH Tryz.prog W zdJ p l c) {k:Int} (hk:InR .i64 k) {key val:ByteArray} (hkey:key.size<=9223372036854775807) (hval:val.size<=9223372036854775807) {n:Int} (hn:InR .i64 n) :
    ∃ t:AT,t.k=k/\t.key=key/\t.val=val/\t.n=n/\t.xs.length=l/\IsT W t p c/\WfA t:=by
  have hc5:Tryz.prog.cellsOf zdJ=5:=by kernel_rfl
  have hxs:∀ (d i:Nat),i+d=l->∃ xs:List AT,xs.length=d/\(∀ x∈xs,WfA x)/\IsL W xs p i:=by
    intro d
    induction d with
    |zero => exact fun i _ => ⟨[],rfl,fun x hx => (by cases hx),by unfold IsL; trivial⟩
    |succ d ihd =>
      intro i hi
      obtain ⟨xs,h1,h2,h3⟩:=ihd (i+1) (by omega)
      have hle:=h.le
      cases p with
      |none => have:=h.nil rfl; omega
      |some a =>
        obtain ⟨n2,es,h5,h6⟩:=h.el a rfl i (by omega)
        rw [hc5] at h5
        obtain ⟨x,p',c',rfl,h7,h8⟩:=zE9 n2 es h6
        refine ⟨x::xs,by simp [h1],fun y hy=>?_,?_⟩
        · rcases List.mem_cons.1 hy with rfl|hy
          · exact h8
          · exact h2 y hy
        · unfold IsL
          refine ⟨⟨p',c',fun j u hu=>?_,h7⟩,h3⟩
          have:=(cells?_some h5).2 j u hu
          simp only [cell,Option.bind_some] at this ⊢
          rw [<- zfm]; exact this
  obtain ⟨xs,h1,h2,h3⟩:=hxs l 0 (by omega)
  have:=h.le
  have:=h.max
  subst h1
  exact ⟨.mk k key val n xs,rfl,rfl,rfl,rfl,rfl,by unfold IsT; exact ⟨h.le,h3⟩,by unfold WfA; exact ⟨hk,hkey,hval,hn,by omega,WfL.of h2⟩⟩
def okC (b:Int):Bool:=(decide (97<=b)&&decide (b<=122))||(decide (48<=b)&&decide (b<=57))||decide (b=45)
def lbB (s:ByteArray):Bool:=decide (0<s.size)&&decide (s.size<=20)&&decide (97<=sAt s 0)&&decide (sAt s 0<=122)&&(zfp s).all okC
def zA3:ByteArray:=⟨#[99,112,117]⟩
def memS:ByteArray:=⟨#[109,101,109]⟩
def gpuS:ByteArray:=⟨#[103,112,117]⟩
def unB (s:ByteArray):Bool:=decide (s=zA3)||decide (s=memS)||decide (s=gpuS)
def emS:ByteArray:=⟨#[]⟩
def zfL (k:Int):Nat:=if k=5\/k=6 then 2 else if k=4 then 1 else 0
def zkR (k:Int) (key val:ByteArray) (n:Int) (l:Nat):Int :=
  if k<1\/6<k then 1 else if l≠zfL k then 1
  else if (4<=k/\key≠emS)\/(k≠2/\val≠emS)\/(k≠3/\n≠0) then 1
  else if (k=3/\unB key=false)\/((k=1\/k=2)/\lbB key=false)\/(k=2/\lbB val=false) then 3
  else if n<0\/1099511627776<n then 4 else 0
mutual
def zeS:AT->Int
  |.mk k key val n xs => if zkR k key val n xs.length≠0 then zkR k key val n xs.length else zAd xs
def zAd:List AT->Int
  |[] => 0
  |x::r => if zeS x≠0 then zeS x else zAd r
end
mutual
def zIU:AT->Int
  |.mk _ _ _ _ xs => zEF xs 1
def zEF:List AT->Int->Int
  |[],n => n
  |x::r,n => zEF r (IntKind.wrap .i64 (n+zIU x))
end
def zl3 (t:AT):Int:=if 60<zIU t then 2 else zeS t
theorem zoY:∀ {l:List AT},zAd l=0↔∀ x∈l,zeS x=0
  |[] => by unfold zAd; simp
  |y::r => by
    unfold zAd
    have:=zoY (l:=r)
    by_cases h:zeS y=0
    · simp [h,this]
    · simp [h]
theorem zrs:∀ {l:List AT} {k:Nat} {x:AT},l[k]?=some x->(∀ j y,j<k->l[j]?=some y->zeS y=0)->zeS x≠0->zAd l=zeS x
  |[],k,x,h,_,_ => by simp at h
  |y::r,0,x,h,_,hx => by simp at h; subst h; unfold zAd; rw [if_pos hx]
  |y::r,k+1,x,h,hb,hx => by
    unfold zAd
    rw [if_neg (by simp [hb 0 y (by omega) rfl])]
    exact zrs (by simpa using h) (fun j z hj hz=>hb (j+1) z (by omega) (by simpa using hz)) hx
mutual
def zwb (at_:AT->Bool):AT->Bool
  |.mk k key val n xs => if k=4 then !(zHa at_ xs).getD 0 false else if k=5 then (zHa at_ xs).getD 0 false&&(zHa at_ xs).getD 1 false else if k=6 then (zHa at_ xs).getD 0 false||(zHa at_ xs).getD 1 false else at_ (.mk k key val n xs)
def zHa (at_:AT->Bool):List AT->List Bool
  |[] => []
  |x::r => zwb at_ x::zHa at_ r
end
theorem zHb (at_:AT->Bool) (l:List AT):zHa at_ l=l.map (zwb at_):=by
  induction l with
  |nil => unfold zHa; rfl
  |cons x r ih => unfold zHa; rw [ih]; rfl
theorem zgO {t:AT} (h:zeS t=0):zkR t.k t.key t.val t.n t.xs.length=0/\∀ x∈t.xs,zeS x=0:=by
  cases t with
  |mk k key val n xs =>
    unfold zeS at h
    split at h
    · rename_i h1; exact absurd h h1
    · rename_i h1
      exact ⟨Classical.not_not.1 h1,zoY.1 h⟩
theorem zsk {k:Int} {key val:ByteArray} {n:Int} {l:Nat} (h:zkR k key val n l=0):l=zfL k:=by
  unfold zkR at h
  split at h
  · omega
  · split at h
    · omega
    · rename_i h2; exact Classical.not_not.1 h2
theorem zgh (s:ByteArray) (hs:s.size<=9223372036854775807) (w:World):FnP Tryz.prog zbm #[.string s] w fun v w'=>Ext w w'/\v=.bool (lbB s):=by
  have hem:s≠emS↔0<s.size:=by
    constructor
    · intro h
      refine Nat.pos_of_ne_zero fun h0=>h ?_
      have h1:s.data.size=0:=h0
      have h2:s=ByteArray.empty:=by simpa using h1
      rw [h2]; rfl
    · rintro h rfl
      simp [emS] at h; exact absurd h (by decide)
  refine zuS s w _ ⟨fun _=>by omega,fun h=>?_,fun _=>by omega,fun h=>?_,fun h w0 h0=>⟨h0,?_⟩,fun h w0 h0=>?_⟩
  · have:=hem.1 h.1; omega
  · have:=hem.1 h.1.1; omega
  · congr 1
    symm
    unfold lbB
    rcases h with ((h|h)|h)|h
    · have:¬ 0<s.size:=fun hp=>(hem.2 hp) h
      simp [this]
    · have:¬ s.size<=20:=by omega
      simp [this]
    · have:¬ 97<=sAt s 0:=by omega
      simp [this]
    · have:¬ sAt s 0<=122:=by omega
      simp [this]
  · obtain ⟨⟨⟨h1,h2⟩,h3⟩,h4⟩:=h
    have hp:=hem.1 h1
    refine zKi (e:=zaQ) (by kernel_rfl) (by kernel_rfl) (by kernel_rfl) fun p c w1 e1 hb=>⟨e1,p,s.size,c,rfl,?_⟩
    have hlen:=zz2 s
    refine ⟨fun k w'=>w'=w1/\0<=k/\k<=s.size/\∀ i:Nat,(i:Int)<k->okC ((zfp s).getD i 0)=true,fun k _=>(s.size-k).toNat,⟨rfl,by omega,by omega,fun i hi=>by omega⟩,?_⟩
    rintro k w1 ⟨rfl,hk0,hk1,hall⟩
    refine ⟨fun hlt=>?_,fun hge w8 h8=>⟨(h0.trans e1).trans h8,?_⟩⟩
    · have g:=zes.idx hb hk0 (by omega)
      refine ⟨fun hq=>zak g (zah.2 hq),hk0,hlt,_,g,fun hbad w9 h9=>⟨(h0.trans e1).trans h9,?_⟩,fun hok=>⟨i64 (by omega),⟨rfl,by omega,by omega,fun i hi=>?_⟩,by simp only []; omega⟩⟩
      · congr 1
        symm
        have hno:okC ((zfp s).getD k.toNat 0)=false:=by
          unfold okC
          generalize (zfp s).getD k.toNat 0=b at hbad
          simp; omega
        have:(zfp s).all okC=false:=by
          rw [List.all_eq_false]
          exact ⟨_,zaq (zfp s) 0 (i:=k.toNat) (by omega),by rw [hno]; simp⟩
        unfold lbB
        simp [this]
      · by_cases hik:(i:Int)<k
        · exact hall i hik
        · obtain rfl:i=k.toNat:=by omega
          unfold okC
          generalize (zfp s).getD k.toNat 0=b at hok
          simp; omega
    · congr 1
      symm
      have:(zfp s).all okC=true:=by
        rw [List.all_eq_true]
        intro x hx
        obtain ⟨i,hi,rfl⟩:=List.getElem_of_mem hx
        have:=hall i (by omega)
        simpa [List.getD_eq_getElem?_getD,hi] using this
      unfold lbB
      simp only [this,Bool.and_true,Bool.and_eq_true,decide_eq_true_eq]
      exact ⟨⟨⟨hp,by omega⟩,h3⟩,h4⟩
theorem zIX:∀ (t:AT) (p:Option Addr) (c:Nat) (w:World),IsT w t p c->WfA t->FnP Tryz.prog zha #[av t p c] w fun v w'=>Ext w w'/\v=.int .i64 (zIU t):=by
  intro t
  induction t using AT.ind with
  |h k key val n xs ih =>
    intro p c w hT hW
    have hlen:=hW.len
    refine zuU k key val n p xs.length c w _ fun b0 _=>?_
    refine ⟨fun m k2 w'=>w'=w/\0<=k2/\k2<=xs.length/\zEF (xs.drop k2.toNat) m=zEF xs 1,fun _ k2 _=>(xs.length-k2).toNat,⟨rfl,by omega,by omega,rfl⟩,?_⟩
    rintro m k2 w ⟨rfl,hk0,hk1,hc⟩
    refine ⟨fun hlt=>?_,fun hge w5 h5=>⟨h5,?_⟩⟩
    · obtain ⟨x,p',c',hx,hmem,hIx,hp,hp5,g0,g1,g2,g3,g4⟩:=hT.at hk0 (by exact hlt)
      have hx:xs[k2.toNat]?=some x:=hx
      refine ⟨hp,hk0,hlt,hp5,_,g0,_,g1,_,g2,_,g3,_,_,_,g4,fun b12 _ w13 h13=>?_⟩
      refine (ih x hmem p' c' w13 (hIx.ext h13 _ _ _) (hW.sub x hmem)).mono fun v w14 ⟨e14,hv⟩=>⟨e14,_,hv,i64 (by have hlen:xs.length<=9223372036854775807:=hlen; omega),⟨rfl,by omega,by omega,?_⟩,by simp only []; omega⟩
      rw [<- hc,show (k2+1).toNat=k2.toNat+1 by omega]
      obtain ⟨hi,he⟩:=List.getElem?_eq_some_iff.1 hx
      rw [List.drop_eq_getElem_cons hi,he]
      show _=zEF (x::xs.drop (k2.toNat+1)) m
      rw [zEF]
    · have hd:xs.drop k2.toNat=[]:=List.drop_of_length_le (by omega)
      rw [hd] at hc
      unfold zIU
      rw [<- hc,zEF]
theorem unit_k (s:ByteArray) (w:World):FnP Tryz.prog zl5 #[.string s] w fun v w'=>Ext w w'/\v=.bool (unB s) :=
  zxe s w _ fun w0 h0=>⟨h0,rfl⟩
theorem zIT:∀ (t:AT) (p:Option Addr) (c:Nat) (w:World),IsT w t p c->WfA t->FnP Tryz.prog zg9 #[av t p c] w fun v w'=>Ext w w'/\v=.int .i64 (zeS t):=by
  intro t
  induction t using AT.ind with
  |h k key val n xs ih =>
    intro p c w hT hW
    have hlen:xs.length<=9223372036854775807:=hW.len
    have hWn:=hW
    unfold WfA at hWn
    obtain ⟨hk,hkey,hval,hn,_,_⟩:=hWn
    have E:zeS (.mk k key val n xs)=if zkR k key val n xs.length≠0 then zkR k key val n xs.length else zAd xs:=by rw [zeS]
    rw [E]
    have bad:∀ e:Int,zkR k key val n xs.length=e->e≠0->∀ w1,Ext w w1->Ext w w1/\Value.int .i64 e=.int .i64 (if zkR k key val n xs.length≠0 then zkR k key val n xs.length else zAd xs):=fun e he hne w1 h1=>⟨h1,by rw [he,if_pos hne]⟩
    refine zuT k key val n p xs.length c w _ fun b0 _=>⟨fun hb w1 h1=>bad 1 (by unfold zkR; rw [if_pos hb]) (by omega) w1 h1,fun hg=>?_⟩
    have hr:¬ (k<1\/6<k):=by omega
    refine ⟨fun i b w'=>w'=w/\i=zfL k/\(b=true↔k<4),?_,?_⟩
    · have h5:k=5->(w=w/\((0:Int)+1)+1=zfL k/\(false=true↔k<4)):=fun h=>⟨rfl,by unfold zfL; rw [if_pos (.inl h)]; rfl,by simp; omega⟩
      have h6:k=6->(w=w/\((0:Int)+1)+1=zfL k/\(false=true↔k<4)):=fun h=>⟨rfl,by unfold zfL; rw [if_pos (.inr h)]; rfl,by simp; omega⟩
      have h4:k=4->(w=w/\(0:Int)+1=zfL k/\(false=true↔k<4)):=fun h=>⟨rfl,by unfold zfL; rw [if_neg (by omega),if_pos h]; rfl,by simp; omega⟩
      have h0:k≠4->k≠5->k≠6->(w=w/\(0:Int)=zfL k/\(true=true↔k<4)):=fun h4 h5 h6=>⟨rfl,by unfold zfL; rw [if_neg (by omega),if_neg h4]; rfl,by simp; omega⟩
      exact ⟨fun h=>⟨fun _=>⟨i64 (by omega),i64 (by omega),h5 h⟩,fun hn=>absurd h hn⟩,fun hn5=>⟨fun h=>⟨i64 (by omega),i64 (by omega),h6 h⟩,fun hn6=>⟨fun h=>⟨i64 (by omega),h4 h⟩,fun hn4=>h0 hn4 hn5 hn6⟩⟩⟩
    rintro i b w ⟨rfl,rfl,hb⟩
    refine ⟨fun hbd w5 h5=>bad 1 ?_ (by omega) w5 h5,fun hok=>?_⟩
    · unfold zkR
      rw [if_neg hr]
      by_cases hl:xs.length=zfL k
      · rw [if_neg (by simpa using hl),if_pos]
        rcases hbd with ((h|⟨h,h'⟩)|⟨h,h'⟩)|⟨h,h'⟩
        · omega
        · left
          refine ⟨?_,h'⟩
          cases b
          · simp at hb; exact hb
          · cases h
        · right; left; exact ⟨h,h'⟩
        · right; right; exact ⟨h,h'⟩
      · rw [if_pos hl]
    · obtain ⟨⟨⟨hl,hke⟩,hva⟩,hnn⟩:=hok
      have hl':xs.length=zfL k:=by omega
      have h2:¬ xs.length≠zfL k:=by simpa using hl'
      have h3:¬ ((4<=k/\key≠emS)\/(k≠2/\val≠emS)\/(k≠3/\n≠0)):=by
        rintro (⟨h,h'⟩|⟨h,h'⟩|⟨h,h'⟩)
        · rcases hke with hk'|hk'
          · have:=hb.1 hk'; omega
          · exact h' hk'
        · rcases hva with hv'|hv'
          · exact h hv'
          · exact h' hv'
        · rcases hnn with hn'|hn'
          · exact h hn'
          · exact h' hn'
      have e3:((k=3/\unB key=false)\/((k=1\/k=2)/\lbB key=false)\/(k=2/\lbB val=false))->zkR k key val n xs.length=3:=fun h=>by
        unfold zkR; rw [if_neg hr,if_neg h2,if_neg h3,if_pos h]
      have e4:¬ ((k=3/\unB key=false)\/((k=1\/k=2)/\lbB key=false)\/(k=2/\lbB val=false))->(n<0\/1099511627776<n)->zkR k key val n xs.length=4:=fun h h'=>by
        unfold zkR; rw [if_neg hr,if_neg h2,if_neg h3,if_neg h,if_pos h']
      have e0:¬ ((k=3/\unB key=false)\/((k=1\/k=2)/\lbB key=false)\/(k=2/\lbB val=false))->¬ (n<0\/1099511627776<n)->zkR k key val n xs.length=0:=fun h h'=>by
        unfold zkR; rw [if_neg hr,if_neg h2,if_neg h3,if_neg h,if_neg h']
      refine ⟨fun w'=>w'=w/\zkR k key val n xs.length=0,?_,?_⟩
      · refine ⟨fun hk3 w7 h7=>?_,fun hk3=>⟨fun hk12 w7 h7=>?_,fun hk12=>⟨fun h2=>by omega,fun hk2=>⟨fun hb4 w7 h7=>bad 4 (e4 ?_ hb4) (by omega) w7 h7,fun hg4=>⟨rfl,e0 ?_ (by omega)⟩⟩⟩⟩⟩
        · refine (unit_k key w7).mono fun v w8 ⟨e8,hv⟩=>⟨e8,_,hv,fun hf=>⟨fun _ w10 h10=>bad 3 (e3 (.inl ⟨hk3,hf⟩)) (by omega) w10 h10,fun ht=>by rw [hf] at ht; cases ht⟩,fun ht=>⟨fun hk12=>by omega,fun _=>⟨fun h2=>by omega,fun hk2=>⟨fun hb4 w10 h10=>bad 4 (e4 ?_ hb4) (by omega) w10 h10,fun hg4=>⟨rfl,e0 ?_ (by omega)⟩⟩⟩⟩⟩
          all_goals
            rintro (⟨_,h⟩|⟨h,_⟩|⟨h,_⟩)
            · rw [ht] at h; cases h
            · omega
            · omega
        · refine (zgh key hkey w7).mono fun v w8 ⟨e8,hv⟩=>⟨e8,_,hv,fun hf=>⟨fun _ w10 h10=>bad 3 (e3 (.inr (.inl ⟨hk12,hf⟩))) (by omega) w10 h10,fun ht=>by rw [hf] at ht; cases ht⟩,fun ht=>⟨fun hk2 w10 h10=>?_,fun hk2=>⟨fun hb4 w10 h10=>bad 4 (e4 ?_ hb4) (by omega) w10 h10,fun hg4=>⟨rfl,e0 ?_ (by omega)⟩⟩⟩⟩
          · refine (zgh val hval w10).mono fun v w11 ⟨e11,hv⟩=>⟨e11,_,hv,fun hf=>fun w13 h13=>bad 3 (e3 (.inr (.inr ⟨hk2,hf⟩))) (by omega) w13 h13,fun ht2=>⟨fun hb4 w13 h13=>bad 4 (e4 ?_ hb4) (by omega) w13 h13,fun hg4=>⟨rfl,e0 ?_ (by omega)⟩⟩⟩
            all_goals
              rintro (⟨h,_⟩|⟨_,h⟩|⟨_,h⟩)
              · omega
              · rw [ht] at h; cases h
              · rw [ht2] at h; cases h
          all_goals
            rintro (⟨h,_⟩|⟨_,h⟩|⟨h,_⟩)
            · omega
            · rw [ht] at h; cases h
            · omega
        all_goals
          rintro (⟨h,_⟩|⟨h,_⟩|⟨h,_⟩)
          · omega
          · omega
          · omega
      · rintro w ⟨rfl,herr⟩
        rw [herr,if_neg (by omega)]
        refine ⟨fun k2 w'=>w'=w/\0<=k2/\k2<=xs.length/\∀ (j:Nat) (y:AT),(j:Int)<k2->xs[j]?=some y->zeS y=0,fun k2 _=>(xs.length-k2).toNat,⟨rfl,by omega,by omega,fun j y hj=>by omega⟩,?_⟩
        rintro k2 w ⟨rfl,hk0,hk1,hall⟩
        refine ⟨fun hlt=>?_,fun hge w10 h10=>⟨h10,?_⟩⟩
        · obtain ⟨x,p',c',hx,hmem,hIx,hp,hp5,g0,g1,g2,g3,g4⟩:=hT.at hk0 (by exact hlt)
          have hx:xs[k2.toNat]?=some x:=hx
          refine ⟨hp,hk0,hlt,hp5,_,g0,_,g1,_,g2,_,g3,_,_,_,g4,fun b17 _ w18 h18=>?_⟩
          refine (ih x hmem p' c' w18 (hIx.ext h18 _ _ _) (hW.sub x hmem)).mono fun v w19 ⟨e19,hv⟩=>⟨e19,_,hv,fun hne w21 h21=>⟨h21,?_⟩,fun he=>⟨i64 (by omega),⟨rfl,by omega,by omega,fun j y hj hy=>?_⟩,by simp only []; omega⟩⟩
          · rw [zrs hx (fun j y hj hy=>hall j y (by omega) hy) hne]
          · by_cases hjk:(j:Int)<k2
            · exact hall j y hjk hy
            · obtain rfl:j=k2.toNat:=by omega
              rw [hx] at hy; obtain rfl:=Option.some.inj hy
              exact he
        · rw [zoY.2 fun x hx=>?_]
          obtain ⟨j,hj,rfl⟩:=List.getElem_of_mem hx
          exact hall j _ (by omega) (List.getElem?_eq_getElem hj)
theorem zoB (t:AT) (p:Option Addr) (c:Nat) (w:World) (hT:IsT w t p c) (hW:WfA t):FnP Tryz.prog zd7 #[av t p c] w fun v w'=>Ext w w'/\v=.int .i64 (zl3 t):=by
  refine zuQ t.k t.key t.val t.n p t.xs.length c w _ fun b0 _ w1 h1=>?_
  refine (zIX t p c w1 (hT.ext h1 _ _ _) hW).mono fun v w2 ⟨e2,hv⟩=>⟨e2,_,hv,fun hgt w4 h4=>⟨h4,?_⟩,fun hle w4 h4=>?_⟩
  · unfold zl3; rw [if_pos hgt]
  · refine (zIT t p c w4 (hT.ext h4 _ _ _) hW).mono fun v w5 ⟨e5,hv⟩=>⟨e5,_,hv,fun w7 h7=>⟨h7,?_⟩⟩
    unfold zl3; rw [if_neg (by omega)]
theorem zKy {w0:World} {f:Value} {at_:AT->Bool} (hf:∀ (y:AT) (p:Option Addr) (c:Nat) (w:World),Ext w0 w->IsT w y p c->zeS y=0->y.k<4->zic Tryz.prog f [av y p c] w fun v w'=>Ext w w'/\v=.bool (at_ y)) :
    ∀ (t:AT) (p:Option Addr) (c:Nat) (w:World),Ext w0 w->IsT w t p c->zeS t=0->FnP Tryz.prog zcf #[av t p c,f] w fun v w'=>Ext w w'/\v=.bool (zwb at_ t):=by
  intro t
  induction t using AT.ind with
  |h k key val n xs ih =>
    intro p c w hx0 hT he
    obtain ⟨h1,hsub⟩:=zgO he
    have hlen:xs.length=zfL k:=zsk h1
    have hin:¬ (k<1\/6<k):=fun hb=>by
      have h1:zkR k key val n xs.length=0:=h1
      unfold zkR at h1; rw [if_pos hb] at h1; omega
    have V:zwb at_ (.mk k key val n xs)=if k=4 then !(xs.map (zwb at_)).getD 0 false else if k=5 then (xs.map (zwb at_)).getD 0 false&&(xs.map (zwb at_)).getD 1 false else if k=6 then (xs.map (zwb at_)).getD 0 false||(xs.map (zwb at_)).getD 1 false else at_ (.mk k key val n xs):=by
      rw [zwb,zHb]
    rw [V]
    have sub:∀ (i:Int),0<=i->i<xs.length->∃ x p' c',(xs.map (zwb at_)).getD i.toNat false=zwb at_ x/\p≠none/\pIdx p i 5≠none/\Go.Sx.cell w (pIdx p i 5) 0=some (.int .i64 x.k)/\Go.Sx.cell w (pIdx p i 5) 1=some (.string x.key)/\Go.Sx.cell w (pIdx p i 5) 2=some (.string x.val) /\
        Go.Sx.cell w (pIdx p i 5) 3=some (.int .i64 x.n)/\Go.Sx.cell w (pIdx p i 5) 4=some (.slice p' x.xs.length c')/\∀ w',Ext w w'->FnP Tryz.prog zcf #[av x p' c',f] w' fun v w''=>Ext w' w''/\v=.bool (zwb at_ x):=fun i h0 hi=>by
      obtain ⟨x,p',c',hx,hmem,hIx,hp,hp5,g0,g1,g2,g3,g4⟩:=hT.at h0 (by exact hi)
      have hx:xs[i.toNat]?=some x:=hx
      refine ⟨x,p',c',?_,hp,hp5,g0,g1,g2,g3,g4,fun w' hw'=>ih x hmem p' c' w' (hx0.trans hw') (hIx.ext hw' _ _ _) (hsub x hmem)⟩
      rw [List.getD_eq_getElem?_getD,List.getElem?_map,hx]; rfl
    refine zuV k key val n p xs.length c f w _ fun b0 _=>⟨fun h4=>?_,fun h4=>⟨fun h5=>?_,fun h5=>⟨fun h6=>?_,fun h6 w1 hw1=>?_⟩⟩⟩
    · have hl:xs.length=1:=by rw [hlen]; unfold zfL; rw [if_neg (by omega),if_pos h4]
      obtain ⟨x,p',c',hv,hp,hp5,g0,g1,g2,g3,g4,hF⟩:=sub 0 (by omega) (by omega)
      refine ⟨hp,by omega,by omega,hp5,_,g0,_,g1,_,g2,_,g3,_,_,_,g4,fun w8 h8=>(hF w8 h8).mono fun v w9 ⟨e9,hv'⟩=>⟨e9,_,hv',fun w11 h11=>⟨h11,?_⟩⟩⟩
      rw [if_pos h4,show (0:Nat)=(0:Int).toNat from rfl,hv]
    · have hl:xs.length=2:=by rw [hlen]; unfold zfL; rw [if_pos (.inl h5)]
      obtain ⟨x,p',c',hv,hp,hp5,g0,g1,g2,g3,g4,hF⟩:=sub 0 (by omega) (by omega)
      obtain ⟨y,q',d',hv2,hq,hq5,f0,f1,f2,f3,f4,hG⟩:=sub 1 (by omega) (by omega)
      rw [if_neg h4,if_pos h5,show (0:Nat)=(0:Int).toNat from rfl,hv,show (1:Nat)=(1:Int).toNat from rfl,hv2]
      refine ⟨hp,by omega,by omega,hp5,_,g0,_,g1,_,g2,_,g3,_,_,_,g4,fun w8 h8=>(hF w8 h8).mono fun v w9 ⟨e9,hv'⟩=>⟨e9,_,hv',fun _=>hp,fun _=>by omega,fun _=>by omega,fun ht=>⟨hq5,_,f0,_,f1,_,f2,_,f3,_,_,_,f4,fun w18 h18=>(hG w18 h18).mono fun v w19 ⟨e19,hv''⟩=>⟨e19,_,hv'',fun w21 h21=>⟨h21,by rw [ht]; rfl⟩⟩⟩,fun hf' w11 h11=>⟨h11,by rw [hf']; rfl⟩⟩⟩
    · have hl:xs.length=2:=by rw [hlen]; unfold zfL; rw [if_pos (.inr h6)]
      obtain ⟨x,p',c',hv,hp,hp5,g0,g1,g2,g3,g4,hF⟩:=sub 0 (by omega) (by omega)
      obtain ⟨y,q',d',hv2,hq,hq5,f0,f1,f2,f3,f4,hG⟩:=sub 1 (by omega) (by omega)
      rw [if_neg h4,if_neg h5,if_pos h6,show (0:Nat)=(0:Int).toNat from rfl,hv,show (1:Nat)=(1:Int).toNat from rfl,hv2]
      refine ⟨hp,by omega,by omega,hp5,_,g0,_,g1,_,g2,_,g3,_,_,_,g4,fun w8 h8=>(hF w8 h8).mono fun v w9 ⟨e9,hv'⟩=>⟨e9,_,hv',fun _=>hp,fun _=>by omega,fun _=>by omega,fun ht w11 h11=>⟨h11,by rw [ht]; rfl⟩,fun hf'=>⟨hq5,_,f0,_,f1,_,f2,_,f3,_,_,_,f4,fun w18 h18=>(hG w18 h18).mono fun v w19 ⟨e19,hv''⟩=>⟨e19,_,hv'',fun w21 h21=>⟨h21,by rw [hf']; rfl⟩⟩⟩⟩⟩
    · rw [if_neg h4,if_neg h5,if_neg h6]
      obtain ⟨g,cap,hv,hF⟩:=hf (.mk k key val n xs) p c w1 (hx0.trans hw1) (hT.ext hw1 _ _ _) he (by show k<4; omega)
      exact ⟨g,cap,hv,hF.mono fun v w2 ⟨e2,hv'⟩=>⟨e2,_,hv',fun w4 hw4=>⟨hw4,rfl⟩⟩⟩
structure Lb where
  key:ByteArray
  val:ByteArray
deriving Inhabited
abbrev zsh (x:Lb):List Value:=[.string x.key,.string x.val]
abbrev Lbs (w:World) (p:Option Addr) (L:List Lb):Prop:=zgE 2 zsh w p L
structure Ht where
  name:ByteArray
  labels:List Lb
  has:Nd
  used:Nd
deriving Inhabited
abbrev zEJ (h:Ht) (p:Option Addr) (c:Nat):List Value:=[.string h.name,.slice p h.labels.length c,.int .i64 h.has.c,.int .i64 h.has.m,.int .i64 h.has.g,.int .i64 h.used.c,.int .i64 h.used.m,.int .i64 h.used.g]
abbrev hv (h:Ht) (p:Option Addr) (c:Nat):Value:=.agg #[.string h.name,.slice p h.labels.length c,.int .i64 h.has.c,.int .i64 h.has.m,.int .i64 h.has.g,.int .i64 h.used.c,.int .i64 h.used.m,.int .i64 h.used.g]
def amt (x:Nd) (key:ByteArray):Int:=if key=zA3 then x.c else if key=memS then x.m else x.g
def atH (h:Ht) (y:AT):Bool:=if y.k=3 then decide (y.n<=amt h.has y.key) else h.labels.any fun l=>decide (l.key=y.key)&&(decide (y.k=1)||decide (l.val=y.val))
theorem zE8 (x:Nd) (key:ByteArray) (w:World):FnP Tryz.prog ziy #[nv x,.string key] w fun v w'=>Ext w w'/\v=.int .i64 (amt x key) :=
  zsO x.c x.m x.g key w _ fun b0 _=>⟨fun h w1 h1=>⟨h1,by unfold amt; rw [if_pos (show key=zA3 from h)]⟩,fun h=>⟨fun h2 w1 h1=>⟨h1,by unfold amt; rw [if_neg (show ¬ key=zA3 from h),if_pos (show key=memS from h2)]⟩,fun h2 w1 h1=>⟨h1,by unfold amt; rw [if_neg (show ¬ key=zA3 from h),if_neg (show ¬ key=memS from h2)]⟩⟩⟩
theorem zIJ (p:Option Addr) (c:Nat) (L:List Lb) (h63:L.length<=9223372036854775807) (f:Value) (Pr:Lb->Bool) (w:World) (hL:Lbs w p L) (hf:∀ e∈L,∀ w',Ext w w'->zic Tryz.prog f [.agg #[.string e.key,.string e.val]] w' fun v w''=>Ext w' w''/\v=.bool (Pr e)) :
    FnP Tryz.prog zaF #[.slice p L.length c,f] w fun v w'=>Ext w w'/\v=.bool (L.any Pr):=by
  refine zcm p L.length c f w _ fun w0 h0=>?_
  refine FnP.mono (K:=fun v w'=>Ext w0 w'/\∃ t:Int,v=.int .i64 t/\(0<=t↔L.any Pr=true)) ?_ fun v w1 ⟨e1,t,hv,ht⟩=>⟨e1,t,hv,fun w3 h3=>⟨h3,by congr 1; rw [Bool.eq_iff_iff,decide_eq_true_iff]; exact ht⟩⟩
  refine zcK p L.length c f w0 _ ⟨fun k w'=>w'=w0/\0<=k/\k<=L.length/\∀ j:Nat,(j:Int)<k->Pr (L.getD j default)=false,fun k _=>(L.length-k).toNat,⟨rfl,by omega,by omega,fun j hj=>by omega⟩,?_⟩
  rintro k w2 ⟨rfl,hk0,hk1,hno⟩
  refine ⟨fun hlt=>?_,fun hge w3 h3=>⟨h3,-1,rfl,?_⟩⟩
  · have g0:=(hL.ext h0).idx default hk0 hlt (j:=0) rfl
    have g1:=(hL.ext h0).idx default hk0 hlt (j:=1) rfl
    have hm:=zaq L default (i:=k.toNat) (by omega)
    refine ⟨fun hq=>zak g0 (zah.2 hq),hk0,hlt,zak g0,_,g0,_,g1,fun w5 h5=>?_⟩
    obtain ⟨fn,cap,hv,hF⟩:=hf _ hm w5 (h0.trans h5)
    refine ⟨fn,cap,hv,hF.mono fun v w6 ⟨e6,hv⟩=>⟨e6,_,hv,fun hy w8 h8=>⟨h8,k,rfl,?_⟩,fun hn=>⟨i64 (by omega),⟨rfl,by omega,by omega,fun j hj=>?_⟩,by simp only []; omega⟩⟩⟩
    · exact ⟨fun _=>List.any_eq_true.2 ⟨_,hm,hy⟩,fun _=>hk0⟩
    · by_cases hjk:(j:Int)<k
      · exact hno j hjk
      · obtain rfl:j=k.toNat:=by omega
        exact hn
  · refine ⟨fun h=>by omega,fun h=>?_⟩
    obtain ⟨e,he,hpe⟩:=List.any_eq_true.1 h
    obtain ⟨i,hi,rfl⟩:=List.getElem_of_mem he
    have:=hno i (by omega)
    simp only [List.getD_eq_getElem?_getD,List.getElem?_eq_getElem hi,Option.getD_some] at this
    rw [this] at hpe; cases hpe
theorem zIi (t:AT) (p:Option Addr) (c:Nat) (h:Ht) (q:Option Addr) (d:Nat) (hl:h.labels.length<=9223372036854775807) (w:World) (hT:IsT w t p c) (hW:WfA t) (hL:Lbs w q h.labels) :
    FnP Tryz.prog zj5 #[av t p c,hv h q d] w fun v w'=>Ext w w'/\v=.tuple #[.bool (if zl3 t=0 then zwb (atH h) t else false),.int .i64 (zl3 t)]:=by
  refine zuR t.k t.key t.val t.n p t.xs.length c h.name q h.labels.length d h.has.c h.has.m h.has.g h.used.c h.used.m h.used.g w _ fun b0 hb0 w1 x1=>?_
  have h1:=zaa x1
  refine zbC (t:=zez) (by intro v hv; simp at hv; rcases hv with rfl|rfl|rfl|rfl|rfl|rfl|rfl|rfl<;>rfl) fun w2 o2 e2=>fun w3 h3=>?_
  have c2:=(o2 0 (Nat.zero_le _)).cells
  have x2:=h1.trans e2
  refine (zoB t p c w3 (hT.ext (x2.trans h3) _ _ _) hW).mono fun v w4 ⟨e4,hv⟩=>⟨e4,_,hv,fun hne w6 h6=>⟨x2.trans h6,by rw [if_neg hne]⟩,fun he w6 h6=>?_⟩
  have heA:zeS t=0:=by
    unfold zl3 at he
    split at he
    · omega
    · exact he
  refine (zKy (w0:=w2) (at_:=atH h) (fun y py cy wy hwy hTy hey hky=>⟨zg8,#[.pointer (some ⟨w1.heap.size,0,none⟩)],rfl,?_⟩) t p c w6 h6 (hT.ext (x2.trans h6) _ _ _) heA).mono fun v w7 ⟨e7,hv⟩=>⟨e7,_,hv,fun w9 h9=>⟨x2.trans h9,by rw [if_pos he,he]⟩⟩
  have cy':=c2.ext hwy
  have hLy:=hL.ext (x2.trans hwy)
  refine (zqz y.k y.key y.val y.n py y.xs.length cy (some ⟨w1.heap.size,0,none⟩) wy _ fun w0' h0'=>?_:FnP Tryz.prog zg8 #[av y py cy,.pointer (some ⟨w1.heap.size,0,none⟩)] wy _)
  refine zbC (t:=zdJ) (by intro v hv; simp at hv; rcases hv with rfl|rfl|rfl|rfl|rfl<;>rfl) fun wa oa ea=>?_
  have ca:=(oa 0 (Nat.zero_le _)).cells
  have hxa:=h0'.trans ea
  have cy2:=cy'.ext hxa
  have A:∀ (i:Nat) u,(zoc y py cy)[i]?=some u->Go.Sx.cell wa (pAdd (some ⟨w0'.heap.size,0,none⟩) i) 0=some u:=fun i u hu=>by rw [zam]; exact ca i u hu
  refine ⟨by simp,_,A 0 _ rfl,fun h3'=>⟨by simp,by simp [pAdd],_,by rw [zam]; exact cy2 2 _ rfl,_,by rw [zam]; exact cy2 3 _ rfl,_,by rw [zam]; exact cy2 4 _ rfl,by simp,_,A 1 _ rfl,by simp,_,A 3 _ rfl,fun w8 h8=>?_⟩,fun h3'=>⟨by simp,_,_,_,by rw [zam]; exact cy2 1 _ rfl,fun w6' h6'=>?_⟩⟩
  · refine (zE8 h.has y.key w8).mono fun v w9 ⟨e9,hv⟩=>⟨e9,_,hv,fun w11 h11=>⟨hxa.trans h11,?_⟩⟩
    unfold atH; rw [if_pos h3']
  · refine (zIJ q d h.labels hl _ (fun l=>decide (l.key=y.key)&&(decide (y.k=1)||decide (l.val=y.val))) w6' (hLy.ext (hxa.trans h6')) fun e he w' hw'=>⟨zff,#[.pointer (some ⟨w0'.heap.size,0,none⟩)],rfl,?_⟩).mono fun v w7 ⟨e7,hv⟩=>⟨e7,_,hv,fun w9 h9=>⟨hxa.trans h9,?_⟩⟩
    · have B:∀ (i:Nat) u,(zoc y py cy)[i]?=some u->Go.Sx.cell w' (pAdd (some ⟨w0'.heap.size,0,none⟩) i) 0=some u:=fun i u hu=>zaI (h6'.trans hw') (A i u hu)
      show FnP Tryz.prog zff #[.agg #[.string e.key,.string e.val],.pointer (some ⟨w0'.heap.size,0,none⟩)] w' _
      refine znP e.key e.val (some ⟨w0'.heap.size,0,none⟩) w' _ fun b0 _=>⟨by simp,_,B 1 _ rfl,fun _=>by simp,fun hk=>⟨_,B 0 _ rfl,fun _=>by simp,fun h1' w3' h3''=>⟨h3'',?_⟩,fun h1'=>⟨_,B 2 _ rfl,fun w4' h4'=>⟨h4',?_⟩⟩⟩,fun hk w2' h2'=>⟨h2',?_⟩⟩
      · simp [hk,h1']
      · simp [hk,h1']
      · simp [hk]
    · unfold atH; rw [if_neg h3']
abbrev opA (k:Int) (l:List AT):AT:=.mk k emS emS 0 l
theorem zHX {k:Int} (hk:0<=k/\k<=100) {l:List AT} (hl:l.length<=100) (h:∀ x∈l,WfA x):WfA (opA k l):=by
  unfold WfA
  exact ⟨i64 (by omega),by decide,by decide,i64 (by omega),by omega,WfL.of h⟩
theorem zw0 {w:World} {q:Option Addr}:∀ {l:List (AT×Option Addr×Nat)} {i:Nat},(∀ (j:Nat) u,(l.flatMap fun x=>zoc x.1 x.2.1 x.2.2)[j]?=some u->Go.Sx.cell w q (i*5+j)=some u)->(∀ x∈l,IsT w x.1 x.2.1 x.2.2)->IsL w (l.map (·.1)) q i
  |[],i,_,_ => by unfold IsL; trivial
  |x::r,i,h,hT => by
    unfold IsL
    refine ⟨⟨x.2.1,x.2.2,fun j u hu=>h j u ?_,hT x (List.mem_cons_self ..)⟩,zw0 (fun j u hu=>?_) fun y hy=>hT y (List.mem_cons_of_mem _ hy)⟩
    · rw [List.flatMap_cons,List.getElem?_append_left]
      · exact hu
      · exact (List.getElem?_eq_some_iff.1 hu).1
    · have:=h (5+j) u (by
        rw [List.flatMap_cons,List.getElem?_append_right (by simp [zoc])]
        simpa [zoc] using hu)
      rw [show (i+1)*5+j=i*5+(5+j) by omega]
      exact this
theorem zwG {b:Nat} {w0 w w':World} (h:zag [b] [] w w') (he:Ext w0 w) (hb:w0.heap.size<=b):Ext w0 w':=zav h he (by intro d hd; simp at hd; omega)
abbrev zjh:AT:=.mk 0 emS emS 0 []
theorem zoK {k:Int} {key val:ByteArray} {n:Int} {xs:List AT} (h:zeS (.mk k key val n xs)=0) :
    (k=4/\∃ x,xs=[x]/\zeS x=0)\/((k=5\/k=6)/\∃ x y,xs=[x,y]/\zeS x=0/\zeS y=0)\/(1<=k/\k<4/\xs=[]):=by
  obtain ⟨h1,hsub⟩:=zgO h
  have h1:zkR k key val n xs.length=0:=h1
  have hsub:∀ x∈xs,zeS x=0:=hsub
  have hlen:=zsk h1
  have hin:¬ (k<1\/6<k):=fun hb=>by
    unfold zkR at h1; rw [if_pos hb] at h1; omega
  unfold zfL at hlen
  by_cases h4:k=4
  · rw [if_neg (by omega),if_pos h4] at hlen
    match xs,hlen with
    |[x],_ => exact .inl ⟨h4,x,rfl,hsub x (by simp)⟩
  · by_cases h5:k=5\/k=6
    · rw [if_pos h5] at hlen
      match xs,hlen with
      |[x,y],_ => exact .inr (.inl ⟨h5,x,y,rfl,hsub x (by simp),hsub y (by simp)⟩)
    · rw [if_neg h5,if_neg h4] at hlen
      exact .inr (.inr ⟨by omega,by omega,List.length_eq_zero_iff.1 hlen⟩)
structure GP (w:World):Prop where
  pow : Lib.TabIs Tryz.prog w "internal/strconv.uint64pow10" .u64 Lib.pow10Tab
theorem GP.ext {w w':World} (g:GP w) (e:Ext w w'):GP w':=⟨zD8 g.pow e⟩
theorem zBb (n:Int) (h:-9223372036854775808<=n/\n<=9223372036854775807) (w:World) (g:GP w):FnP Tryz.prog zby #[.int .i64 n,.int .i64 10] w fun v w'=>Ext w w'/\v=.string (ofL (Lib.itoa n)) :=
  ⟨fun args w=>Tryz.call90 args w,(Tryz.strconv_FormatInt_10 n h.1 h.2 w g.pow).mono fun e w' ⟨he,k,os,hw⟩=>⟨_,he,by rw [hw]; exact zmg,rfl⟩⟩
mutual
def nod:AT->Nat
  |.mk _ _ _ _ xs => 1+zmz xs
def zmz:List AT->Nat
  |[] => 0
  |x::r => nod x+zmz r
end
mutual
def txt:AT->List UInt8
  |.mk k key val n xs => if k=1 then 63::key.data.toList else if k=2 then key.data.toList++61::val.data.toList else if k=3 then key.data.toList++62::61::Lib.itoa n
    else if k=4 then 33::(zKX xs).headD [] else 40::((zKX xs).getD 0 []++(if k=5 then 38 else 124)::((zKX xs).getD 1 []++[41]))
def zKX:List AT->List (List UInt8)
  |[] => []
  |x::r => txt x::zKX r
end
theorem txt1 (key val:ByteArray) (n:Int) (xs:List AT):txt (.mk 1 key val n xs)=63::key.data.toList:=by rw [txt,if_pos rfl]
theorem txt2 (key val:ByteArray) (n:Int) (xs:List AT):txt (.mk 2 key val n xs)=key.data.toList++61::val.data.toList:=by rw [txt,if_neg (by omega),if_pos rfl]
theorem txt3 (key val:ByteArray) (n:Int) (xs:List AT):txt (.mk 3 key val n xs)=key.data.toList++62::61::Lib.itoa n:=by rw [txt,if_neg (by omega),if_neg (by omega),if_pos rfl]
theorem txt4 (key val:ByteArray) (n:Int) (x:AT):txt (.mk 4 key val n [x])=33::txt x:=by rw [txt,if_neg (by omega),if_neg (by omega),if_neg (by omega),if_pos rfl]; simp [zKX]
theorem zKt {k:Int} (hk:k=5\/k=6) (key val:ByteArray) (n:Int) (x y:AT):txt (.mk k key val n [x,y])=40::(txt x++(if k=5 then 38 else 124)::(txt y++[41])):=by
  rw [txt,if_neg (by omega),if_neg (by omega),if_neg (by omega),if_neg (by omega)]; simp [zKX]
theorem zcX {s:ByteArray} (h:lbB s=true):0<s.size/\s.size<=20:=by
  unfold lbB at h
  simp only [Bool.and_eq_true,decide_eq_true_eq] at h
  exact h.1.1.1
theorem ztl {s:ByteArray} (h:unB s=true):s.size=3:=by
  unfold unB at h
  simp only [Bool.or_eq_true,decide_eq_true_eq] at h
  rcases h with (h|h)|h<;>(rw [h]; rfl)
theorem zwq {k:Int} {key val:ByteArray} {n:Int} {xs:List AT} (h:zeS (.mk k key val n xs)=0) (hk:k<4) :
    (k=1/\lbB key=true/\val=emS/\n=0)\/(k=2/\lbB key=true/\lbB val=true/\n=0)\/(k=3/\unB key=true/\val=emS/\0<=n/\n<=1099511627776):=by
  obtain ⟨h1,_⟩:=zgO h
  have h1:zkR k key val n xs.length=0:=h1
  unfold zkR at h1
  split at h1
  · omega
  rename_i a1
  split at h1
  · omega
  split at h1
  · omega
  rename_i a3
  split at h1
  · omega
  rename_i a4
  split at h1
  · omega
  rename_i a5
  have hk3:k=1\/k=2\/k=3:=by omega
  rcases hk3 with rfl|rfl|rfl
  · refine .inl ⟨rfl,?_,?_,?_⟩
    · cases hb:lbB key with
      |true => rfl
      |false => exact absurd (.inr (.inl ⟨.inl rfl,hb⟩)) a4
    · exact Classical.byContradiction fun hv=>a3 (.inr (.inl ⟨by omega,hv⟩))
    · exact Classical.byContradiction fun hv=>a3 (.inr (.inr ⟨by omega,hv⟩))
  · refine .inr (.inl ⟨rfl,?_,?_,?_⟩)
    · cases hb:lbB key with
      |true => rfl
      |false => exact absurd (.inr (.inl ⟨.inr rfl,hb⟩)) a4
    · cases hb:lbB val with
      |true => rfl
      |false => exact absurd (.inr (.inr ⟨rfl,hb⟩)) a4
    · exact Classical.byContradiction fun hv=>a3 (.inr (.inr ⟨by omega,hv⟩))
  · refine .inr (.inr ⟨rfl,?_,?_,by omega,by omega⟩)
    · cases hb:unB key with
      |true => rfl
      |false => exact absurd (.inl ⟨rfl,hb⟩) a4
    · exact Classical.byContradiction fun hv=>a3 (.inr (.inl ⟨by omega,hv⟩))
theorem zoM (s:ByteArray):s.data.toList.length=s.size:=by simp
theorem ztk:∀ t:AT,zeS t=0->(txt t).length<=50*nod t:=by
  intro t
  induction t using AT.ind with
  |h k key val n xs ih =>
    intro h
    rcases zoK h with ⟨rfl,x,rfl,hx⟩|⟨hk,x,y,rfl,hx,hy⟩|⟨hk1,hk4,rfl⟩
    · have:=ih x (by simp) hx
      rw [txt4]
      simp only [nod,zmz,List.length_cons]; omega
    · have h1:=ih x (by simp) hx
      have h2:=ih y (by simp) hy
      rw [zKt hk]
      simp only [nod,zmz,List.length_cons,List.length_append,List.length_nil]; omega
    · rcases zwq h hk4 with ⟨rfl,a,b,c⟩|⟨rfl,a,b,c⟩|⟨rfl,a,b,c,d⟩
      · have:=zcX a
        rw [txt1]; simp only [nod,zmz,List.length_cons,zoM]; omega
      · have h1:=zcX a
        have h2:=zcX b
        rw [txt2]; simp only [nod,zmz,List.length_cons,List.length_append,zoM]; omega
      · have h1:=ztl a
        have h2:=Lib.itoa_length_le n (by omega) (by omega)
        rw [txt3]; simp only [nod,zmz,List.length_cons,List.length_append,zoM]; omega
theorem text_k:∀ (t:AT) (p:Option Addr) (c:Nat) (w:World),IsT w t p c->zeS t=0->nod t<=1099511627776->GP w->FnP Tryz.prog zds #[av t p c] w fun v w'=>Ext w w'/\v=.string (ofL (txt t)):=by
  intro t
  induction t using AT.ind with
  |h k key val n xs ih =>
    intro p c w hT h hN g
    refine zxd k key val n p xs.length c w _ fun b0 _=>?_
    rcases zoK h with ⟨rfl,x,rfl,hx⟩|⟨hk,x,y,rfl,hx,hy⟩|⟨hk1,hk4,rfl⟩
    · obtain ⟨x',p',c',e1,_,hT',np,np5,g0,g1,g2,g3,g4⟩:=hT.at (k:=0) (by omega) (by show (0:Int)<((1:Nat):Int); omega)
      have:x'=x:=by have h':[x][0]?=some x':=e1; simpa using h'.symm
      subst this
      have hn:nod x'<=1099511627776:=by simp only [nod,zmz] at hN; omega
      have hl:=ztk x' hx
      refine ⟨fun h=>by omega,fun _=>⟨fun h=>by omega,fun _=>⟨fun h=>by omega,fun _=>⟨fun _=>⟨np,by omega,by simp,np5,_,g0,_,g1,_,g2,_,g3,_,_,_,g4,fun w8 h8=>(ih x' (by simp) p' c' w8 (hT'.ext h8) hx hn (g.ext h8)).mono fun v w9 ⟨e9,hv⟩=>⟨e9,_,hv,?_,fun w11 h11=>⟨h11,?_⟩⟩⟩,fun h=>absurd rfl h⟩⟩⟩⟩
      · unfold zdi; rw [zas]; show 1+_<=_; omega
      · rw [txt4,<- zb8 ((⟨#[33]⟩:ByteArray)++_),zgN]; rfl
    · obtain ⟨x',p',c',e1,_,hT',np,np5,g0,g1,g2,g3,g4⟩:=hT.at (k:=0) (by omega) (by show (0:Int)<((2:Nat):Int); omega)
      have:x'=x:=by have h':[x,y][0]?=some x':=e1; simpa using h'.symm
      subst this
      obtain ⟨y',p2,c2,e2,_,hT2,np2,np52,q0,q1,q2,q3,q4⟩:=hT.at (k:=1) (by omega) (by show (1:Int)<((2:Nat):Int); omega)
      have:y'=y:=by have h':[x',y][1]?=some y':=e2; simpa using h'.symm
      subst this
      have hn1:nod x'<=1099511627776:=by simp only [nod,zmz] at hN; omega
      have hn2:nod y'<=1099511627776:=by simp only [nod,zmz] at hN; omega
      have hl1:=ztk x' hx
      have hl2:=ztk y' hy
      have hcat:∀ m:UInt8,(((((⟨#[40]⟩:ByteArray)++ofL (txt x'))++(⟨#[m]⟩:ByteArray))++ofL (txt y'))++(⟨#[41]⟩:ByteArray))=ofL (40::(txt x'++m::(txt y'++[41]))):=fun m=>by
        rw [<- zb8 (((((⟨#[40]⟩:ByteArray)++ofL (txt x'))++(⟨#[m]⟩:ByteArray))++ofL (txt y'))++(⟨#[41]⟩:ByteArray)),zgN,zgN,zgN,zgN]
        simp [ofL]
      have s1:∀ m:UInt8,(⟨#[m]⟩:ByteArray).size=1:=fun _=>rfl
      refine ⟨fun h=>by omega,fun _=>⟨fun h=>by omega,fun _=>⟨fun h=>by omega,fun _=>⟨fun h=>by omega,fun _=>⟨fun h5=>?_,fun h5=>?_⟩⟩⟩⟩⟩
      all_goals refine ⟨np,by omega,by simp,np5,_,g0,_,g1,_,g2,_,g3,_,_,_,g4,np,by omega,by simp,np52,_,q0,_,q1,_,q2,_,q3,_,_,_,q4,fun w15 h15=>(ih x' (by simp) p' c' w15 (hT'.ext h15) hx hn1 (g.ext h15)).mono fun v w16 ⟨e16,hv⟩=>⟨e16,_,hv,?_,?_,fun w18 h18=>(ih y' (by simp) p2 c2 w18 (hT2.ext h18) hy hn2 (g.ext h18)).mono fun v w19 ⟨e19,hv⟩=>⟨e19,_,hv,?_,?_,fun w21 h21=>⟨h21,?_⟩⟩⟩⟩
      all_goals first
        |(rw [hcat,zKt hk]; simp [h5])
        |(unfold zdi; simp only [ByteArray.size_append,s1,zas]; omega)
    · rcases zwq h hk4 with ⟨rfl,a,b,c'⟩|⟨rfl,a,b,c'⟩|⟨rfl,a,b,c',d⟩
      · have hs:=zcX a
        refine ⟨fun _=>⟨?_,fun w1 h1=>⟨h1,?_⟩⟩,fun h=>absurd rfl h⟩
        · unfold zdi; show 1+_<=_; omega
        · rw [txt1,<- zb8 ((⟨#[63]⟩:ByteArray)++_),zgN]; rfl
      · have hs:=zcX a
        have hs2:=zcX b
        refine ⟨fun h=>by omega,fun _=>⟨fun _=>⟨?_,?_,fun w1 h1=>⟨h1,?_⟩⟩,fun h=>absurd rfl h⟩⟩
        · unfold zdi; show _+1<=_; omega
        · unfold zdi; rw [ByteArray.size_append]; show _+1+_<=_; omega
        · rw [txt2,<- zb8 ((key++(⟨#[61]⟩:ByteArray))++val),zgN,zgN]; simp
      · have hs:=ztl a
        have hil:=Lib.itoa_length_le n (by omega) (by omega)
        refine ⟨fun h=>by omega,fun _=>⟨fun h=>by omega,fun _=>⟨fun _=>⟨?_,fun w1 h1=>(zBb n (by omega) w1 (g.ext h1)).mono fun v w2 ⟨e2,hv⟩=>⟨e2,_,hv,?_,fun w4 h4=>⟨h4,?_⟩⟩⟩,fun h=>absurd rfl h⟩⟩⟩
        · unfold zdi; show _+2<=_; omega
        · unfold zdi; rw [ByteArray.size_append,zas]; show _+2+_<=_; omega
        · rw [txt3,<- zb8 ((key++(⟨#[62,61]⟩:ByteArray))++_),zgN,zgN]; simp [ofL]
end Go.Proofs.YtcceeahmcecbnaaGreatDoor
namespace Go.Proofs
open Go.Shelf Go.RowKit Go.Lib
variable {P:Program} {ρ:Ren}
theorem ztR (w:World) (n:Nat):Below w.heap.size w (w.drewN n):=⟨rfl,rfl,rfl,Nat.le_refl _,fun _ _=>rfl⟩
theorem zum {l:List UInt8} {x:UInt8} (h:∀ y∈l,y≠x):Lib.indexByte l x=-1:=by
  have hcon:=Lib.contains_iff_indexByte l x
  have:l.contains x=false:=by
    cases hc:l.contains x with
    |false => rfl
    |true => exact absurd rfl (h x (by simpa using hc))
  rw [this] at hcon
  have h2:=of_decide_eq_false hcon.symm
  have h3:=Lib.indexByte_ge l x
  omega
set_option maxHeartbeats 4000000 in
set_option maxRecDepth 1000000 in
theorem Any.IndexRune_err (L:Lays.n152 P ρ) (s:ByteArray) (w:World) (hascii:∀ (j:Nat) b,s.data.toList[j]?=some b->b.toNat<128) :
    Calls P (ρ.f 152) #[.string s,.int .i32 65533] w fun e w'=>e=.returned (.int .i64 (-1))/\Below w.heap.size w w':=by
  have HA:Aside (∀ (j:Nat) b,s.data.toList[j]?=some b->b.toNat<128):=hascii
  clear hascii
  have t3:=L.t3; have a3:=L.a3; have z3:=L.z3; have v3:=L.v3
  have t4:=L.t4; have a4:=L.a4; have z4:=L.z4; have v4:=L.v4
  have t5:=L.t5; have a5:=L.a5; have z5:=L.z5; have v5:=L.v5
  have t9:=L.t9; have a9:=L.a9; have z9:=L.z9; have v9:=L.v9
  have t21:=L.t21; have a21:=L.a21; have z21:=L.z21; have v21:=L.v21
  have e137:∀ args w,(callFunc (ρ.f 137) args).run P w=.ok (.enter (ρ.f 137) args) w:=enters_of L.f137 (by kernel_rfl) rfl
  go_enter L.f152,Body.n152_ntmps ρ
  go_wp2
  go_loopg [5,6] s.size (fun g _ _ wx=>∃ i:Nat,i+g=s.size/\wx=w.iter s i)
  case atStart=>exact ⟨0,by omega,rfl⟩
  case round =>
    obtain ⟨i,hig,rfl⟩:=hrel
    cases gk with
    |zero =>
      obtain rfl:i=s.size:=by omega
      have hnx:=run_next_end (P:=P) w s s.size
      go_wp2
      go_ret
      exact ⟨rfl,(Below.refl w.heap.size w).alloc (Nat.le_refl _) _⟩
    |succ g =>
      have hi:i<s.size:=by omega
      obtain ⟨x,hx⟩:∃ x:UInt8,s[i]'hi=x:=⟨_,rfl⟩
      have hxl:s.data.toList[i]?=some x:=by rw [<- hx]; exact Lib.data_getElem? s i hi
      have hx128:x.toNat<128:=HA.out i x hxl
      have hnx:=fun ty=>run_next_ascii (P:=P) w s i ty hi (by rw [hx]; exact hx128)
      rw [hx] at hnx
      have hne:((x.toNat:Int)==65533)=false:=beq_eq_false_iff_ne.2 (by omega)
      clear hxl hx
      go_wp2
      go_roundg g
      case measure=>omega
      case rel=>exact ⟨i+1,by omega,rfl⟩
set_option maxHeartbeats 8000000 in
set_option maxRecDepth 1000000 in
theorem Any.IndexRune_high (L:Lays.n152 P ρ) (s:ByteArray) (r:Int) (w:World) (hr:128<=r) (hne:r≠65533) (hascii:∀ (j:Nat) b,s.data.toList[j]?=some b->b.toNat<128) :
    Calls P (ρ.f 152) #[.string s,.int .i32 r] w fun e w'=>e=.returned (.int .i64 (-1))/\Below w.heap.size w w':=by
  have HA:Aside (∀ (j:Nat) b,s.data.toList[j]?=some b->b.toNat<128):=hascii
  clear hascii
  have t3:=L.t3; have a3:=L.a3; have z3:=L.z3; have v3:=L.v3
  have t4:=L.t4; have a4:=L.a4; have z4:=L.z4; have v4:=L.v4
  have t5:=L.t5; have a5:=L.a5; have z5:=L.z5; have v5:=L.v5
  have t9:=L.t9; have a9:=L.a9; have z9:=L.z9; have v9:=L.v9
  have t21:=L.t21; have a21:=L.a21; have z21:=L.z21; have v21:=L.v21
  have e137:∀ args w,(callFunc (ρ.f 137) args).run P w=.ok (.enter (ρ.f 137) args) w:=enters_of L.f137 (by kernel_rfl) rfl
  have e119:∀ args w,(callFunc (ρ.f 119) args).run P w=.ok (.enter (ρ.f 119) args) w:=enters_of L.f119 (by kernel_rfl) rfl
  have h1:decide (r<128)=false:=decide_eq_false (by omega)
  have h2:(r==65533)=false:=beq_eq_false_iff_ne.2 hne
  go_enter L.f152,Body.n152_ntmps ρ
  cases hv:Lib.validRune r with
  |false =>
    go_wp2_with (go_at_fn (ρ.f 119); refine (Any.utf8_ValidRune { L with } _ _).mono ?_; rintro e w' ⟨rfl,hw⟩; rw [hw,hv])
    go_ret
    exact ⟨rfl,Below.refl _ _⟩
  |true =>
    go_wp2_with (go_at_fn (ρ.f 119); refine (Any.utf8_ValidRune { L with } _ _).mono ?_; rintro e w' ⟨rfl,hw⟩; rw [hw,hv])
    obtain ⟨he2,he4,hlast⟩:=encode_facts r (by rw [validRune_eq]; exact hv) hr
    generalize hgE:Utf8.encode r=E at he2 he4 hlast
    have HL:Aside (∀ h:E.size-1<E.size,128<=(E[E.size-1]'h).toNat):=hlast
    clear hlast
    have hw1:wrap64 ((E.size:Int)-1)=(E.size:Int)-1:=by
      simp only [wrap64]; omega
    go_step3
    go_wp2
    go_loopg [9] 1 (fun g s9 wx=>s9=.int .i64 ((E.size:Int)-1)/\wx=w)
    case atStart=>exact ⟨rfl,rfl⟩
    case round =>
      obtain ⟨rfl,rfl⟩:=hrel
      by_cases hlt:E.size-1<s.size
      · have hd:decide ((E.size:Int)-1<(s.size:Int))=true:=decide_eq_true (by omega)
        have mixed:=L.mixed
        obtain ⟨x,hx⟩:∃ x:UInt8,s[E.size-1]'hlt=x:=⟨_,rfl⟩
        obtain ⟨y,hy⟩:∃ y:UInt8,E[E.size-1]'(by omega)=y:=⟨_,rfl⟩
        have hx128:x.toNat<128:=by rw [<- hx]; exact HA.out (E.size-1) _ (Lib.data_getElem? s (E.size-1) hlt)
        have hy128:128<=y.toNat:=by rw [<- hy]; exact HL.out _
        have hix:∀ w,(Instr.index (ρ.t 9) (.string s) (.int .i64 ((E.size:Int)-1))).run P w=.ok (.int .u8 x.toNat) w:=fun w=>by
          rw [run_index_string (h:=t9),dif_pos ⟨by omega,by omega⟩]
          simp only [show ((E.size:Int)-1).toNat=E.size-1 by omega,hx]
        have hiy:∀ w,(Instr.index (ρ.t 9) (.string E) (.int .i64 ((E.size:Int)-1))).run P w=.ok (.int .u8 y.toNat) w:=fun w=>by
          rw [run_index_string (h:=t9),dif_pos ⟨by omega,by omega⟩]
          simp only [show ((E.size:Int)-1).toNat=E.size-1 by omega,hy]
        have hne2:((x.toNat:Int)==(y.toNat:Int))=false:=beq_eq_false_iff_ne.2 (by omega)
        clear hx hy
        go_wp2
        go_step3
        go_wp2
        have hw2:IntKind.i64.wrap (E.size:Int)=(E.size:Int):=wrap_small _ (by omega) (by omega)
        have hsl:∀ w,(Instr.slice (ρ.t 9) (.string s) (some (.int .i64 (E.size:Int))) none none).run P w=.ok (.string (s.extract E.size s.size)) w:=fun w=>by
          rw [run_slice_string_l (ht:=t9) (h0:=by omega) (h1:=by omega)]; simp
        have hib:Lib.indexByte (s.extract E.size s.size).data.toList y=-1:=zum fun z hz=>by
          have hz':=mem_extract hz
          obtain ⟨j,hj⟩:=List.getElem?_of_mem hz'
          have:=HA.out j z hj
          intro e; subst e; omega
        have hIB:∀ (w:World) n,Calls P (ρ.f 137) #[.string (s.extract E.size s.size),.int .u8 y.toNat] (w.drewN n) fun e w'=>e=.returned (.int .i64 (-1))/\w'=w.drewN n:=fun w n=>(Any.strings_IndexByte { L with } _ _ _).mono fun e w' ⟨he,hw⟩=>⟨by rw [he,show ((y.toNat:Int)).toNat.toUInt8=y by simp,hib],hw⟩
        go_quiet_o (fail)
        go_wp2
        go_quiet_o (first|(go_at_fn (ρ.f 137); exact (hIB _ _).mono fun e w' ⟨h1,h2⟩=>⟨h1,_,h2⟩))
        go_wp2
        rw [Exit.noGoto_ret]
        simp only [Exit.inBlock,Exit.then]
        rw [Exit.noGoto_ret]
        go_ret
        exact ⟨rfl,ztR _ _⟩
      · have hd:decide ((E.size:Int)-1<(s.size:Int))=false:=decide_eq_false (by omega)
        go_wp2
        rw [Exit.noGoto_ret]
        go_ret
        exact ⟨rfl,Below.refl _ _⟩
theorem Any.IndexRune_any (L:Lays.n152 P ρ) (s:ByteArray) (r:Int) (w:World) (h0:0<=r) (hascii:∀ (j:Nat) b,s.data.toList[j]?=some b->b.toNat<128) :
    Calls P (ρ.f 152) #[.string s,.int .i32 r] w fun e w'=>∃ n:Int,e=.returned (.int .i64 n)/\Below w.heap.size w w':=by
  by_cases h1:r<128
  · exact (Any.strings_IndexRune_ascii L s r w h0 h1).mono fun e w' ⟨he,hw⟩=>⟨_,he,hw▸Below.refl _ _⟩
  by_cases h2:r=65533
  · subst h2
    exact (Any.IndexRune_err L s w hascii).mono fun e w' ⟨he,hw⟩=>⟨_,he,hw⟩
  · exact (Any.IndexRune_high L s r w (by omega) h2 hascii).mono fun e w' ⟨he,hw⟩=>⟨_,he,hw⟩
theorem zz8 (s:ByteArray) (pos:Nat) (h:pos<s.size):1<=(Utf8.decode s pos).2:=by
  by_cases ha:(s[pos]'h).toNat<128
  · rw [decode_ascii s pos h ha]; exact Nat.le_refl 1
  · exact (decode_high s pos h (by omega)).2
set_option maxHeartbeats 8000000 in
set_option maxRecDepth 1000000 in
theorem Any.IndexAny_short_any (L:Lays.n153 P ρ) (s chars:ByteArray) (w:World) (h2:2<=chars.size) (h8:s.size<=8) (hascii:∀ (j:Nat) b,chars.data.toList[j]?=some b->b.toNat<128) :
    Calls P (ρ.f 153) #[.string s,.string chars] w fun e w'=>∃ n:Int,e=.returned (.int .i64 n)/\n<s.size/\Below w.heap.size w w':=by
  have HA:Aside (∀ (j:Nat) b,chars.data.toList[j]?=some b->b.toNat<128):=hascii
  clear hascii
  have hemp:chars.toList.isEmpty=false:=by
    rw [Lib.toList_data]
    cases h:chars.data.toList with
    |nil => have:=Lib.size_eq chars; rw [h,List.length_nil] at this; omega
    |cons _ _ => rfl
  have hn1:((chars.size:Int)==1)=false:=beq_eq_false_iff_ne.2 (by omega)
  have h8z:decide ((8:Int)<(s.size:Int))=false:=decide_eq_false (by omega)
  have t3:=L.t3; have a3:=L.a3; have z3:=L.z3; have v3:=L.v3
  have t4:=L.t4; have a4:=L.a4; have z4:=L.z4; have v4:=L.v4
  have t5:=L.t5; have a5:=L.a5; have z5:=L.z5; have v5:=L.v5
  have t9:=L.t9; have a9:=L.a9; have z9:=L.z9; have v9:=L.v9
  have t21:=L.t21; have a21:=L.a21; have z21:=L.z21; have v21:=L.v21
  have e152:∀ args w,(callFunc (ρ.f 152) args).run P w=.ok (.enter (ρ.f 152) args) w:=enters_of L.f152 (by kernel_rfl) rfl
  have e226:∀ args w,(callFunc (ρ.f 226) args).run P w=.ok (.enter (ρ.f 226) args) w:=enters_of L.f226 (by kernel_rfl) rfl
  go_enter L.f153,Body.n153_ntmps ρ
  go_wp2_with (go_at_fn (ρ.f 226); refine (Any.strings_shouldUseASCIISet { L with } _ _).mono ?_; rintro e w' ⟨rfl,hw⟩; rw [hw,h8z])
  go_loopg [9,10] s.size (fun g _ _ wx=>∃ i:Nat,s.size-i<=g/\wx.heap[w.heap.size]?=some (.stringIter s i)/\Below w.heap.size w wx)
  case atStart=>exact ⟨0,Nat.sub_le _ _,World.iter_heap _ _ _,(Below.refl _ w).alloc (Nat.le_refl _) _⟩
  case round =>
    obtain ⟨i,hig,hk,hB⟩:=hrel
    have HB:Aside (Below w.heap.size w wr):=hB
    have HK:Aside (wr.heap[w.heap.size]?=some (.stringIter s i)):=hk
    clear hB
    cases gk with
    |zero =>
      have hnx:=fun ty=>run_next_end_at (P:=P) wr w.heap.size s i ty hk (by omega)
      clear hk
      go_wp2
      go_ret
      exact ⟨_,rfl,by omega,HB.out⟩
    |succ g =>
      by_cases hi:i<s.size
      · have hnx:=fun ty=>run_next_any_at (P:=P) wr w.heap.size s i ty hk hi
        have hd:=zz8 s i hi
        generalize hdd:Utf8.decode s i=d at hnx hd
        clear hdd hk
        go_wp2_with (go_at_fn (ρ.f 152); refine (Any.IndexRune_any { L with } _ _ _ (by omega) HA.out).mono ?_; rintro e w' ⟨n,rfl,hw⟩)
        · go_ret
          exact ⟨_,rfl,by omega,(below_iterAt HB.out (Nat.le_refl _) s _).trans (hw.mono (by rw [iterAt_size]; exact HB.out.size))⟩
        · go_roundg g
          case measure=>omega
          case rel =>
            refine ⟨i+d.2,by omega,?_,(below_iterAt HB.out (Nat.le_refl _) s _).trans (hw.mono (by rw [iterAt_size]; exact HB.out.size))⟩
            rw [hw.block _ (by rw [iterAt_size]; exact (Array.getElem?_eq_some_iff.1 HK.out).1)]
            exact iterAt_heap wr w.heap.size s i _ HK.out
      · have hnx:=fun ty=>run_next_end_at (P:=P) wr w.heap.size s i ty hk (by omega)
        clear hk
        go_wp2
        go_ret
        exact ⟨_,rfl,by omega,HB.out⟩
theorem zpc (chars:List UInt8):∀ l:List UInt8,Lib.indexAny l chars<l.length
  |[] => by show (-1:Int)<_; simp
  |b::l => by
    have ih:=zpc chars l
    unfold Lib.indexAny
    simp only [List.length_cons]
    split
    · omega
    · split
      · omega
      · omega
theorem Any.IndexAny_any (L:Lays.n153 P ρ) (h116:(P.info? (ρ.t 116)).map (fun i=>(i.zero,i.size))=some (some (.agg (Array.replicate 256 (.bool false))),256)) (s chars:ByteArray) (w:World) (h2:2<=chars.size) (hs:s.size<4294967281) (hcs:chars.size<4294967281) (hac:∀ (j:Nat) b,chars.data.toList[j]?=some b->b.toNat<128) :
    Calls P (ρ.f 153) #[.string s,.string chars] w fun e w'=>(∃ n:Int,e=.returned (.int .i64 n)/\n<s.size/\((∀ (j:Nat) b,s.data.toList[j]?=some b->b.toNat<128)->n=Lib.indexAny s.data.toList chars.data.toList))/\Below w.heap.size w w':=by
  have hlt:Lib.indexAny s.data.toList chars.data.toList<s.size:=by have:=zpc chars.data.toList s.data.toList; rw [<- Lib.size_eq] at this; exact this
  by_cases h8:s.size<=8
  · by_cases has:∀ (j:Nat) b,s.data.toList[j]?=some b->b.toNat<128
    · exact (Any.strings_IndexAny_laid L h116 s chars w hs hcs has hac).mono fun e w' ⟨he,hb⟩=>⟨⟨_,he,hlt,fun _=>rfl⟩,hb⟩
    · exact (Any.IndexAny_short_any L s chars w h2 h8 hac).mono fun e w' ⟨n,he,hn,hb⟩=>⟨⟨n,he,hn,fun h=>absurd h has⟩,hb⟩
  · refine (Any.strings_IndexAny_long L (zero_of_info h116).1 (zero_of_info h116).2 s chars w h2 (by omega) hs hcs hac).mono fun e w' ⟨he,hw⟩=>⟨⟨_,he,hlt,fun _=>rfl⟩,?_⟩
    rw [hw]
    exact ((Below.refl _ _).alloc (Nat.le_refl _) _).alloc (by simp) _
end Go.Proofs
namespace Go.Proofs.YtcceeahmcecbnaaGreatDoor
open Go.Sx Go.RowKit
def sgs:List UInt8:=[63,61,62,33,40,41,38,124]
def sep (l:List UInt8):Prop:=l=[]\/∃ x r,l=x::r/\x∈sgs
theorem ze8 {x:UInt8} {r:List UInt8} (h:x∈sgs):sep (x::r):=.inr ⟨x,r,rfl,h⟩
def asc (l:List UInt8):Prop:=∀ b∈l,b.toNat<128
theorem asc_at {l:List UInt8}:asc l↔∀ (j:Nat) b,l[j]?=some b->b.toNat<128 :=
  ⟨fun h j b hb=>h b (List.mem_of_getElem? hb),fun h b hb=>by obtain ⟨j,hj⟩:=List.getElem?_of_mem hb; exact h j b hj⟩
theorem zHp {a b:List UInt8} (ha:∀ x∈a,x∉sgs) (hb:sep b):(b=[]/\Lib.indexAny (a++b) sgs=-1)\/(b≠[]/\Lib.indexAny (a++b) sgs=a.length):=by
  have hno:∀ j,j<=a.length->Lib.NoAny (a++b) sgs j:=fun j hj i x hi hx=>by
    rw [List.getElem?_append_left (by omega)] at hx
    have:=ha x (List.mem_of_getElem? hx)
    simpa using this
  rcases hb with rfl|⟨x,r,rfl,hx⟩
  · exact .inl ⟨rfl,Lib.indexAny_none (by rw [List.append_nil] at hno ⊢; exact hno _ (Nat.le_refl _))⟩
  · exact .inr ⟨by simp,Lib.indexAny_hit (x:=x) (hno _ (Nat.le_refl _)) (by simp) (by simpa using hx)⟩
theorem zzQ (s:ByteArray) (hs:s.size<=2000) (w:World):FnP Tryz.prog zfW #[.string s,.string (⟨#[63,61,62,33,40,41,38,124]⟩:ByteArray)] w fun v w'=>Ext w w'/\∃ n:Int,v=.int .i64 n/\n<s.size/\(asc s.data.toList->n=Lib.indexAny s.data.toList sgs) :=
  ⟨fun args w=>Tryz.call275 args w,(Any.IndexAny_any Tryz.lays153 (by kernel_rfl) s _ w (by decide) (by omega) (by decide) (by
    intro j b hb
    have:b∈sgs:=List.mem_of_getElem? hb
    have key:∀ b∈sgs,b.toNat<128:=by decide
    exact key b this)).mono fun e w' ⟨⟨n,he,hn,hv⟩,hb⟩=>⟨_,he,hb,n,rfl,hn,fun h=>hv (asc_at.1 h)⟩⟩
abbrev RD (B:Nat) (w:World) (rb:Nat) (l:List UInt8) (left:Nat):Prop:=Own B w ztJ 2 (some ⟨rb,0,none⟩) 1 1 [.string (ofL l),.int .i64 left]
abbrev rp (rb:Nat):Value:=.pointer (some ⟨rb,0,none⟩)
theorem RD.lt {B:Nat} {w:World} {rb:Nat} {l:List UInt8} {left:Nat} (o:RD B w rb l left):rb<w.heap.size:=Own.size_lt o
theorem RD.cells {B:Nat} {w:World} {rb:Nat} {l:List UInt8} {left:Nat} (o:RD B w rb l left):cell w (pAdd (some ⟨rb,0,none⟩) 0) 0=some (.string (ofL l))/\cell w (pAdd (some ⟨rb,0,none⟩) 1) 0=some (.int .i64 left):=by
  have h0:cell w (some ⟨rb,0,none⟩) 0=some (.string (ofL l)):=Own.cells o 0 _ rfl
  have h1:cell w (some ⟨rb,0,none⟩) 1=some (.int .i64 left):=Own.cells o 1 _ rfl
  exact ⟨by rw [zam]; exact h0,by rw [zam]; exact h1⟩
theorem RD.fr {B:Nat} {w w':World} {rb:Nat} {l:List UInt8} {left:Nat} {S:Nat->Prop} (o:RD B w rb l left) (k:Fr S w w') (h:¬ S rb):RD B w' rb l left:=Own.fr o k fun a ha=>by obtain rfl:=Option.some.inj ha; exact h
theorem RD.put {B:Nat} {w:World} {rb:Nat} {l m:List UInt8} {left:Nat} (o:RD B w rb l left) {t:ByteArray} (ht:t=ofL m) {K:World->Prop} (hk:∀ w',RD B w' rb m left->Fr (·=rb) w w'->K w'):zan w (pAdd (some ⟨rb,0,none⟩) 0) [.string t] [] K :=
  zaY (off:=0) o rfl (by simp) (by simp) (by intro v hv; simp at hv; subst hv; rfl) (by simp) fun w' o' g=>hk w' (by subst ht; exact o') (zaV g fun a ha=>by obtain rfl:=Option.some.inj ha; rfl)
theorem RD.left {B:Nat} {w:World} {rb:Nat} {l:List UInt8} {left:Nat} {b0:Nat} (o:RD B w rb l left) (hb:b0≠rb) {x:Int} {m:Nat} (hx:x=m) {K:World->Prop} (hk:∀ w',RD B w' rb l m->Fr (·=rb) w w'->K w'):zan w (pAdd (some ⟨rb,0,none⟩) 1) [.int .i64 x] [b0] K :=
  zaY (off:=1) o rfl (by simp) (by simp) (by intro v hv; simp at hv; subst hv; rfl) (by intro b hb' y hy hh; simp at hb'; subst hb'; obtain rfl:=Option.some.inj hy; exact hb hh.symm) fun w' o' g=>hk w' (by subst hx; exact o') (zaV g fun a ha=>by obtain rfl:=Option.some.inj ha; rfl)
theorem zj3 {B:Nat} {w:World} {rb:Nat} {l:List UInt8} {left:Nat} (o:RD B w rb l left) (hl:l.length<=2000) (c:UInt8) (ci:Int) (hc:ci=c.toNat) :
    FnP Tryz.prog zaf #[rp rb,.int .u8 ci] w fun v w'=>Fr (·=rb) w w'/\((∃ r,l=c::r/\v=.bool true/\RD B w' rb r left)\/((∀ r,l≠c::r)/\v=.bool false/\RD B w' rb l left)):=by
  subst hc
  obtain ⟨g0,_⟩:=o.cells
  cases l with
  |nil =>
    refine zf7 _ _ w _ ⟨by simp,by simp,_,g0,fun _=>by simp,fun _=>by simp,fun _ w1 h1=>⟨zac h1,.inr ⟨fun r=>by simp,rfl,Own.ext o h1⟩⟩,fun h=>absurd rfl h⟩
  |cons x r =>
    have hx:sAt (ofL (x::r)) 0=(x.toNat:Int):=rfl
    refine zf7 _ _ w _ ⟨by simp,by simp,_,g0,fun _=>by simp,fun _=>by simp,fun h=>absurd h (by intro h; have:=congrArg (fun s:ByteArray=>s.data.toList) h; simp [ofL] at this),fun _=>⟨_,g0,Int.le_refl _,by rw [zas]; simp,fun hne w2 h2=>⟨zac h2,.inr ⟨fun r' he=>?_,rfl,Own.ext o h2⟩⟩,fun he=>⟨by simp,by simp,_,g0,by omega,by rw [zas]; simp; omega,Int.le_refl _,by simp,by simp,?_⟩⟩⟩
    · rw [hx] at hne
      simp at he
      rw [he.1] at hne
      exact hne rfl
    · rw [hx] at he
      have hxc:x=c:=UInt8.toNat_inj.1 (by omega)
      subst hxc
      refine o.put (m:=r) ?_ fun w3 o3 f3 w4 h4=>⟨f3.tr (zac h4),.inl ⟨r,rfl,rfl,Own.ext o3 h4⟩⟩
      rw [<- zb8 (ByteArray.extract _ _ _)]
      congr 1
      rw [zas]
      simp [ofL]
theorem zzO {B:Nat} {w:World} {rb:Nat} {l:List UInt8} {left:Nat} (o:RD B w rb l left) (hl:l.length<=2000) :
    FnP Tryz.prog zbu #[rp rb] w fun v w'=>Fr (·=rb) w w'/\∃ a b,v=.string (ofL a)/\l=a++b/\RD B w' rb b left/\(∀ a0 b0,l=a0++b0->asc l->(∀ x∈a0,x∉sgs)->sep b0->a=a0/\b=b0):=by
  obtain ⟨g0,_⟩:=o.cells
  refine zlu _ w _ ⟨by simp,by simp,_,g0,fun w1 h1=>(zzQ (ofL l) (by rw [zas]; omega) w1).mono fun v w2 ⟨e2,n,hv,hn,hval⟩=>⟨e2,n,hv,fun hneg=>⟨by simp,by simp,_,g0,by simp,by simp,_,g0,Int.le_refl _,by omega,Int.le_refl _,by simp,by simp,_,g0,by omega,Int.le_refl _,Int.le_refl _,by simp,by simp,?_⟩,fun hge=>⟨by simp,by simp,_,g0,Int.le_refl _,hge,by omega,by simp,by simp,_,g0,hge,by omega,Int.le_refl _,by simp,by simp,?_⟩⟩⟩
  · refine o.put (m:=[]) ?_ fun w3 o3 f3 w4 h4=>⟨f3.tr (zac h4),l,[],?_,by simp,Own.ext o3 h4,fun a0 b0 he hasc ha hb=>?_⟩
    · rw [<- zb8 (ByteArray.extract _ _ _)]
      congr 1
      simp [ofL]
    · rw [<- zb8 (ByteArray.extract _ _ _)]
      congr 2
      simp [ofL]
    · have hv':=hval hasc
      rw [zck,he] at hv'
      rcases zHp ha hb with ⟨hb0,_⟩|⟨_,hq⟩
      · subst hb0; exact ⟨by rw [he,List.append_nil],rfl⟩
      · omega
  · have hnl:n.toNat<=l.length:=by rw [zas] at hn; omega
    refine o.put (m:=l.drop n.toNat) ?_ fun w3 o3 f3 w4 h4=>⟨f3.tr (zac h4),l.take n.toNat,l.drop n.toNat,?_,by simp,Own.ext o3 h4,fun a0 b0 he hasc ha hb=>?_⟩
    · rw [<- zb8 (ByteArray.extract _ _ _)]
      congr 1
      rw [zas]
      simp only [ByteArray.data_extract,Array.toList_extract,List.extract_eq_take_drop,ofL]
      exact List.take_of_length_le (by simp)
    · rw [<- zb8 (ByteArray.extract _ _ _)]
      congr 2
      simp [ofL]
    · have hv':=hval hasc
      rw [zck,he] at hv'
      rcases zHp ha hb with ⟨_,hq⟩|⟨_,hq⟩
      · omega
      · have:n.toNat=a0.length:=by omega
        rw [this,he]
        simp
theorem zgW {l:List UInt8} {n:Int} (h:Lib.parseIntB 64 l=.ok n):InR .i64 n:=by
  have e:(2:Nat)^(64-1)=9223372036854775808:=by decide
  unfold Lib.parseIntB at h
  split at h
  · cases h
  · simp only at h
    split at h
    · cases h
    · cases h
    · rename_i u _
      split at h
      · cases h
      · rename_i h1
        split at h
        · cases h
        · rename_i h3
          injection h with h
          rw [e] at h1 h3
          split at h
          · rename_i h2; exact i64 (by simp [h2] at h1 h3; omega)
          · rename_i h2; exact i64 (by simp [h2] at h1 h3; omega)
theorem zpd {s:ByteArray} (h:lbB s=true):∀ x∈s.data.toList,x∉sgs:=fun x hx hs=>by
  have key:∀ x∈sgs,okC (x.toNat:Int)=false:=by decide
  unfold lbB at h
  simp only [Bool.and_eq_true] at h
  have:=List.all_eq_true.1 h.2 (x.toNat:Int) (List.mem_map.2 ⟨x,hx,rfl⟩)
  rw [key x hs] at this
  cases this
theorem zvE {s:ByteArray} (h:unB s=true):∀ x∈s.data.toList,x∉sgs:=by
  unfold unB at h
  simp only [Bool.or_eq_true,decide_eq_true_eq] at h
  rcases h with (h|h)|h<;>(subst h; decide)
theorem zF7 {n:Int} (h:0<=n):∀ x∈Lib.itoa n,x∉sgs:=fun x hx hs=>by
  have key:∀ x∈sgs,x.toNat<48\/57<x.toNat:=by decide
  rcases key x hs with hk|hk
  · exact ziT h hk hx
  · exact zyX h hk hx
theorem zms {k y r:List UInt8} {c:UInt8} (hne:k≠[]) (hk:∀ x∈k,x∉sgs) (hc:c∈sgs):k++y≠c::r:=by
  cases k with
  |nil => exact absurd rfl hne
  |cons a k =>
    intro h
    simp at h
    exact hk a (by simp) (h.1▸hc)
theorem zJN {s:ByteArray} (h:lbB s=true):s.data.toList≠[]:=fun h0=>by
  have:=(zcX h).1
  rw [<- zoM,h0] at this
  simp at this
theorem zKu {s:ByteArray} (h:unB s=true):s.data.toList≠[]:=fun h0=>by
  have:=ztl h
  rw [<- zoM,h0] at this
  simp at this
theorem zCg {k:Int} {key val:ByteArray} {n:Int} {l:Nat} (h:zkR k key val n l=0) (hk:4<=k):key=emS/\val=emS/\n=0:=by
  unfold zkR at h
  split at h
  · omega
  split at h
  · omega
  split at h
  · omega
  rename_i a
  refine ⟨Classical.byContradiction fun h1=>a (.inl ⟨hk,h1⟩),Classical.byContradiction fun h1=>a (.inr (.inl ⟨by omega,h1⟩)),Classical.byContradiction fun h1=>a (.inr (.inr ⟨by omega,h1⟩))⟩
theorem nod1 (k:Int) (key val:ByteArray) (n:Int):nod (.mk k key val n [])=1:=by simp [nod,zmz]
theorem zm7 {t:AT} (h:zeS t=0) :
    (∃ key,t=.mk 1 key emS 0 []/\lbB key=true/\txt t=63::key.data.toList) \/
    (∃ key val,t=.mk 2 key val 0 []/\lbB key=true/\lbB val=true/\txt t=key.data.toList++61::val.data.toList) \/
    (∃ key n,t=.mk 3 key emS n []/\unB key=true/\0<=n/\n<=1099511627776/\txt t=key.data.toList++62::61::Lib.itoa n) \/
    (∃ x,t=.mk 4 emS emS 0 [x]/\zeS x=0/\txt t=33::txt x/\nod t=1+nod x) \/
    (∃ k x y,(k=5\/k=6)/\t=.mk k emS emS 0 [x,y]/\zeS x=0/\zeS y=0/\txt t=40::(txt x++(if k=5 then 38 else 124)::(txt y++[41]))/\nod t=1+nod x+nod y):=by
  cases t with
  |mk k key val n xs =>
  have h1:zkR k key val n xs.length=0:=(zgO h).1
  rcases zoK h with ⟨rfl,x,rfl,hx⟩|⟨hk,x,y,rfl,hx,hy⟩|⟨hk1,hk4,rfl⟩
  · obtain ⟨rfl,rfl,rfl⟩:=zCg h1 (by omega)
    exact .inr (.inr (.inr (.inl ⟨x,rfl,hx,txt4 _ _ _ _,by simp [nod,zmz]⟩)))
  · obtain ⟨rfl,rfl,rfl⟩:=zCg h1 (by omega)
    exact .inr (.inr (.inr (.inr ⟨k,x,y,hk,rfl,hx,hy,zKt hk _ _ _ _ _,by simp [nod,zmz]; omega⟩)))
  · rcases zwq h hk4 with ⟨rfl,a,rfl,rfl⟩|⟨rfl,a,b,rfl⟩|⟨rfl,a,rfl,c,d⟩
    · exact .inl ⟨key,rfl,a,txt1 _ _ _ _⟩
    · exact .inr (.inl ⟨key,val,rfl,a,b,txt2 _ _ _ _⟩)
    · exact .inr (.inr (.inl ⟨key,n,rfl,a,c,d,txt3 _ _ _ _⟩))
theorem zFS {rb b0:Nat} {w w' w'':World} (h:Fr (·=rb) w w') (hb:w.heap.size<=b0) (x:zag [b0] [] w' w''):Fr (·=rb) w w'' :=
  h.trans (S':=fun b=>b=b0) (zbK x (by intro d hd; simp at hd; exact .inl hd)) fun b hb'=>.inr (hb'▸hb)
theorem RD.b {B:Nat} {w w':World} {rb b0:Nat} {l:List UInt8} {left:Nat} (o:RD B w rb l left) (hb:b0≠rb) (x:zag [b0] [] w w'):RD B w' rb l left :=
  RD.fr (S:=fun b=>b=b0) o (zbK x (by intro d hd; simp at hd; exact .inl hd)) fun h=>hb h.symm
theorem ziV {rb:Nat} {w w':World} {ns:List Nat} (h:Fr (·=rb) w w') (hn:∀ b∈ns,b<w.heap.size/\b≠rb):zbL ns w w':=h.kept hn
structure Post (B rb:Nat) (l:List UInt8) (left:Nat) (w:World) (t:AT) (p:Option Addr) (c:Nat) (ok:Bool) (w':World) (l':List UInt8) (left':Nat) (used:Nat):Prop where
  fr:Fr (·=rb) w w'
  rd:RD B w' rb l' left'
  len:l'.length<=l.length
  le:left'<=left
  good:ok=true->WfA t/\nod t+left'=left+used/\∀ S:Nat->Prop,(∀ b,S b->b<w.heap.size)->∀ w'',Fr S w' w''->IsT w'' t p c
def zA8 (B rb:Nat) (l:List UInt8) (left:Nat) (w:World) (t:AT) (p:Option Addr) (c:Nat) (ok:Bool) (w':World):Prop :=
  ∃ l' left',Post B rb l left w t p c ok w' l' left' 0/\∀ t0 zat,zeS t0=0->nod t0<=left->l=txt t0++zat->sep zat->asc l->ok=true/\t=t0/\l'=zat
def zBx (B rb:Nat) (l:List UInt8) (left:Nat) (w:World) (t:AT) (p:Option Addr) (c:Nat) (ok:Bool) (w':World):Prop :=
  ∃ l' left',Post B rb l left w t p c ok w' l' left' 1/\∀ (k:Int) (x y:AT) zat,(k=5\/k=6)->zeS x=0->zeS y=0->nod x+nod y<=left->l=txt x++(if k=5 then 38 else 124)::(txt y++41::zat)->asc l->ok=true/\t=.mk k emS emS 0 [x,y]/\l'=zat
def AskC (n:Nat):Prop:=∀ (W0 w:World) (B rb left:Nat) (l:List UInt8),(left<=n/\left<=60)->GB W0->Ext W0 w->W0.heap.size<=rb->RD B w rb l left->l.length<=2000 ->
  FnP Tryz.prog za5 #[rp rb] w fun v w'=>∃ t p c ok,v=.tuple #[av t p c,.bool ok]/\zA8 B rb l left w t p c ok w'
def TwoC (n:Nat):Prop:=∀ (W0 w:World) (B rb left:Nat) (l:List UInt8),(left<=n/\left<=60)->GB W0->Ext W0 w->W0.heap.size<=rb->RD B w rb l left->l.length<=2000 ->
  FnP Tryz.prog zeK #[rp rb] w fun v w'=>∃ t p c ok,v=.tuple #[av t p c,.bool ok]/\zBx B rb l left w t p c ok w'
theorem zr5 {a b:List UInt8} (h:asc (a++b)):asc b:=fun x hx=>h x (List.mem_append_right _ hx)
theorem zhs {a:UInt8} {b:List UInt8} (h:asc (a::b)):asc b:=fun x hx=>h x (List.mem_cons_of_mem _ hx)
theorem zxQ {k:Int} (hk:0<=k/\k<=100) {a b:List UInt8} (ha:a.length<=2000) (hb:b.length<=2000) {n:Int} (hn:InR .i64 n):WfA (.mk k (ofL a) (ofL b) n []):=by
  unfold WfA
  exact ⟨i64 (by omega),by rw [zas]; omega,by rw [zas]; omega,hn,by simp,by unfold WfL; trivial⟩
theorem zog {w:World} {k:Int} {key val:ByteArray} {n:Int} {p:Option Addr} {c:Nat}:IsT w (.mk k key val n []) p c:=by
  unfold IsT
  exact ⟨Nat.zero_le _,by unfold IsL; trivial⟩
theorem two_k (n:Nat) (hA:AskC n):TwoC n:=by
  intro W0 w B rb left l hn g h0 hrb o hl
  refine zmD _ w _ fun b0 hb0 w1 x1=>?_
  have hlt:=o.lt
  have hb0r:b0≠rb:=by omega
  have h1:=zaa x1
  have o1:=Own.ext o h1
  refine (hA W0 w1 B rb left l hn g (h0.trans h1) hrb o1 hl).mono fun v w2 ⟨x,px,cx,ok1,hv,l2,left2,P2,C2⟩=>⟨ziV P2.fr (by intro b hb; simp at hb; subst hb; exact ⟨x1.lt _ (by simp),hb0r⟩),x.k,x.key,x.val,x.n,px,x.xs.length,cx,ok1,hv,fun b11 hb11=>⟨fun hno w12 x12=>?_,fun hok w12 x12=>?_⟩⟩
  · refine ⟨zjh,none,0,false,rfl,l2,left2,⟨zFS ((zac h1).tr P2.fr) hb0 x12,RD.b P2.rd hb0r x12,P2.len,P2.le,fun h=>by cases h⟩,fun k a b zat hk ha hb hnod he hasc=>?_⟩
    have:=C2 a _ ha (by omega) he (by split<;>exact ze8 (by decide)) hasc
    rw [hno] at this
    exact absurd this.1 (by simp)
  subst hok
  obtain ⟨hWx,hnx,hTx⟩:=P2.good rfl
  have f2:Fr (·=rb) w w2:=(zac h1).tr P2.fr
  have h12:=zaa x12
  have hb2:rb<w2.heap.size:=P2.rd.lt
  have hb0w:b0<w1.heap.size:=x1.lt b0 (by simp)
  have s12:w1.heap.size<=w2.heap.size:=P2.fr.size
  have hns:∀ b∈[b0,b11],b<w12.heap.size/\b≠rb:=by
    intro b hb
    refine ⟨x12.lt b hb,?_⟩
    simp at hb
    rcases hb with rfl|rfl
    · exact hb0r
    · omega
  have tail:∀ (k:Int) (w15:World),(k=5\/k=6)->∀ (l4:List UInt8),Fr (·=rb) w2 w15->RD B w15 rb l4 left2->b0<w15.heap.size->b11<w15.heap.size->l4.length<=l2.length ->
      (∀ (k':Int) (a b:AT) zat,(k'=5\/k'=6)->zeS a=0->zeS b=0->nod a+nod b<=left->l=txt a++(if k'=5 then 38 else 124)::(txt b++41::zat)->asc l->k'=k/\x=a/\l4=txt b++41::zat) ->
      FnP Tryz.prog za5 #[rp rb] w15 fun v w16=>zbL [b0,b11] w15 w16/\∃ y py cy ok2,v=.tuple #[av y py cy,.bool ok2]/\∀ b25:Nat,w16.heap.size<=b25 ->
        ∃ (J:Bool->Int->ByteArray->ByteArray->Int->Option Addr->Nat->Nat->World->Prop),
          (∀ w34,zag [] [b0,b11,b25] w16 w34->Run Tryz.prog (.buildSlice zci 2 [(0,av x px cx),(1,av y py cy)]) w34 fun v35 w35=>Ext w34 w35/\∃ t36:Option Addr,∃ tl37:Nat,∃ tc38:Nat,v35=(.slice t36 tl37 tc38) /\
            ((ok2=true->∀ w39,zag [] [b0,b11,b25] w35 w39->FnP Tryz.prog zaf #[rp rb,.int .u8 41] w39 fun v40 w40=>zbL [b0,b11,b25] w39 w40/\∃ t41:Bool,v40=.bool t41/\J t41 k (⟨#[]⟩:ByteArray) (⟨#[]⟩:ByteArray) 0 t36 tl37 tc38 w40)/\(ok2=false->J false k (⟨#[]⟩:ByteArray) (⟨#[]⟩:ByteArray) 0 t36 tl37 tc38 w35))) /\
          (ok2=true->∀ w34,zag [] [b0,b11,b25] w16 w34->FnP Tryz.prog zaf #[rp rb,.int .u8 41] w34 fun v35 w35=>zbL [b0,b11,b25] w34 w35/\∃ t36:Bool,v35=.bool t36 /\
            ∀ w37,zag [] [b0,b11,b25] w35 w37->Run Tryz.prog (.buildSlice zci 2 [(0,av x px cx),(1,av y py cy)]) w37 fun v38 w38=>Ext w37 w38/\∃ t39:Option Addr,∃ tl40:Nat,∃ tc41:Nat,v38=(.slice t39 tl40 tc41)/\J t36 k (⟨#[]⟩:ByteArray) (⟨#[]⟩:ByteArray) 0 t39 tl40 tc41 w38) /\
          (ok2=false->∀ w34,zag [] [b0,b11,b25] w16 w34->Run Tryz.prog (.buildSlice zci 2 [(0,av x px cx),(1,av y py cy)]) w34 fun v35 w35=>Ext w34 w35/\∃ t36:Option Addr,∃ tl37:Nat,∃ tc38:Nat,v35=(.slice t36 tl37 tc38)/\J false k (⟨#[]⟩:ByteArray) (⟨#[]⟩:ByteArray) 0 t36 tl37 tc38 w35) /\
          (∀ ok kk key val nn q ql qc w33,J ok kk key val nn q ql qc w33->∀ w34,zag [b0] [] w33 w34->∃ t p c ok',Value.tuple #[.agg #[.int .i64 kk,.string key,.string val,.int .i64 nn,.slice q ql qc],.bool ok]=.tuple #[av t p c,.bool ok']/\zBx B rb l left w t p c ok' w34):=by
    intro k w15 hk l4 f15 o15 hb015 hb1115 hl4 hC
    have hl2:=P2.len
    have ext15:Ext W0 w15:=(f2.tr f15).ext h0 (by intro b hb; omega)
    have hle2:=P2.le
    refine (hA W0 w15 B rb left2 l4 (by omega) g ext15 hrb o15 (by omega)).mono fun v w16 ⟨y,py,cy,ok2,hv,l5,left5,P5,C5⟩=>⟨ziV P5.fr (by intro b hb; simp at hb; rcases hb with rfl|rfl; (· exact ⟨hb015,hb0r⟩); exact ⟨hb1115,by omega⟩),y,py,cy,ok2,hv,fun b25 hb25=>?_⟩
    have f16:Fr (·=rb) w w16:=(f2.tr f15).tr P5.fr
    have hrb16:rb<w16.heap.size:=P5.rd.lt
    have sz2:w2.heap.size<=w15.heap.size:=f15.size
    have sz5:w15.heap.size<=w16.heap.size:=P5.fr.size
    have szw:w.heap.size<=w2.heap.size:=f2.size
    have hnb:∀ (w':World),(∀ b∈[b0,b11,b25],b<w'.heap.size)->∀ b∈[b0,b11,b25],b<w'.heap.size/\b≠rb:=by
      intro w' h b hb
      refine ⟨h b hb,?_⟩
      simp at hb
      rcases hb with rfl|rfl|rfl<;>omega
    have built:∀ (w35 w36:World) (q:Option Addr) (qc:Nat),Fr (·=rb) w16 w35->Own w16.heap.size w35 zdJ 5 q 2 qc (zoc x px cx++zoc y py cy)->Fr (fun b=>b=rb) w35 w36 ->
        ok2=true->∀ S:Nat->Prop,(∀ b,S b->b<w.heap.size)->∀ w'',Fr (fun b=>S b\/b=b0) w36 w''->IsT w'' (.mk k emS emS 0 [x,y]) q qc:=by
      intro w35 w36 q qc fa ow fb hok2 S hS w'' fc
      subst hok2
      obtain ⟨hWy,hny,hTy⟩:=P5.good rfl
      have fall:Fr (fun b=>b=rb\/S b\/b=b0) w16 w'':=((fa.tr fb).mono fun b hb=>.inl hb).tr (fc.mono fun b hb=>.inr hb)
      have bnd:∀ b,(b=rb\/S b\/b=b0)->b<w1.heap.size:=by
        intro b hb
        have:=h1.size
        rcases hb with rfl|hb|rfl
        · omega
        · have:=hS b hb; omega
        · exact hb0w
      have tx:IsT w'' x px cx:=hTx _ bnd w'' ((f15.mono fun b hb=>.inl hb).tr ((P5.fr.mono fun b hb=>.inl hb).tr fall))
      have ty:IsT w'' y py cy:=hTy _ (fun b hb=>by have:=bnd b hb; omega) w'' fall
      unfold IsT
      have hle:=ow.le
      refine ⟨by simpa using hle.1,zw0 (l:=[(x,px,cx),(y,py,cy)]) (fun j u hu=>?_) (by intro z hz; simp at hz; rcases hz with rfl|rfl<;>assumption)⟩
      have hcell:Go.Sx.cell w35 q j=some u:=ow.cells j u (by simpa using hu)
      have hq:∀ a,q=some a->¬ (a.block=rb\/S a.block\/a.block=b0):=fun a ha hb=>by
        have:=(ow.lt a ha).1
        have:=bnd _ hb
        omega
      have:=zdK hcell ((fb.mono fun b hb=>.inl hb).tr (fc.mono fun b hb=>.inr hb):Fr (fun b=>b=rb\/S b\/b=b0) w35 w'') hq
      simpa using this
    refine ⟨fun ok kk key val nn q ql qc w'=>(kk=k/\key=(⟨#[]⟩:ByteArray)/\val=(⟨#[]⟩:ByteArray)/\nn=0)/\ql=2/\Fr (·=rb) w16 w'/\∃ l6,RD B w' rb l6 left5/\l6.length<=l5.length/\(ok=true->ok2=true/\∀ S:Nat->Prop,(∀ b,S b->b<w.heap.size)->∀ w'',Fr (fun b=>S b\/b=b0) w' w''->IsT w'' (.mk k emS emS 0 [x,y]) q qc)/\(∀ zat,l5=41::zat->ok2=true->ok=true/\l6=zat),?_,?_,?_,?_⟩
    · intro w34 x34
      have h34:=zaa x34
      refine zcC zfq [av x px cx,av y py cy] rfl rfl (by intro v hv; simp at hv; rcases hv with rfl|rfl<;>rfl) (by omega) (by omega) fun w35 o35 e35=>⟨e35,_,_,_,rfl,fun hok2 w39 x39=>?_,fun hok2=>?_⟩
      · have h39:=zaa x39
        have ow:Own w16.heap.size w39 zdJ 5 (some ⟨w34.heap.size,0,none⟩) 2 2 (zoc x px cx++zoc y py cy):=(by simpa [Value.cells,zoc] using (o35 w16.heap.size h34.size)) |> fun o=>Own.ext o h39
        refine (zj3 (Own.ext (Own.ext (Own.ext P5.rd h34) e35) h39) (by have:=P5.len; omega) 41 41 rfl).mono fun v w40 ⟨f40,hor⟩=>⟨ziV f40 (hnb w39 x39.lt),?_⟩
        have fa:Fr (·=rb) w16 w39:=zac ((h34.trans e35).trans h39)
        rcases hor with ⟨r,hr,hv,o40⟩|⟨hr,hv,o40⟩
        · exact ⟨true,hv,⟨rfl,rfl,rfl,rfl⟩,rfl,fa.tr f40,r,o40,by rw [hr]; simp,fun _=>⟨hok2,built w39 w40 _ _ fa ow f40 hok2⟩,fun zat he _=>⟨rfl,by rw [hr] at he; simpa using he⟩⟩
        · exact ⟨false,hv,⟨rfl,rfl,rfl,rfl⟩,rfl,fa.tr f40,l5,o40,Nat.le_refl _,fun h=>(by cases h),fun zat he _=>absurd he (hr zat)⟩
      · exact ⟨⟨rfl,rfl,rfl,rfl⟩,rfl,zac (h34.trans e35),l5,Own.ext (Own.ext P5.rd h34) e35,Nat.le_refl _,fun h=>(by cases h),fun zat he hb=>(by rw [hok2] at hb; cases hb)⟩
    · intro hok2 w34 x34
      have h34:=zaa x34
      refine (zj3 (Own.ext P5.rd h34) (by have:=P5.len; omega) 41 41 rfl).mono fun v w35 ⟨f35,hor⟩=>⟨ziV f35 (hnb w34 x34.lt),?_⟩
      have fa:Fr (·=rb) w16 w35:=(zac h34).tr f35
      have body:∀ (t36:Bool) (l6:List UInt8),RD B w35 rb l6 left5->l6.length<=l5.length->(∀ zat,l5=41::zat->ok2=true->t36=true/\l6=zat)->∀ w37,zag [] [b0,b11,b25] w35 w37->Run Tryz.prog (.buildSlice zci 2 [(0,av x px cx),(1,av y py cy)]) w37 fun v38 w38=>Ext w37 w38/\∃ t39:Option Addr,∃ tl40:Nat,∃ tc41:Nat,v38=(.slice t39 tl40 tc41) /\
          ((k=k/\(⟨#[]⟩:ByteArray)=(⟨#[]⟩:ByteArray)/\(⟨#[]⟩:ByteArray)=(⟨#[]⟩:ByteArray)/\(0:Int)=0)/\tl40=2/\Fr (·=rb) w16 w38/\∃ l6,RD B w38 rb l6 left5/\l6.length<=l5.length/\(t36=true->ok2=true/\∀ S:Nat->Prop,(∀ b,S b->b<w.heap.size)->∀ w'',Fr (fun b=>S b\/b=b0) w38 w''->IsT w'' (.mk k emS emS 0 [x,y]) t39 tc41)/\(∀ zat,l5=41::zat->ok2=true->t36=true/\l6=zat)):=by
        intro t36 l6 o6 hl6 hr6 w37 x37
        have h37:=zaa x37
        refine zcC zfq [av x px cx,av y py cy] rfl rfl (by intro v hv; simp at hv; rcases hv with rfl|rfl<;>rfl) (by omega) (by omega) fun w38 o38 e38=>⟨e38,_,_,_,rfl,⟨rfl,rfl,rfl,rfl⟩,rfl,fa.tr (zac (h37.trans e38)),l6,Own.ext (Own.ext o6 h37) e38,hl6,fun _=>⟨hok2,?_⟩,hr6⟩
        have ow:Own w16.heap.size w38 zdJ 5 (some ⟨w37.heap.size,0,none⟩) 2 2 (zoc x px cx++zoc y py cy):=by simpa [Value.cells,zoc] using (o38 w16.heap.size (Nat.le_trans fa.size h37.size))
        exact built w38 w38 _ _ (fa.tr (zac (h37.trans e38))) ow (Fr.refl _ _) hok2
      rcases hor with ⟨r,hr,hv,o40⟩|⟨hr,hv,o40⟩
      · exact ⟨true,hv,body true r o40 (by rw [hr]; simp) fun zat he _=>⟨rfl,by rw [hr] at he; simpa using he⟩⟩
      · exact ⟨false,hv,body false l5 o40 (Nat.le_refl _) fun zat he _=>absurd he (hr zat)⟩
    · intro hok2 w34 x34
      have h34:=zaa x34
      refine zcC zfq [av x px cx,av y py cy] rfl rfl (by intro v hv; simp at hv; rcases hv with rfl|rfl<;>rfl) (by omega) (by omega) fun w35 o35 e35=>⟨e35,_,_,_,rfl,⟨rfl,rfl,rfl,rfl⟩,rfl,zac (h34.trans e35),l5,Own.ext (Own.ext P5.rd h34) e35,Nat.le_refl _,fun h=>(by cases h),fun zat he hb=>(by rw [hok2] at hb; cases hb)⟩
    · rintro ok kk key val nn q ql qc w33 ⟨⟨rfl,rfl,rfl,rfl⟩,rfl,f33,l6,o6,hl6,hgood,hrest⟩ w34 x34
      have hlen5:=P5.len
      have hle5:=P5.le
      refine ⟨.mk _ emS emS 0 [x,y],q,qc,ok,rfl,l6,left5,⟨zFS (f16.tr f33) hb0 x34,RD.b o6 hb0r x34,by omega,by omega,fun hok=>?_⟩,fun k' a b zat hk' ha hb hnod he hasc=>?_⟩
      · obtain ⟨hok2,hT⟩:=hgood hok
        obtain ⟨hWy,hny,_⟩:=P5.good hok2
        refine ⟨zHX (by omega) (by simp) (by intro z hz; simp at hz; rcases hz with rfl|rfl<;>assumption),by simp only [nod,zmz]; omega,fun S hS w'' fw=>hT S hS w'' ?_⟩
        exact (zbK x34 (by intro d hd; simp at hd; exact .inl (.inr hd))).tr (fw.mono fun b hb=>.inl hb)
      · obtain ⟨rfl,rfl,hl4'⟩:=hC k' a b zat hk' ha hb hnod he hasc
        have hasc4:asc l4:=by
          rw [hl4']
          rw [he] at hasc
          exact zhs (zr5 hasc)
        obtain ⟨h5,rfl,hl5⟩:=C5 b (41::zat) hb (by omega) hl4' (ze8 (by decide)) hasc4
        obtain ⟨hk1,hk2⟩:=hrest zat hl5 h5
        exact ⟨hk1,rfl,hk2⟩
  refine (zj3 (Own.ext P2.rd h12) (by have:=P2.len; omega) 124 124 rfl).mono fun v w13 ⟨f13,hor⟩=>⟨ziV f13 hns,?_⟩
  have szn:w12.heap.size<=w13.heap.size:=f13.size
  have bnd13:∀ b∈[b0,b11],b<w13.heap.size:=fun b hb=>by have:=(hns b hb).1; omega
  rcases hor with ⟨r,hr,hv,o13⟩|⟨hr,hv,o13⟩
  · refine ⟨true,hv,fun _ w15 x15=>?_,fun h=>(by cases h)⟩
    refine (tail 6 w15 (.inr rfl) r (((zac h12).tr f13).tr (zac (zaa x15))) (Own.ext o13 (zaa x15)) (x15.lt _ (by simp)) (x15.lt _ (by simp)) (by rw [hr]; simp) fun k' a b zat hk' ha hb hnod he hasc=>?_).mono fun v w16 ⟨kp,y,py,cy,ok2,hv,hJ⟩=>⟨kp,y.k,y.key,y.val,y.n,py,y.xs.length,cy,ok2,hv,fun b25 hb25=>?_⟩
    · obtain ⟨_,hxa,hl2⟩:=C2 a _ ha (by omega) he (by split<;>exact ze8 (by decide)) hasc
      rw [hr] at hl2
      simp only [List.cons.injEq] at hl2
      refine ⟨?_,hxa,hl2.2⟩
      rcases hk' with rfl|rfl
      · exact absurd hl2.1 (by decide)
      · rfl
    · obtain ⟨J,ja,jb,jc,jd⟩:=hJ b25 hb25
      refine ⟨J,?_,jd⟩
      repeat' (first|exact ja|exact jb|exact jc|apply And.intro)
  · refine ⟨false,hv,fun h=>(by cases h),fun _ w15 x15=>?_⟩
    have h15:=zaa x15
    have hns15:∀ b∈[b0,b11],b<w15.heap.size/\b≠rb:=fun b hb=>⟨x15.lt b hb,(hns b hb).2⟩
    refine (zj3 (Own.ext o13 h15) (by have:=P2.len; omega) 38 38 rfl).mono fun v w16 ⟨f16,hor⟩=>⟨ziV f16 hns15,?_⟩
    rcases hor with ⟨r,hr2,hv,o16⟩|⟨hr2,hv,o16⟩
    · refine ⟨true,hv,fun h=>(by cases h),fun _ w18 x18=>?_⟩
      refine (tail 5 w18 (.inl rfl) r ((((zac h12).tr f13).tr (zac h15)).tr (f16.tr (zac (zaa x18)))) (Own.ext o16 (zaa x18)) (x18.lt _ (by simp)) (x18.lt _ (by simp)) (by rw [hr2]; simp) fun k' a b zat hk' ha hb hnod he hasc=>?_).mono fun v w19 ⟨kp,y,py,cy,ok2,hv,hJ⟩=>⟨kp,y.k,y.key,y.val,y.n,py,y.xs.length,cy,ok2,hv,fun b25 hb25=>?_⟩
      · obtain ⟨_,hxa,hl2⟩:=C2 a _ ha (by omega) he (by split<;>exact ze8 (by decide)) hasc
        rw [hr2] at hl2
        simp only [List.cons.injEq] at hl2
        refine ⟨?_,hxa,hl2.2⟩
        rcases hk' with rfl|rfl
        · rfl
        · exact absurd hl2.1 (by decide)
      · obtain ⟨J,ja,jb,jc,jd⟩:=hJ b25 hb25
        refine ⟨J,?_,jd⟩
        repeat' (first|exact ja|exact jb|exact jc|apply And.intro)
    · refine ⟨false,hv,fun _ w18 x18=>?_,fun h=>(by cases h)⟩
      refine ⟨zjh,none,0,false,rfl,l2,left2,⟨zFS ((f2.tr ((zac h12).tr f13)).tr ((zac h15).tr f16)) hb0 x18,RD.b o16 hb0r x18,P2.len,P2.le,fun h=>(by cases h)⟩,fun k a b zat hk ha hb hnod he hasc=>?_⟩
      obtain ⟨_,_,hl2⟩:=C2 a _ ha (by omega) he (by split<;>exact ze8 (by decide)) hasc
      rcases hk with rfl|rfl
      · exact absurd hl2 (hr2 _)
      · exact absurd hl2 (hr _)
theorem zJn {P:Program} {t:TypeId} {m:Array (String×TypeId)} (ht:P.underlying t=some (.interface m)) {v:Value} (hv:isErr v) {cx:Bool} {w:World} {K:Value->World->Prop} (hk:∀ b:Bool,(b=true↔v=.nilIface)->K (.bool b) w):Run P (.eq .eql t cx true v .nilIface) w K:=by
  have hb:∀ x:Value,∀ r:Bool,(Op.equal t x .nilIface).run P w=.ok r w->(eqGuard .eql t (opd cx) (opd true) x .nilIface).run P w=.ok () w->binOp .eql t x .nilIface=(do pure (.bool (<- Op.equal t x .nilIface)))->(MC.sem (.eq .eql t cx true x .nilIface)).run P w=.ok (.bool r) w:=fun x r h1 h2 h3=>by
    show (do eqGuard .eql t (opd cx) (opd true) x .nilIface; binOp .eql t x .nilIface:Sem Value).run P w=_
    rw [Sem.run_bind,h2,Result.andThen_ok,h3,Sem.run_bind,h1,Result.andThen_ok,Sem.run_pure]
  rcases hv with rfl|⟨a,b,rfl⟩
  · exact ⟨_,w,hb _ true (zkj 9999 ht w) (by cases cx<;>rfl) rfl,hk true (by simp)⟩
  · exact ⟨_,w,hb _ false (zki 9999 ht a b w) (by cases cx<;>rfl) rfl,hk false (by simp)⟩
theorem zCf {P:Program} {t:TypeId} (ht:zuq P t=true) {v:Value} (hv:isErr v) {cx:Bool} {w:World} {K:Value->World->Prop} (hk:∀ b:Bool,(b=true↔v=.nilIface)->K (.bool b) w):Run P (.eq .eql t cx true v .nilIface) w K:=by
  unfold zuq at ht
  split at ht
  · rename_i m h; exact zJn h hv hk
  · cases ht
theorem zDa (t:AT):1<=nod t:=by cases t; simp [nod]
theorem ask_k:∀ n,AskC n:=by
  intro n
  induction n with
  |zero =>
    intro W0 w B rb left l hn g h0 hrb o hl
    obtain rfl:left=0:=by omega
    obtain ⟨_,g1⟩:=o.cells
    refine zgU _ w _ fun b0 hb0=>⟨by simp,by simp,_,g1,fun _ w2 h2=>⟨zjh,none,0,false,rfl,l,0,⟨zac h2,Own.ext o h2,Nat.le_refl _,Nat.le_refl _,fun h=>(by cases h)⟩,fun t0 zat h1 h3=>absurd (zDa t0) (by omega)⟩,fun h=>absurd rfl h⟩
  |succ n ih =>
    intro W0 w B rb left l hn g h0 hrb o hl
    obtain ⟨_,g1⟩:=o.cells
    have hlt:=o.lt
    refine zgU _ w _ fun b0 hb0=>⟨by simp,by simp,_,g1,fun hz w2 h2=>?_,fun hne=>⟨by simp,by simp,_,g1,i64 (by omega),by simp,by simp,?_⟩⟩
    · obtain rfl:left=0:=by omega
      exact ⟨zjh,none,0,false,rfl,l,0,⟨zac h2,Own.ext o h2,Nat.le_refl _,Nat.le_refl _,fun h=>(by cases h)⟩,fun t0 zat h1 h3=>absurd (zDa t0) (by omega)⟩
    have hb0r:b0≠rb:=by omega
    refine o.left hb0r (m:=left-1) (by omega) fun w3 o3 f3 w4 x4=>?_
    have h4:=zaa x4
    have hk:∀ (w' w'':World),b0<w'.heap.size->Fr (·=rb) w' w''->zbL [b0] w' w'':=fun w' w'' hb f=>ziV f (by intro b hb'; simp at hb'; subst hb'; exact ⟨hb,hb0r⟩)
    have f4:Fr (·=rb) w w4:=f3.tr (zac h4)
    have no:∀ (w' w'':World) (l':List UInt8),Fr (·=rb) w w'->RD B w' rb l' (left-1)->l'.length<=l.length->zag [b0] [] w' w''->(∀ t0 zat,zeS t0=0->nod t0<=left->l=txt t0++zat->sep zat->asc l->False) ->
        zA8 B rb l left w zjh none 0 false w'':=fun w' w'' l' f o' hl' x hno =>
      ⟨l',left-1,⟨zFS f hb0 x,RD.b o' hb0r x,hl',by omega,fun h=>(by cases h)⟩,fun t0 zat h1 h2 h3 h5 h6=>(hno t0 zat h1 h2 h3 h5 h6).elim⟩
    refine (zj3 (Own.ext o3 h4) hl 63 63 rfl).mono fun v w5 ⟨f5,hor⟩=>⟨hk _ _ (x4.lt _ (by simp)) f5,?_⟩
    have F5:=f4.tr f5
    have sz5:=f5.size
    have hb4:b0<w4.heap.size:=x4.lt _ (by simp)
    rcases hor with ⟨r,hr,hv,o5⟩|⟨hr,hv,o5⟩
    · -- a key that is there
      refine ⟨true,hv,fun _ w7 x7=>?_,fun h=>(by cases h)⟩
      have h7:=zaa x7
      have hrl:r.length<=2000:=by rw [hr] at hl; simp at hl; omega
      refine (zzO (Own.ext o5 h7) hrl).mono fun v w8 ⟨f8,a,b,hv,hab,o8,hC⟩=>⟨hk _ _ (x7.lt _ (by simp)) f8,_,hv,fun w10 x10=>?_⟩
      have hla:a.length+b.length=r.length:=by rw [hab]; simp
      refine ⟨.mk 1 (ofL a) (ofL []) 0 [],none,0,true,rfl,b,left-1,⟨zFS ((F5.tr (zac h7)).tr f8) hb0 x10,RD.b o8 hb0r x10,by rw [hr]; simp; omega,by omega,fun _=>⟨zxQ (by omega) (by omega) (by simp) (i64 (by omega)),by rw [nod1]; omega,fun S hS w'' _=>zog⟩⟩,fun t0 zat he hnod hl0 hsep hasc=>?_⟩
      rw [hr] at hl0 hasc
      rcases zm7 he with ⟨key,rfl,hkey,ht⟩|⟨key,val,rfl,hkey,hval,ht⟩|⟨key,m,rfl,hkey,_,_,ht⟩|⟨x,rfl,hx,ht,_⟩|⟨k,x,y,hk',rfl,hx,hy,ht,_⟩
      · rw [ht] at hl0
        simp only [List.cons_append,List.cons.injEq,true_and] at hl0
        obtain ⟨rfl,rfl⟩:=hC _ _ hl0 (zhs hasc) (zpd hkey) hsep
        refine ⟨rfl,?_,rfl⟩
        rw [zb8]; rfl
      · rw [ht,List.append_assoc] at hl0
        exact absurd hl0.symm (zms (zJN hkey) (zpd hkey) (by decide))
      · rw [ht,List.append_assoc] at hl0
        exact absurd hl0.symm (zms (zKu hkey) (zvE hkey) (by decide))
      · rw [ht] at hl0; simp at hl0
      · rw [ht] at hl0; simp at hl0
    refine ⟨false,hv,fun h=>(by cases h),fun _ w7 x7=>?_⟩
    have h7:=zaa x7
    refine (zj3 (Own.ext o5 h7) hl 33 33 rfl).mono fun v w8 ⟨f8,hor⟩=>⟨hk _ _ (x7.lt _ (by simp)) f8,?_⟩
    have F8:=(F5.tr (zac h7)).tr f8
    have ext8:Ext W0 w8:=F8.ext h0 (by intro b hb; omega)
    have hb7:b0<w7.heap.size:=x7.lt _ (by simp)
    have sz8:=f8.size
    rcases hor with ⟨r,hr2,hv,o8⟩|⟨hr2,hv,o8⟩
    · -- what is not
      refine ⟨true,hv,fun _ w10 x10=>?_,fun h=>(by cases h)⟩
      have h10:=zaa x10
      have hrl:r.length+1=l.length:=by rw [hr2]; simp
      refine (ih W0 w10 B rb (left-1) r (by omega) g (ext8.trans h10) hrb (Own.ext o8 h10) (by omega)).mono fun v w11 ⟨y,py,cy,ok2,hv,l2,left2,P2,C2⟩=>⟨hk _ _ (x10.lt _ (by simp)) P2.fr,y.k,y.key,y.val,y.n,py,y.xs.length,cy,ok2,hv,fun b20 hb20 w21 x21=>?_⟩
      have h21:=zaa x21
      have hlen2:=P2.len
      have hle2:=P2.le
      refine zcC zfq [av y py cy] rfl rfl (by intro v hv; simp at hv; subst hv; rfl) (by omega) (by omega) fun w22 o22 e22=>⟨e22,_,_,_,rfl,fun w26 x26=>?_⟩
      have F22:Fr (·=rb) w w22:=((F8.tr (zac h10)).tr P2.fr).tr (zac (h21.trans e22))
      refine ⟨.mk 4 emS emS 0 [y],some ⟨w21.heap.size,0,none⟩,1,ok2,rfl,l2,left2,⟨zFS F22 hb0 x26,RD.b (Own.ext (Own.ext P2.rd h21) e22) hb0r x26,by omega,by omega,fun hok=>?_⟩,fun t0 zat he hnod hl0 hsep hasc=>?_⟩
      · obtain ⟨hWy,hny,hTy⟩:=P2.good hok
        refine ⟨zHX (by omega) (by simp) (by intro z hz; simp at hz; subst hz; exact hWy),by simp only [nod,zmz]; omega,fun S hS w'' fw=>?_⟩
        have fb:Fr (fun b=>S b\/b=b0) w22 w'':=(zbK x26 (by intro d hd; simp at hd; exact .inl (.inr hd))).tr (fw.mono fun b hb=>.inl hb)
        have bnd:∀ b,(S b\/b=b0)->b<w10.heap.size:=by
          intro b hb
          have:=x10.lt b0 (by simp)
          have s1:=F8.size
          have s2:=h10.size
          rcases hb with hb|rfl
          · have:=hS b hb; omega
          · exact this
        have ty:IsT w'' y py cy:=hTy _ bnd w'' ((zac (h21.trans e22)).tr fb)
        have sA:=P2.fr.size
        have sB:=h21.size
        unfold IsT
        refine ⟨by simp,zw0 (l:=[(y,py,cy)]) (fun j u hu=>?_) (by intro z hz; simp at hz; subst hz; exact ty)⟩
        have hcell:Go.Sx.cell w22 (some ⟨w21.heap.size,0,none⟩) j=some u:=(o22 0 (Nat.zero_le _)).cells j u (by simpa [Value.cells,zoc,AT.k,AT.key,AT.val,AT.n,AT.xs] using hu)
        have:=zdK hcell fb (fun a ha hb=>by obtain rfl:=Option.some.inj ha; have:=bnd _ hb; simp only [] at this; omega)
        simpa using this
      · rw [hr2] at hl0 hasc
        rcases zm7 he with ⟨key,rfl,hkey,ht⟩|⟨key,val,rfl,hkey,hval,ht⟩|⟨key,m,rfl,hkey,_,_,ht⟩|⟨x,rfl,hx,ht,hnx⟩|⟨k,x,y',hk',rfl,hx,hy,ht,_⟩
        · rw [ht] at hl0; simp at hl0
        · rw [ht,List.append_assoc] at hl0
          exact absurd hl0.symm (zms (zJN hkey) (zpd hkey) (by decide))
        · rw [ht,List.append_assoc] at hl0
          exact absurd hl0.symm (zms (zKu hkey) (zvE hkey) (by decide))
        · rw [ht] at hl0
          simp only [List.cons_append,List.cons.injEq,true_and] at hl0
          obtain ⟨h1,rfl,h3⟩:=C2 x zat hx (by omega) hl0 hsep (zhs hasc)
          exact ⟨h1,rfl,h3⟩
        · rw [ht] at hl0; simp at hl0
    refine ⟨false,hv,fun h=>(by cases h),fun _ w10 x10=>?_⟩
    have h10:=zaa x10
    refine (zj3 (Own.ext o8 h10) hl 40 40 rfl).mono fun v w11 ⟨f11,hor⟩=>⟨hk _ _ (x10.lt _ (by simp)) f11,?_⟩
    have F11:=(F8.tr (zac h10)).tr f11
    have ext11:Ext W0 w11:=F11.ext h0 (by intro b hb; omega)
    have sz11:=f11.size
    have hb10:b0<w10.heap.size:=x10.lt _ (by simp)
    rcases hor with ⟨r,hr3,hv,o11⟩|⟨hr3,hv,o11⟩
    · -- two of them
      refine ⟨true,hv,fun _ w13 x13=>?_,fun h=>(by cases h)⟩
      have h13:=zaa x13
      have hrl:r.length+1=l.length:=by rw [hr3]; simp
      refine (two_k n ih W0 w13 B rb (left-1) r (by omega) g (ext11.trans h13) hrb (Own.ext o11 h13) (by omega)).mono fun v w14 ⟨y,py,cy,ok2,hv,l2,left2,P2,C2⟩=>⟨hk _ _ (x13.lt _ (by simp)) P2.fr,y.k,y.key,y.val,y.n,py,y.xs.length,cy,ok2,hv,fun w23 x23=>?_⟩
      have hlen2:=P2.len
      have hle2:=P2.le
      have F14:=(F11.tr (zac h13)).tr P2.fr
      refine ⟨y,py,cy,ok2,rfl,l2,left2,⟨zFS F14 hb0 x23,RD.b P2.rd hb0r x23,by omega,by omega,fun hok=>?_⟩,fun t0 zat he hnod hl0 hsep hasc=>?_⟩
      · obtain ⟨hWy,hny,hTy⟩:=P2.good hok
        refine ⟨hWy,by omega,fun S hS w'' fw=>?_⟩
        refine hTy (fun b=>S b\/b=b0) (fun b hb=>?_) w'' ((zbK x23 (by intro d hd; simp at hd; exact .inl (.inr hd))).tr (fw.mono fun b hb=>.inl hb))
        have:=x13.lt b0 (by simp)
        have s1:=F11.size
        have s2:=h13.size
        rcases hb with hb|rfl
        · have:=hS b hb; omega
        · exact this
      · rw [hr3] at hl0 hasc
        rcases zm7 he with ⟨key,rfl,hkey,ht⟩|⟨key,val,rfl,hkey,hval,ht⟩|⟨key,m,rfl,hkey,_,_,ht⟩|⟨x,rfl,hx,ht,hnx⟩|⟨k,x,y',hk',rfl,hx,hy,ht,hnx⟩
        · rw [ht] at hl0; simp at hl0
        · rw [ht,List.append_assoc] at hl0
          exact absurd hl0.symm (zms (zJN hkey) (zpd hkey) (by decide))
        · rw [ht,List.append_assoc] at hl0
          exact absurd hl0.symm (zms (zKu hkey) (zvE hkey) (by decide))
        · rw [ht] at hl0; simp at hl0
        · rw [ht] at hl0
          simp only [List.cons_append,List.cons.injEq,true_and,List.append_assoc,List.nil_append] at hl0
          exact C2 k x y' zat hk' hx hy (by omega) hl0 (zhs hasc)
    refine ⟨false,hv,fun h=>(by cases h),fun _ w13 x13=>?_⟩
    have h13:=zaa x13
    have inv:∀ t0 zat,zeS t0=0->l=txt t0++zat->(∃ key val,t0=.mk 2 key val 0 []/\lbB key=true/\lbB val=true/\l=key.data.toList++61::(val.data.toList++zat))\/(∃ key m,t0=.mk 3 key emS m []/\unB key=true/\0<=m/\m<=1099511627776/\l=key.data.toList++62::61::(Lib.itoa m++zat)):=fun t0 zat he hl0=>by
      rcases zm7 he with ⟨key,rfl,hkey,ht⟩|⟨key,val,rfl,hkey,hval,ht⟩|⟨key,m,rfl,hkey,hm1,hm2,ht⟩|⟨x,rfl,hx,ht,hnx⟩|⟨k,x,y',hk',rfl,hx,hy,ht,hnx⟩
      · rw [ht] at hl0; exact absurd hl0 (hr _)
      · exact .inl ⟨key,val,rfl,hkey,hval,by rw [hl0,ht]; simp⟩
      · exact .inr ⟨key,m,rfl,hkey,hm1,hm2,by rw [hl0,ht]; simp⟩
      · rw [ht] at hl0; exact absurd hl0 (hr2 _)
      · rw [ht] at hl0; exact absurd hl0 (hr3 _)
    refine (zzO (Own.ext o11 h13) hl).mono fun v w14 ⟨f14,a,b,hv,hab,o14,hC⟩=>⟨hk _ _ (x13.lt _ (by simp)) f14,_,hv,fun w16 x16=>?_⟩
    have hla:a.length+b.length=l.length:=by rw [hab]; simp
    have h16:=zaa x16
    have F14:=(F11.tr (zac h13)).tr f14
    refine (zj3 (Own.ext o14 h16) (by omega) 62 62 rfl).mono fun v w17 ⟨f17,hor⟩=>⟨hk _ _ (x16.lt _ (by simp)) f17,?_⟩
    have F17:=(F14.tr (zac h16)).tr f17
    rcases hor with ⟨r,hr4,hv,o17⟩|⟨hr4,hv,o17⟩
    · refine ⟨true,hv,fun _ w19 x19=>?_,fun h=>(by cases h)⟩
      have h19:=zaa x19
      have hlr:r.length+1=b.length:=by rw [hr4]; simp
      have inv3:∀ t0 zat,zeS t0=0->l=txt t0++zat->asc l->∃ m,t0=.mk 3 (ofL a) emS m []/\0<=m/\m<=1099511627776/\r=61::(Lib.itoa m++zat):=fun t0 zat he hl0 hasc=>by
        rcases inv t0 zat he hl0 with ⟨key,val,rfl,hkey,hval,h⟩|⟨key,m,rfl,hkey,hm1,hm2,h⟩
        · obtain ⟨_,hb⟩:=hC _ _ h hasc (zpd hkey) (ze8 (by decide))
          rw [hr4] at hb
          simp at hb
        · obtain ⟨ha,hb⟩:=hC _ _ h hasc (zvE hkey) (ze8 (by decide))
          rw [hr4] at hb
          simp only [List.cons.injEq,true_and] at hb
          exact ⟨m,by rw [ha,zb8],hm1,hm2,hb⟩
      refine (zj3 (Own.ext o17 h19) (by omega) 61 61 rfl).mono fun v w20 ⟨f20,hor⟩=>⟨hk _ _ (x19.lt _ (by simp)) f20,?_⟩
      have F20:=(F17.tr (zac h19)).tr f20
      rcases hor with ⟨r2,hr5,hv,o20⟩|⟨hr5,hv,o20⟩
      · refine ⟨true,hv,fun h=>(by cases h),fun _ w22 x22=>?_⟩
        have h22:=zaa x22
        have hlr2:r2.length+1=r.length:=by rw [hr5]; simp
        refine (zzO (Own.ext o20 h22) (by omega)).mono fun v w23 ⟨f23,a2,b2,hv,hab2,o23,hC2⟩=>⟨hk _ _ (x22.lt _ (by simp)) f23,_,hv,fun w25 x25=>?_⟩
        have h25:=zaa x25
        have hla2:a2.length+b2.length=r2.length:=by rw [hab2]; simp
        have F25:=((F20.tr (zac h22)).tr f23).tr (zac h25)
        have ext25:Ext W0 w25:=F25.ext h0 (by intro b hb; omega)
        refine (zjo (ofL a2) (by rw [zas]; omega) w25 (g.ext ext25)).mono fun v w26 ⟨e26,m,ev,hv,hcase⟩=>⟨e26,m,ev,hv,?_⟩
        have F26:=F25.tr (zac e26)
        have o26:=Own.ext (Own.ext o23 h25) e26
        refine ⟨fun ok kk key val nn q ql qc w'=>(kk=3/\key=ofL a/\val=(⟨#[]⟩:ByteArray)/\nn=m/\q=none/\ql=0/\qc=0)/\w'=w26/\(ok=true↔ev=.nilIface),⟨fun w37 h37=>?_,fun w37 x37=>?_⟩,?_⟩
        · exact zCf (by kernel_rfl) (hcase.elim (fun h=>.inl h.1) fun h=>.inr h.1) fun t ht=>⟨Ext.refl _,t,rfl,⟨rfl,rfl,rfl,rfl,rfl,rfl,rfl⟩,rfl,ht⟩
        · exact zCf (by kernel_rfl) (hcase.elim (fun h=>.inl h.1) fun h=>.inr h.1) fun t ht=>⟨Ext.refl _,t,rfl,⟨rfl,rfl,rfl,rfl,rfl,rfl,rfl⟩,rfl,ht⟩
        · rintro ok kk key val nn q ql qc w36 ⟨⟨rfl,rfl,rfl,rfl,rfl,rfl,rfl⟩,rfl,hok⟩ w37 x37
          refine ⟨.mk 3 (ofL a) (ofL []) nn [],none,0,ok,rfl,b2,left-1,⟨zFS F26 hb0 x37,RD.b o26 hb0r x37,by omega,by omega,fun h=>⟨zxQ (by omega) (by omega) (by simp) ?_,by rw [nod1]; omega,fun S hS w'' _=>zog⟩⟩,fun t0 zat he hnod hl0 hsep hasc=>?_⟩
          · rcases hcase with ⟨_,hp⟩|⟨⟨x,y,he⟩,_⟩
            · exact zgW hp
            · rw [hok.1 h] at he; cases he
          · obtain ⟨m',rfl,hm1,hm2,hr6⟩:=inv3 t0 zat he hl0 hasc
            rw [hr5] at hr6
            simp only [List.cons.injEq,true_and] at hr6
            have hasc2:asc r2:=by
              rw [hab,hr4,hr5] at hasc
              exact zhs (zhs (zr5 hasc))
            obtain ⟨rfl,rfl⟩:=hC2 _ _ hr6 hasc2 (zF7 hm1) hsep
            have hp:=zei ⟨hm1,hm2⟩
            rcases hcase with ⟨h1,hp'⟩|⟨_,hp'⟩
            · rw [zck,hp] at hp'
              cases hp'
              exact ⟨hok.2 h1,rfl,rfl⟩
            · rw [zck] at hp'
              exact absurd hp (hp' _)
      · refine ⟨false,hv,fun _ w22 x22=>?_,fun h=>(by cases h)⟩
        refine ⟨zjh,none,0,false,rfl,no w20 w22 r F20 o20 (by omega) x22 fun t0 zat he hnod hl0 hsep hasc=>?_⟩
        obtain ⟨m,_,_,_,h⟩:=inv3 t0 zat he hl0 hasc
        exact hr5 _ h
    · refine ⟨false,hv,fun h=>(by cases h),fun _ w19 x19=>?_⟩
      have h19:=zaa x19
      have inv2:∀ t0 zat,zeS t0=0->l=txt t0++zat->asc l->∃ val,t0=.mk 2 (ofL a) val 0 []/\lbB val=true/\b=61::(val.data.toList++zat):=fun t0 zat he hl0 hasc=>by
        rcases inv t0 zat he hl0 with ⟨key,val,rfl,hkey,hval,h⟩|⟨key,m,rfl,hkey,hm1,hm2,h⟩
        · obtain ⟨ha,hb⟩:=hC _ _ h hasc (zpd hkey) (ze8 (by decide))
          exact ⟨val,by rw [ha,zb8],hval,hb⟩
        · obtain ⟨_,hb⟩:=hC _ _ h hasc (zvE hkey) (ze8 (by decide))
          exact absurd hb (hr4 _)
      refine (zj3 (Own.ext o17 h19) (by omega) 61 61 rfl).mono fun v w20 ⟨f20,hor⟩=>⟨hk _ _ (x19.lt _ (by simp)) f20,?_⟩
      have F20:=(F17.tr (zac h19)).tr f20
      rcases hor with ⟨r2,hr5,hv,o20⟩|⟨hr5,hv,o20⟩
      · refine ⟨true,hv,fun h=>(by cases h),fun _ w22 x22=>?_⟩
        have h22:=zaa x22
        have hlr2:r2.length+1=b.length:=by rw [hr5]; simp
        refine (zzO (Own.ext o20 h22) (by omega)).mono fun v w23 ⟨f23,a2,b2,hv,hab2,o23,hC2⟩=>⟨hk _ _ (x22.lt _ (by simp)) f23,_,hv,fun w25 x25=>?_⟩
        have hla2:a2.length+b2.length=r2.length:=by rw [hab2]; simp
        refine ⟨.mk 2 (ofL a) (ofL a2) 0 [],none,0,true,rfl,b2,left-1,⟨zFS ((F20.tr (zac h22)).tr f23) hb0 x25,RD.b o23 hb0r x25,by omega,by omega,fun _=>⟨zxQ (by omega) (by omega) (by omega) (i64 (by omega)),by rw [nod1]; omega,fun S hS w'' _=>zog⟩⟩,fun t0 zat he hnod hl0 hsep hasc=>?_⟩
        obtain ⟨val,rfl,hval,hb⟩:=inv2 t0 zat he hl0 hasc
        rw [hr5] at hb
        simp only [List.cons.injEq,true_and] at hb
        have hasc2:asc r2:=by
          rw [hab,hr5] at hasc
          exact zhs (zr5 hasc)
        obtain ⟨rfl,rfl⟩:=hC2 _ _ hb hasc2 (zpd hval) hsep
        exact ⟨rfl,by rw [zb8],rfl⟩
      · refine ⟨false,hv,fun _ w22 x22=>?_,fun h=>(by cases h)⟩
        refine ⟨zjh,none,0,false,rfl,no w20 w22 b F20 o20 (by omega) x22 fun t0 zat he hnod hl0 hsep hasc=>?_⟩
        obtain ⟨val,_,_,h⟩:=inv2 t0 zat he hl0 hasc
        exact hr5 _ h
mutual
theorem zsc:∀ t:AT,nod t<=1048576->zIU t=nod t
  |.mk k key val n xs,h => by
    unfold zIU nod
    unfold nod at h
    rw [zyC xs 1 (by omega)]
    omega
theorem zyC:∀ (xs:List AT) (a:Int),0<=a/\a+zmz xs<=1048576->zEF xs a=a+zmz xs
  |[],a,_ => by unfold zEF zmz; simp
  |x::r,a,h => by
    unfold zEF zmz
    unfold zmz at h
    have hx:=zsc x (by omega)
    rw [hx,wrap64 (by omega),zyC r (a+nod x) (by omega)]
    omega
end
theorem zoX {t:AT}:zl3 t=0↔zIU t<=60/\zeS t=0:=by
  unfold zl3
  constructor
  · intro h
    split at h
    · cases h
    · exact ⟨by omega,h⟩
  · rintro ⟨h1,h2⟩
    rw [if_neg (by omega),h2]
theorem zCR {s:ByteArray} (h:lbB s=true):asc s.data.toList:=fun x hx=>by
  unfold lbB at h
  simp only [Bool.and_eq_true] at h
  have:=List.all_eq_true.1 h.2 (x.toNat:Int) (List.mem_map.2 ⟨x,hx,rfl⟩)
  unfold okC at this
  simp only [Bool.or_eq_true,Bool.and_eq_true,decide_eq_true_eq] at this
  omega
theorem un_asc {s:ByteArray} (h:unB s=true):asc s.data.toList:=by
  unfold unB at h
  simp only [Bool.or_eq_true,decide_eq_true_eq] at h
  rcases h with (h|h)|h<;>(subst h; unfold asc; decide)
theorem zF6 {n:Int} (h:0<=n):asc (Lib.itoa n):=fun x hx=>by
  rcases Nat.lt_or_ge 57 x.toNat with h1|h1
  · exact absurd hx (zyX h h1)
  · omega
theorem zr4 {a b:List UInt8} (ha:asc a) (hb:asc b):asc (a++b):=fun x hx=>(List.mem_append.1 hx).elim (ha x) (hb x)
theorem ziH {a:UInt8} {b:List UInt8} (ha:a.toNat<128) (hb:asc b):asc (a::b):=fun x hx=>(List.mem_cons.1 hx).elim (fun h=>h▸ha) (hb x)
theorem zEg:∀ t:AT,zeS t=0->asc (txt t):=by
  intro t
  induction t using AT.ind with
  |h k key val n xs ih =>
    intro he
    rcases zm7 he with ⟨key,h,hkey,ht⟩|⟨key,val,h,hkey,hval,ht⟩|⟨key,m,h,hkey,hm,_,ht⟩|⟨x,h,hx,ht,hnx⟩|⟨k,x,y',hk',h,hx,hy,ht,hnx⟩
    · rw [ht]; exact ziH (by decide) (zCR hkey)
    · rw [ht]; exact zr4 (zCR hkey) (ziH (by decide) (zCR hval))
    · rw [ht]; exact zr4 (un_asc hkey) (ziH (by decide) (ziH (by decide) (zF6 hm)))
    · injection h with _ _ _ _ h5
      rw [ht]; exact ziH (by decide) (ih x (by rw [h5]; simp) hx)
    · injection h with _ _ _ _ h5
      rw [ht]
      refine ziH (by decide) (zr4 (ih x (by rw [h5]; simp) hx) (ziH (by split<;>decide) (zr4 (ih y' (by rw [h5]; simp) hy) (ziH (by decide) (fun z hz=>by cases hz)))))
theorem zHo (t:AT) (p:Option Addr) (c:Nat) (w:World) (hT:IsT w t p c) (hW:WfA t) (hn:nod t<=1048576) (g:GP w):FnP Tryz.prog zjj #[av t p c] w fun v w'=>Ext w w'/\((zl3 t≠0/\v=.tuple #[.string emS,.int .i64 (zl3 t)])\/(zl3 t=0/\v=.tuple #[.string (ofL (txt t)),.int .i64 0])):=by
  refine zxc t.k t.key t.val t.n p t.xs.length c w _ fun b0 _ w1 h1=>(zoB t p c w1 (hT.ext h1) hW).mono fun v w2 ⟨e2,hv⟩=>⟨e2,_,hv,fun hne w4 h4=>⟨h4,.inl ⟨hne,rfl⟩⟩,fun he w4 h4=>?_⟩
  exact (text_k t p c w4 (hT.ext h4) (zoX.1 he).2 (by omega) (g.ext h4)).mono fun v w5 ⟨e5,hv⟩=>⟨e5,_,hv,fun w7 h7=>⟨h7,.inr ⟨he,rfl⟩⟩⟩
theorem zl2 (w:World):IsT w zjh none 0:=zog
theorem zqe:WfA zjh:=by
  unfold WfA
  exact ⟨i64 (by omega),by decide,by decide,i64 (by omega),by simp,by unfold WfL; trivial⟩
theorem zwh (s:ByteArray) (w:World) (g:GB w):FnP Tryz.prog zji #[.string s] w fun v w'=>Ext w w'/\∃ t p c e,v=.tuple #[av t p c,.int .i64 e]/\WfA t/\(∀ S:Nat->Prop,(∀ b,S b->b<w.heap.size)->∀ w'',Fr S w' w''->IsT w'' t p c) /\
    ((e≠0/\t=zjh/\p=none/\c=0)\/(e=0/\zl3 t=0/\nod t<=60/\s=ofL (txt t)/\s.size<=2000))/\(∀ t0,zl3 t0=0->nod t0<=1048576->s=ofL (txt t0)->s.size<=2000->e=0/\t=t0):=by
  refine zxb s w _ fun b0 hb0=>⟨fun hbig w1 h1=>?_,fun hsm w1 x1=>?_⟩
  · exact ⟨h1,zjh,none,0,2,rfl,zqe,fun _ _ _ _=>zl2 _,.inl ⟨by decide,rfl,rfl,rfl⟩,fun t0 _ _ _ h=>by omega⟩
  have h1:=zaa x1
  refine zbC (by intro v hv; simp at hv; rcases hv with rfl|rfl<;>rfl) fun w2 o2 e2 w3 x3=>?_
  have h3:=zaa x3
  have hw3:Ext w w3:=(h1.trans e2).trans h3
  have o3:RD w1.heap.size w3 w1.heap.size s.data.toList 60:=by
    have:=Own.ext (o2 w1.heap.size (Nat.le_refl _)) h3
    simpa [RD,zb8] using this
  have hb1:b0<w1.heap.size:=x1.lt b0 (by simp)
  have s13:w1.heap.size<=w3.heap.size:=Nat.le_trans e2.size h3.size
  refine (ask_k 60 w w3 w1.heap.size w1.heap.size 60 s.data.toList (by omega) g hw3 h1.size o3 (by rw [zoM]; omega)).mono fun v w4 ⟨t,p,c,ok,hv,l',left',P,C⟩=>⟨ziV P.fr (by intro b hb; simp at hb; subst hb; exact ⟨by omega,by omega⟩),t.k,t.key,t.val,t.n,p,t.xs.length,c,ok,hv,fun b13 hb13=>⟨fun hno w14 x14=>?_,fun hok w14 h14=>?_⟩⟩
  · have hw4:Ext w w4:=P.fr.ext hw3 (by intro b hb; have:=h1.size; omega)
    refine ⟨zav x14 hw4 (by intro d hd; simp at hd; omega),zjh,none,0,3,rfl,zqe,fun _ _ _ _=>zl2 _,.inl ⟨by decide,rfl,rfl,rfl⟩,fun t0 he hn hs _=>?_⟩
    obtain ⟨h5,h6⟩:=zoX.1 he
    rw [zsc t0 hn] at h5
    have:=C t0 [] h6 (by omega) (by rw [hs,zck,List.append_nil]) (.inl rfl) (by rw [hs,zck]; exact zEg t0 h6)
    rw [hno] at this
    exact absurd this.1 (by simp)
  · have hw4:Ext w w4:=P.fr.ext hw3 (by intro b hb; have:=h1.size; omega)
    obtain ⟨hWt,hnt,hTt⟩:=P.good hok
    have hT14:IsT w14 t p c:=hTt (fun _=>False) (fun _ h=>h.elim) w14 (zac h14)
    have hcomp:∀ t0,zl3 t0=0->nod t0<=1048576->s=ofL (txt t0)->t=t0:=fun t0 he hn hs=>by
      obtain ⟨h5,h6⟩:=zoX.1 he
      rw [zsc t0 hn] at h5
      exact (C t0 [] h6 (by omega) (by rw [hs,zck,List.append_nil]) (.inl rfl) (by rw [hs,zck]; exact zEg t0 h6)).2.1
    have hgp:GP w14:=⟨(g.ext (hw4.trans h14)).pow⟩
    refine (zHo t p c w14 hT14 hWt (by omega) hgp).mono fun v w15 ⟨e15,hor⟩=>?_
    have fin:∀ w18,zag [b0] [] w4 w18->Ext w w18/\∀ S:Nat->Prop,(∀ b,S b->b<w.heap.size)->∀ w'',Fr S w18 w''->IsT w'' t p c:=fun w18 x18=>⟨zav x18 hw4 (by intro d hd; simp at hd; omega),fun S hS w'' fw=>hTt (fun b=>S b\/b=b0) (fun b hb=>by have s1:=hw3.size; rcases hb with hb|hb; (· have:=hS b hb; omega); omega) w'' ((zbK x18 (by intro d hd; simp at hd; exact .inl (.inr hd))).tr (fw.mono fun b hb=>.inl hb))⟩
    rcases hor with ⟨hne,hv⟩|⟨he0,hv⟩
    · refine ⟨e15,_,_,hv,fun _ w18 x18=>⟨(fin w18 x18).1,zjh,none,0,3,rfl,zqe,fun _ _ _ _=>zl2 _,.inl ⟨by decide,rfl,rfl,rfl⟩,fun t0 he hn hs _=>?_⟩,fun h=>absurd h.1 hne⟩
      have:=hcomp t0 he hn hs
      subst this
      exact absurd he hne
    · refine ⟨e15,_,_,hv,fun hbad w18 x18=>⟨(fin w18 x18).1,zjh,none,0,3,rfl,zqe,fun _ _ _ _=>zl2 _,.inl ⟨by decide,rfl,rfl,rfl⟩,fun t0 he hn hs _=>?_⟩,fun hgd w18 x18=>⟨(fin w18 x18).1,t,p,c,0,rfl,hWt,(fin w18 x18).2,.inr ⟨rfl,he0,by omega,hgd.2.symm,by omega⟩,fun t0 he hn hs _=>⟨rfl,hcomp t0 he hn hs⟩⟩⟩
      have:=hcomp t0 he hn hs
      subst this
      exact hbad.elim (fun h=>absurd rfl h) fun h=>absurd hs.symm h
abbrev Bs:=List UInt8
def ub (x:Int):UInt8:=UInt8.ofNat (x%256).toNat
theorem zDo {n:Int} (h:-1099511627776<=n/\n<0):Lib.parseIntB 64 (Lib.itoa n)=.ok n:=by
  unfold Lib.itoa
  rw [if_pos (by omega),Lib.parseIntB_minus]
  unfold Lib.parseUintB
  rw [if_neg (zoU _),show (2:Nat)^64-1=18446744073709551615 by decide,zve _ (by omega)]
  show (if (2:Nat)^(64-1)<n.natAbs then _ else _)=_
  rw [if_neg (by have:(2:Nat)^(64-1)=9223372036854775808:=by decide
                 omega)]
  congr 1; omega
theorem zgV {n:Int} (h:-1099511627776<=n/\n<=1099511627776):Lib.parseIntB 64 (Lib.itoa n)=.ok n:=by
  rcases Int.lt_or_le n 0 with h0|h0
  · exact zDo ⟨h.1,h0⟩
  · exact zei ⟨h0,h.2⟩
theorem zF5 {n:Int}:∀ c∈Lib.itoa n,c=45\/(48<=c.toNat/\c.toNat<=57):=fun c hc=>by
  unfold Lib.itoa at hc
  split at hc
  · rcases List.mem_cons.1 hc with h|h
    · exact .inl h
    · exact .inr (zcW _ c h)
  · exact .inr (zcW _ c hc)
theorem zz1 (l:List UInt8):Lib.atoiAll l=Lib.parseIntB 64 l:=by
  unfold Lib.atoiAll Lib.parseIntB
  cases l with
  |nil => rfl
  |cons c r =>
    simp only [Lib.parseUintB_64]
    rfl
theorem zrg (s:ByteArray) (hs:s.size<=281474976710656) (w:World) (g:GB w):FnP Tryz.prog zde #[.string s] w fun v w'=>Ext w w'/\∃ (n:Int) (ev:Value),v=.tuple #[.int .i64 n,ev] /\
    ((ev=.nilIface/\Lib.parseIntB 64 s.data.toList=.ok n)\/((∃ a b,ev=.iface a b)/\∀ m,Lib.parseIntB 64 s.data.toList≠.ok m)):=by
  have en:znp Tryz.prog zde:=fun args w=>Tryz.call175 args w
  rw [<- zz1]
  cases hp:Lib.atoiAll s.data.toList with
  |ok v =>
    refine ⟨en,(Tryz.strconv_Atoi_ok s (by omega) v hp w).mono fun e w' ⟨he,hw⟩=>⟨_,he,?_,v,.nilIface,rfl,.inl ⟨rfl,rfl⟩⟩⟩
    rcases hw with rfl|⟨t,rfl⟩
    · exact Ext.refl _
    · exact Lib.bytesWorld_below w 5 t
  |range =>
    obtain ⟨ev,h1,h2⟩:=g.eRan
    exact ⟨en,(Tryz.strconv_Atoi_range s hs hp ev w (zww h1) h2).mono fun e w' ⟨N,he,_,_,hb⟩=>⟨_,he,hb,_,_,rfl,.inr ⟨⟨_,_,rfl⟩,fun m h=>by cases h⟩⟩⟩
  |_ =>
    obtain ⟨ev,h1,h2⟩:=g.eSyn
    exact ⟨en,(Tryz.strconv_Atoi_syntax s hs hp ev w (zww h1) h2).mono fun e w' ⟨N,he,_,_,hb⟩=>⟨_,he,hb,_,_,rfl,.inr ⟨⟨_,_,rfl⟩,fun m h=>by cases h⟩⟩⟩
theorem znr (n:Int) (h:-9223372036854775808<=n/\n<=9223372036854775807) (w:World) (g:GB w):FnP Tryz.prog zbt #[.int .i64 n] w fun v w'=>Ext w w'/\v=.string (ofL (Lib.itoa n)) :=
  ⟨fun args w=>Tryz.call105 args w,(Tryz.strconv_Itoa n h.1 h.2 w g.pow).mono fun e w' ⟨he,k,os,hw⟩=>⟨_,he,by rw [hw]; exact zmg,rfl⟩⟩
structure Jb where
  user:ByteArray
  prio:Int
  nd:Nd
  ask:AT
  aft:List Int
abbrev jcs (j:Jb) (pa:Option Addr) (ca:Nat) (pf:Option Addr) (cf:Nat):List Value:=[.string j.user,.int .i64 j.prio,.int .i64 j.nd.c,.int .i64 j.nd.m,.int .i64 j.nd.g,.int .i64 j.ask.k,.string j.ask.key,.string j.ask.val,.int .i64 j.ask.n,.slice pa j.ask.xs.length ca,.slice pf j.aft.length cf]
abbrev jv (j:Jb) (pa:Option Addr) (ca:Nat) (pf:Option Addr) (cf:Nat):Value:=.agg #[.string j.user,.int .i64 j.prio,.int .i64 j.nd.c,.int .i64 j.nd.m,.int .i64 j.nd.g,.int .i64 j.ask.k,.string j.ask.key,.string j.ask.val,.int .i64 j.ask.n,.slice pa j.ask.xs.length ca,.slice pf j.aft.length cf]
def IsJ (w:World) (j:Jb) (pa:Option Addr) (ca:Nat) (pf:Option Addr):Prop:=IsT w j.ask pa ca/\zes .i64 w pf j.aft
theorem IsJ.ext {w w':World} {j:Jb} {pa:Option Addr} {ca:Nat} {pf:Option Addr} (h:IsJ w j pa ca pf) (e:Ext w w'):IsJ w' j pa ca pf:=⟨h.1.ext e,h.2.ext e⟩
structure WfJ (j:Jb):Prop where
  user:j.user.size<=9223372036854775807
  prio:InR .i64 j.prio
  nd:rng j.nd
  ask:WfA j.ask
  len:j.aft.length<=9223372036854775807
  aft:∀ x∈j.aft,InR .i64 x
def upA:Int->List Int->Prop
  |_,[] => True
  |a,x::r => 1<=x/\x<=60/\a<x/\upA x r
theorem zzJ {l:List Int}:∀ {a:Int} (k:Nat),upA a l->upA a (l.take k):=by
  induction l with
  |nil => intro a k _; simp [upA]
  |cons x r ih =>
    intro a k h
    cases k with
    |zero => simp [upA]
    |succ k => exact ⟨h.1,h.2.1,h.2.2.1,ih k h.2.2.2⟩
def zuu (a:Int) (l:List Int):Int:=l.getLast?.getD a
theorem zox {x:Int}:∀ {l:List Int} {a:Int},upA a (l++[x])↔upA a l/\1<=x/\x<=60/\zuu a l<x
  |[],a => by simp [upA,zuu]
  |y::r,a => by
    have ih:=zox (l:=r) (a:=y) (x:=x)
    simp only [List.cons_append,upA,ih]
    have:zuu a (y::r)=zuu y r:=by
      unfold zuu
      cases r with
      |nil => rfl
      |cons z r => simp [List.getLast?_cons]
    rw [this]
    constructor
    · rintro ⟨h1,h2,h3,h4,h5⟩; exact ⟨⟨h1,h2,h3,h4⟩,h5⟩
    · rintro ⟨⟨h1,h2,h3,h4⟩,h5⟩; exact ⟨h1,h2,h3,h4,h5⟩
theorem zgx {l:List Int}:∀ {a:Int},upA a l->∀ x∈l,1<=x/\x<=60:=by
  induction l with
  |nil => intro a _ x hx; cases hx
  |cons y r ih =>
    intro a h x hx
    rcases List.mem_cons.1 hx with rfl|hx
    · exact ⟨h.1,h.2.1⟩
    · exact ih h.2.2.2 x hx
structure okJ (j:Jb):Prop where
  user:lbB j.user=true
  prio:-1000<=j.prio/\j.prio<=1000
  nd:okN j.nd
  ask:zl3 j.ask=0
  len:j.aft.length<=8
  up:upA 0 j.aft
theorem zyY (j:Jb) (pa:Option Addr) (ca:Nat) (pf:Option Addr) (cf:Nat) (w:World) (hJ:IsJ w j pa ca pf) (hW:WfJ j):FnP Tryz.prog zdl #[jv j pa ca pf cf] w fun v w'=>Ext w w'/\∃ e:Int,v=.int .i64 e/\(e=0↔okJ j):=by
  refine znB j.user j.prio j.nd.c j.nd.m j.nd.g j.ask.k j.ask.key j.ask.val j.ask.n pa j.ask.xs.length ca pf j.aft.length cf w _ fun b0 hb0 w1 h1=>(zgh j.user hW.user w1).mono fun v w2 ⟨e2,hv⟩=>⟨e2,_,hv,fun hno w4 h4=>?_,fun hyes=>⟨fun hbad w4 h4=>?_,fun hpr w4 h4=>?_⟩⟩
  · exact ⟨h4,3,rfl,by simp,fun h=>by rw [h.user] at hno; cases hno⟩
  · exact ⟨h4,4,rfl,by simp,fun h=>by have:=h.prio; omega⟩
  refine (zet j.nd w4).mono fun v w5 ⟨e5,hv⟩=>⟨e5,_,hv,fun hne w7 h7=>⟨h7,_,rfl,fun h=>absurd h hne,fun h=>absurd (zba.2 h.nd) hne⟩,fun hz w7 h7=>?_⟩
  refine (zoB j.ask pa ca w7 (hJ.1.ext h7) hW.ask).mono fun v w8 ⟨e8,hv⟩=>⟨e8,_,hv,fun hne w10 h10=>⟨h10,_,rfl,fun h=>absurd h hne,fun h=>absurd h.ask hne⟩,fun hz2=>⟨fun hbig w10 h10=>⟨h10,2,rfl,by simp,fun h=>by have:=h.len; omega⟩,fun hle=>?_⟩⟩
  refine ⟨fun last k w'=>w'=w/\0<=k/\k<=j.aft.length/\upA 0 (j.aft.take k.toNat)/\last=zuu 0 (j.aft.take k.toNat),fun _ k _=>(j.aft.length-k).toNat,⟨rfl,by omega,by omega,by simp [upA],by simp [zuu]⟩,?_⟩
  rintro last k w' ⟨rfl,hk0,hk1,hup,rfl⟩
  have all:∀ e:Int,(upA 0 j.aft->False)->e≠0->(e=0↔okJ j):=fun e h he=>⟨fun h'=>absurd h' he,fun h'=>(h h'.up).elim⟩
  refine ⟨fun hlt=>?_,fun hge w14 h14=>⟨h14,0,rfl,fun _=>⟨hyes,⟨by omega,by omega⟩,zba.1 hz,hz2,by omega,by rw [List.take_of_length_le (by omega)] at hup; exact hup⟩,fun _=>rfl⟩⟩
  have g:=zes.idx hJ.2 hk0 hlt
  have hget:j.aft.take (k.toNat+1)=j.aft.take k.toNat++[j.aft.getD k.toNat 0]:=by
    rw [List.take_succ_eq_append_getElem (by omega)]
    congr 2
    simp [List.getD_eq_getElem?_getD,show k.toNat<j.aft.length by omega]
  refine ⟨fun hq=>zak g (zah.2 hq),hk0,hlt,_,g,fun hbad w15 h15=>⟨h15,4,rfl,all 4 (fun h=>?_) (by decide)⟩,fun hin=>⟨fun hle2 w15 h15=>⟨h15,6,rfl,all 6 (fun h=>?_) (by decide)⟩,fun hgt=>⟨i64 (by omega),⟨rfl,by omega,by omega,?_,?_⟩,by simp only []; omega⟩⟩⟩
  · have:=zzJ (k.toNat+1) h
    rw [hget,zox] at this
    omega
  · have:=zzJ (k.toNat+1) h
    rw [hget,zox] at this
    omega
  · rw [show (k+1).toNat=k.toNat+1 by omega,hget,zox]
    exact ⟨hup,hin.1,hin.2,hgt⟩
  · rw [show (k+1).toNat=k.toNat+1 by omega,hget]
    simp [zuu]
def zqg (l:List Int):List UInt8:=if l=[] then [45] else Lib.join (l.map Lib.itoa) [44]
theorem zBC {l:List Int} (h:l.length<=8) (hr:∀ x∈l,InR .i64 x):(zqg l).length<=200:=by
  unfold zqg
  split
  · simp
  · have:=zhD (c:=44) (m:=21) (l.map Lib.itoa) (fun y hy=>by
      obtain ⟨x,hx,rfl⟩:=List.mem_map.1 hy
      have:=zKU (hr x hx)
      exact Lib.itoa_length_le x this.1 this.2)
    rw [List.length_map] at this
    omega
theorem zIG (l:List Int) (p:Option Addr) (c:Nat) (w:World) (hp:zes .i64 w p l) (h8:l.length<=8) (hr:∀ x∈l,InR .i64 x) (g:GB w):FnP Tryz.prog zka #[.slice p l.length c] w fun v w'=>Ext w w'/\v=.string (ofL (zqg l)):=by
  refine zu3 p l.length c w _ ⟨fun h0 w0 e0=>⟨e0,?_⟩,fun hne=>?_⟩
  · have:l=[]:=List.eq_nil_of_length_eq_zero (by omega)
    subst this
    rfl
  have hl:l≠[]:=fun h=>hne (by rw [h]; rfl)
  refine ⟨fun out outl outc k w'=>Ext w w'/\0<=k/\k<=l.length/\Own w.heap.size w' zay 1 out outl outc (((l.take k.toNat).map Lib.itoa).map fun y=>Value.string (ofL y)),fun _ _ _ k _=>(l.length-k).toNat,⟨Ext.refl _,by omega,by omega,Own.nil⟩,?_⟩
  rintro out outl outc k w3 ⟨x3,hk0,hk1,o3⟩
  refine ⟨fun hlt=>?_,fun hge w4 h4=>?_⟩
  · have gc:=zes.idx (hp.ext x3) hk0 hlt
    have hol:=o3.leni
    have hm:=hr _ (zaq l 0 (i:=k.toNat) (by omega))
    refine ⟨fun hq=>zak gc (zah.2 hq),hk0,hlt,_,gc,fun w5 h5=>(znr _ (zKU hm) w5 ((g.ext x3).ext h5)).mono fun v w6 ⟨e6,hv⟩=>⟨e6,_,hv,?_⟩⟩
    simp only [List.length_map,List.length_take] at hol
    refine push zbW (by omega) o3 x3.size rfl (by intro u hu; simp [Value.cells] at hu; subst hu; rfl) (by omega) (by omega) (by omega) fun p' c' w' o' g' _=>⟨i64 (by omega),⟨g'.ext x3 o3,by omega,by omega,?_⟩,by simp only []; omega⟩
    rw [show (k+1).toNat=k.toNat+1 by omega,List.take_succ_eq_append_getElem (by omega),List.map_append,List.map_append]
    simpa [Value.cells,List.getD_eq_getElem?_getD,show k.toNat<l.length by omega] using o'
  · have hkl:k.toNat=l.length:=by omega
    rw [hkl,List.take_length] at o3
    refine (zBh (l.map Lib.itoa) 44 out outl outc w.heap.size zay w4 (o3.ext h4) (by simpa using hl) ?_).mono fun v w5 ⟨e5,hv⟩=>⟨e5,_,hv,fun w7 h7=>⟨x3.trans h7,?_⟩⟩
    · have:=zBC h8 hr
      unfold zqg at this
      rw [if_neg hl] at this
      omega
    · unfold zqg; rw [if_neg hl]
def jps (j:Jb):List (List UInt8):=[j.user.data.toList,Lib.itoa j.prio,zbo j.nd,zqg j.aft,txt j.ask]
def jtx (j:Jb):List UInt8:=Lib.join (jps j) [32]
theorem okJ.rng {j:Jb} (h:okJ j):∀ x∈j.aft,InR .i64 x:=fun x hx=>by have:=zgx h.up x hx; exact i64 (by omega)
theorem zG7 {x:Nd} (hx:rng x):(zbo x).length<=78:=by
  unfold zbo
  split
  · simp
  · exact zyZ hx
theorem zCO {j:Jb} (h:okJ j) (hn:nod j.ask<=1048576):∀ y∈jps j,y.length<=3000:=by
  have h1:=zcX h.user
  have h2:=Lib.itoa_length_le j.prio (by have:=h.prio; omega) (by have:=h.prio; omega)
  have h3:=zG7 h.nd.rng
  have h4:=zBC h.len h.rng
  obtain ⟨h5,h6⟩:=zoX.1 h.ask
  have h7:=ztk j.ask h6
  rw [zsc j.ask hn] at h5
  intro y hy
  unfold jps at hy
  simp only [List.mem_cons,List.not_mem_nil,or_false] at hy
  rcases hy with rfl|rfl|rfl|rfl|rfl
  · rw [zoM]; omega
  · omega
  · omega
  · omega
  · omega
theorem zw1 (j:Jb) (pa:Option Addr) (ca:Nat) (pf:Option Addr) (cf:Nat) (w:World) (hJ:IsJ w j pa ca pf) (hW:WfJ j) (hn:nod j.ask<=1048576) (g:GB w):FnP Tryz.prog zd9 #[jv j pa ca pf cf] w fun v w'=>Ext w w'/\∃ (t:ByteArray) (e:Int),v=.tuple #[.string t,.int .i64 e]/\(e=0↔okJ j)/\(e≠0->t=emS)/\(e=0->t=ofL (jtx j)):=by
  refine zxn j.user j.prio j.nd.c j.nd.m j.nd.g j.ask.k j.ask.key j.ask.val j.ask.n pa j.ask.xs.length ca pf j.aft.length cf w _ fun b0 hb0 w1 h1=>(zyY j pa ca pf cf w1 (hJ.ext h1) hW).mono fun v w2 ⟨e2,e,hv,he⟩=>⟨e2,e,hv,fun hne w4 h4=>⟨h4,emS,e,rfl,he,fun _=>rfl,fun h=>absurd h hne⟩,fun hz w4 h4=>?_⟩
  have ho:=he.1 hz
  refine (zC4 j.nd w4 (g.ext h4)).mono fun v w5 ⟨e5,t5,f5,hv,hf,_,ht5⟩=>⟨e5,t5,f5,hv,fun w8 h8=>?_⟩
  have ht5:=ht5 (hf.2 ho.nd)
  refine (zHo j.ask pa ca w8 (hJ.1.ext h8) hW.ask hn ⟨(g.ext h8).pow⟩).mono fun v w9 ⟨e9,hor⟩=>?_
  rcases hor with ⟨hne,_⟩|⟨_,hv⟩
  · exact absurd ho.ask hne
  refine ⟨e9,_,_,hv,fun w12 h12=>(znr j.prio (zKU hW.prio) w12 (g.ext h12)).mono fun v w13 ⟨e13,hv⟩=>⟨e13,_,hv,fun w15 h15=>(zIG j.aft pf cf w15 (hJ.2.ext h15) ho.len ho.rng (g.ext h15)).mono fun v w16 ⟨e16,hv⟩=>⟨e16,_,hv,fun w18 x18=>?_⟩⟩⟩
  have h18:=zaa x18
  refine zcC zbW [.string j.user,.string (ofL (Lib.itoa j.prio)),.string t5,.string (ofL (zqg j.aft)),.string (ofL (txt j.ask))] rfl rfl (by intro v hv; simp at hv; rcases hv with rfl|rfl|rfl|rfl|rfl<;>rfl) (by omega) (by omega) fun w19 o19 e19=>⟨e19,_,_,_,rfl,fun w23 h23=>?_⟩
  have o23:=(o19 w18.heap.size (Nat.le_refl _)).ext h23
  have hrow:([.string j.user,.string (ofL (Lib.itoa j.prio)),.string t5,.string (ofL (zqg j.aft)),.string (ofL (txt j.ask))]:List Value).flatMap (fun v=>v.cells.toList)=(jps j).map fun l=>Value.string (ofL l):=by
    rw [ht5]
    simp [Value.cells,jps,zb8]
  rw [hrow] at o23
  refine (zBh (jps j) 32 _ _ _ _ zay w23 o23 (by simp [jps]) ?_).mono fun v w24 ⟨e24,hv⟩=>⟨e24,_,hv,fun w26 h26=>⟨(h18.trans e19).trans h26,_,0,rfl,⟨fun _=>ho,fun _=>rfl⟩,fun h=>absurd rfl h,fun _=>rfl⟩⟩
  have:=zhD (c:=32) (m:=3000) (jps j) (zCO ho hn)
  simp only [jps,List.length_cons,List.length_nil] at this ⊢
  omega
theorem zsC {c d:UInt8}:∀ (L:List (List UInt8)),c∈Lib.join L [d]->c=d\/∃ y∈L,c∈y
  |[],h => by rw [Lib.join_nil] at h; cases h
  |[x],h => by rw [Lib.join_one] at h; exact .inr ⟨x,List.mem_cons_self ..,h⟩
  |x::y::L,h => by
    have e:Lib.join (x::y::L) [d]=x++d::Lib.join (y::L) [d]:=by
      rw [Lib.join_cons,Lib.join_cons]
      simp [Lib.joinTail]
    rw [e] at h
    rcases List.mem_append.1 h with h|h
    · exact .inr ⟨x,List.mem_cons_self ..,h⟩
    · rcases List.mem_cons.1 h with h|h
      · exact .inl h
      · rcases zsC (y::L) h with h|⟨z,hz,h⟩
        · exact .inl h
        · exact .inr ⟨z,List.mem_cons_of_mem _ hz,h⟩
theorem zy5 {s:ByteArray} (h:lbB s=true) {c:UInt8} (hc:okC (c.toNat:Int)=false):c∉s.data.toList:=fun hm=>by
  unfold lbB at h
  simp only [Bool.and_eq_true] at h
  have:=List.all_eq_true.1 h.2 (c.toNat:Int) (List.mem_map.2 ⟨c,hm,rfl⟩)
  rw [hc] at this; cases this
theorem un_not {s:ByteArray} (h:unB s=true) {c:UInt8} (h1:c∉zA3.data.toList) (h2:c∉memS.data.toList) (h3:c∉gpuS.data.toList):c∉s.data.toList:=by
  unfold unB at h
  simp only [Bool.or_eq_true,decide_eq_true_eq] at h
  rcases h with (h|h)|h<;>(subst h; assumption)
theorem zlj {n:Int} {c:UInt8} (h1:c≠45) (h2:c.toNat<48\/57<c.toNat):c∉Lib.itoa n:=fun hm=>by
  rcases zF5 c hm with h|h
  · exact h1 h
  · omega
theorem nd_not {x:Nd}:(32:UInt8)∉zbo x:=fun hm=>by
  unfold zbo at hm
  split at hm
  · simp at hm
  · rcases zsC _ hm with h|⟨y,hy,h⟩
    · exact absurd h (by decide)
    · obtain ⟨i,hi,rfl⟩:=List.mem_map.1 hy
      have hi:=(zpb hi).1
      unfold zgu at h
      rcases List.mem_append.1 h with h|h
      · revert h
        match i,hi with
        |0,_ => decide
        |1,_ => decide
        |2,_ => decide
      · rcases List.mem_cons.1 h with h|h
        · exact absurd h (by decide)
        · exact zlj (by decide) (by decide) h
theorem zIF {l:List Int}:(32:UInt8)∉zqg l:=fun hm=>by
  unfold zqg at hm
  split at hm
  · simp at hm
  · rcases zsC _ hm with h|⟨y,hy,h⟩
    · exact absurd h (by decide)
    · obtain ⟨x,hx,rfl⟩:=List.mem_map.1 hy
      exact zlj (by decide) (by decide) h
theorem zIN:∀ t:AT,zeS t=0->(32:UInt8)∉txt t:=by
  intro t
  induction t using AT.ind with
  |h k key val n xs ih =>
    intro he hm
    rcases zm7 he with ⟨key,h,hkey,ht⟩|⟨key,val,h,hkey,hval,ht⟩|⟨key,m,h,hkey,hm0,_,ht⟩|⟨x,h,hx,ht,hnx⟩|⟨k,x,y',hk',h,hx,hy,ht,hnx⟩
    · rw [ht] at hm
      rcases List.mem_cons.1 hm with h|h
      · exact absurd h (by decide)
      · exact zy5 hkey (by decide) h
    · rw [ht] at hm
      rcases List.mem_append.1 hm with h|h
      · exact zy5 hkey (by decide) h
      · rcases List.mem_cons.1 h with h|h
        · exact absurd h (by decide)
        · exact zy5 hval (by decide) h
    · rw [ht] at hm
      rcases List.mem_append.1 hm with h|h
      · exact un_not hkey (by decide) (by decide) (by decide) h
      · simp only [List.mem_cons] at h
        rcases h with h|h|h
        · exact absurd h (by decide)
        · exact absurd h (by decide)
        · exact zlj (by decide) (by decide) h
    · injection h with _ _ _ _ h5
      rw [ht] at hm
      rcases List.mem_cons.1 hm with h|h
      · exact absurd h (by decide)
      · exact ih x (by rw [h5]; simp) hx h
    · injection h with _ _ _ _ h5
      rw [ht] at hm
      simp only [List.mem_cons,List.mem_append,List.not_mem_nil,or_false] at hm
      rcases hm with h|h|h|h|h
      · exact absurd h (by decide)
      · exact ih x (by rw [h5]; simp) hx h
      · rcases hk' with rfl|rfl
        · exact absurd h (by decide)
        · exact absurd h (by decide)
      · exact ih y' (by rw [h5]; simp) hy h
      · exact absurd h (by decide)
theorem zJJ {j:Jb} (h:okJ j):∀ y∈jps j,(32:UInt8)∉y:=by
  intro y hy
  unfold jps at hy
  simp only [List.mem_cons,List.not_mem_nil,or_false] at hy
  rcases hy with rfl|rfl|rfl|rfl|rfl
  · exact zy5 h.user (by decide)
  · exact zlj (by decide) (by decide)
  · exact nd_not
  · exact zIF
  · exact zIN _ (zoX.1 h.ask).2
theorem zyo {l:List Int} (h:zqg l=[45]):l=[]\/∃ x,l=[x]/\Lib.itoa x=[45]:=by
  unfold zqg at h
  split at h
  · rename_i h0; exact .inl h0
  · cases l with
    |nil => exact .inl rfl
    |cons x r =>
      cases r with
      |nil => exact .inr ⟨x,rfl,by simpa [Lib.join_one] using h⟩
      |cons y r =>
        simp only [List.map_cons] at h
        rw [Lib.join_cons] at h
        have hx:Lib.itoa x≠[]:=by
          unfold Lib.itoa
          split
          · simp
          · exact zoU _
        have hy:Lib.joinTail [44] (Lib.itoa y::r.map Lib.itoa)≠[]:=by
          intro h0
          have:=Lib.joinTail_length [44] (Lib.itoa y::r.map Lib.itoa)
          rw [h0] at this
          simp at this
          omega
        have:=congrArg List.length h
        rw [List.length_append] at this
        have h1:=List.length_pos_iff.2 hx
        have h2:=List.length_pos_iff.2 hy
        simp at this
        omega
def zdr:Jb:=⟨emS,0,za6,zjh,[]⟩
theorem zh6:WfJ zdr:=⟨by decide,i64 (by decide),fun i hi=>by
  match i,hi with
  |0,_ => simp [zcd,zdr,za6]
  |1,_ => simp [zcd,zdr,za6]
  |2,_ => simp [zcd,zdr,za6],zqe,by decide,fun x hx => by cases hx⟩
theorem zoz (w:World):IsJ w zdr none 0 none:=⟨zl2 w,zau.nil⟩
structure JT (s:ByteArray) (j:Jb):Prop where
  ok:okJ j
  nod:nod j.ask<=1048576
  is:s=ofL (jtx j)
  ask:(txt j.ask).length<=2000
theorem zga {s:ByteArray} {j:Jb} (h:JT s j):Lib.countB s (one 32)=4/\Lib.splitB (one 32) 0 4 s=(jps j).map ofL:=by
  have:=zdv (c:=32) [Lib.itoa j.prio,zbo j.nd,zqg j.aft,txt j.ask] j.user.data.toList (by simpa [jps] using zJJ h.ok)
  rw [h.is]
  exact this
theorem zpT {l:List Int} (hl:l≠[]):Lib.countB (ofL (zqg l)) (one 44)+1=l.length/\Lib.splitB (one 44) 0 (Lib.countB (ofL (zqg l)) (one 44)) (ofL (zqg l))=(l.map Lib.itoa).map ofL:=by
  cases l with
  |nil => exact absurd rfl hl
  |cons a r =>
    have h:=zdv (c:=44) (r.map Lib.itoa) (Lib.itoa a) (by
      intro y hy
      rw [<- List.map_cons] at hy
      obtain ⟨x,_,rfl⟩:=List.mem_map.1 hy
      exact zlj (by decide) (by decide))
    have e:zqg (a::r)=Lib.join (Lib.itoa a::r.map Lib.itoa) [44]:=by unfold zqg; rw [if_neg (by simp)]; rfl
    rw [e,h.1]
    refine ⟨by simp,?_⟩
    rw [List.length_map] at h ⊢
    simpa using h.2
end Go.Proofs.YtcceeahmcecbnaaGreatDoor
namespace Go.Proofs.YtcceeahmcecbnaaGreatDoor
open Go.Sx Go.RowKit Go.ChangeShapes Go.WideShapes Go.ChangeAt
section
variable {P:Program} {H:Type} {enc:TypeId×Value->H}
end
section
variable {P:Program} {H:Type} {enc:TypeId×Value->H}
end
theorem zCN {W:World} {j_0:ByteArray} (h0:j_0.size<=9223372036854775807) {j_1:Int} (h1:InR .i64 j_1) {j_2:Int} (h2:InR .i64 j_2) {j_3:Int} (h3:InR .i64 j_3) {j_4:Int} (h4:InR .i64 j_4) {j_5:Int} (h5:InR .i64 j_5) {j_6:ByteArray} (h6:j_6.size<=9223372036854775807) {j_7:ByteArray} (h7:j_7.size<=9223372036854775807) {j_8:Int} (h8:InR .i64 j_8)
    {p:Option Addr} {l c:Nat} (hA:zaH Tryz.prog W zdJ p l c) {q:Option Addr} {m d:Nat} (hF:zaH Tryz.prog W zfJ q m d) :
    ∃ j:Jb,IsJ W j p c q/\WfJ j/\jcs j p c q d=[.string j_0,.int .i64 j_1,.int .i64 j_2,.int .i64 j_3,.int .i64 j_4,.int .i64 j_5,.string j_6,.string j_7,.int .i64 j_8,.slice p l c,.slice q m d]:=by
  obtain ⟨x,rfl,rfl,rfl,rfl,rfl,hT,hW⟩:=zIM hA h5 h6 h7 h8
  obtain ⟨xs,rfl,hx,hi⟩:=hF.ints (k:=.i64) (by kernel_rfl) (by kernel_rfl)
  refine ⟨⟨j_0,j_1,⟨j_2,j_3,j_4⟩,x,xs⟩,⟨hT,hi⟩,⟨h0,h1,fun i hi=>?_,hW,by have:=hF.le; have:=hF.max; show xs.length<=_; omega,hx⟩,rfl⟩
  match i,hi with
  |0,_ => exact zKU h2
  |1,_ => exact zKU h3
  |2,_ => exact zKU h4
theorem zsz {P:Program} {W:World} {l:List (String×DataW Unit)} (h:laidMetH P l W) (hp:(l.all fun x=>x.2.handleName?.isNone)=true) {name:String} {zs:List Int} {k:IntKind}
    (hm:(name,Lib.tabData k zs)∈l) {g:Nat} {t e:TypeId} {n:Nat} (hg:P.globalNamed name=some g) (hty:(P.globals[g]?).map (·.type)=some t)
    (ht:P.underlying t=some (.array n e)) (he:P.underlying e=some (.int k)) (hce:P.cellsOf e=1) (hct:P.cellsOf t=n):Lib.TabIs P W name k zs:=by
  have hnone:(l.filter fun x=>x.2.handleName?.isSome)=[]:=by
    rw [List.filter_eq_nil_iff]
    intro a ha hs
    have:=List.all_eq_true.1 hp a ha
    cases hh:a.2.handleName?<;>simp_all
  have h:laidMet P l W:=by
    unfold laidMetH at h
    rw [hnone] at h
    exact h
  obtain ⟨ps,hL,_⟩:=h
  obtain ⟨g',t',cs,fuel,p,h1,h2,h3,h4⟩:=zeC hL _ hm
  obtain rfl:=Option.some.inj (hg.symm.trans h1)
  obtain rfl:=Option.some.inj (hty.symm.trans h2)
  unfold Lib.TabIs
  rw [h3,<- Lib.cells_of_tab ht he hce hct h4]
theorem zy3 {P:Program} {W:World} {l:List (String×DataW Unit)} (h:laidMetH P l W) (hp:(l.all fun x=>x.2.handleName?.isNone)=true) {name:String} {d:DataW Unit}
    (hm:(name,d)∈l) {g:Nat} {t:TypeId} (hg:P.globalNamed name=some g) (hty:(P.globals[g]?).map (·.type)=some t) (ht:zuq P t=true):∃ v,cell W (some (⟨g,0,none⟩:Addr)) 0=some v/\isErr v:=by
  have hnone:(l.filter fun x=>x.2.handleName?.isSome)=[]:=by
    rw [List.filter_eq_nil_iff]
    intro a ha hs
    have:=List.all_eq_true.1 hp a ha
    cases hh:a.2.handleName?<;>simp_all
  have h:laidMet P l W:=by
    unfold laidMetH at h
    rw [hnone] at h
    exact h
  obtain ⟨ps,hL,_⟩:=h
  obtain ⟨g',t',cs,fuel,p,h1,h2,h3,h4⟩:=zeC hL _ hm
  obtain rfl:=Option.some.inj (hg.symm.trans h1)
  obtain rfl:=Option.some.inj (hty.symm.trans h2)
  have h5:=World.var?_cell hg h3 0
  unfold zuq at ht
  split at ht
  · rename_i m hu
    cases fuel with
    |zero => simp [DataW.trod] at h4
    |succ n =>
      unfold DataW.trod at h4
      rw [hu] at h4
      generalize hL':cs.toList=L at h4
      have hc:cs[0]?=L[0]?:=by rw [<- hL']; simp
      have fin:∀ v,L=[v]->isErr v->∃ v,cell W (some (⟨g,0,none⟩:Addr)) 0=some v/\isErr v:=fun v hv he=>by
        refine ⟨v,?_,he⟩
        simp only [cell,Option.bind_some,add_zero]
        rw [h5,hc,hv]; rfl
      match L,h4,fin with
      |[],h4,_ => simp at h4
      |[.nilIface],_,fin => exact fin _ rfl (.inl rfl)
      |[.iface a b],_,fin => exact fin _ rfl (.inr ⟨a,b,rfl⟩)
      |x::y::r,h4,_ => simp at h4
      |[.int _ _],h4,_|[.bool _],h4,_|[.string _],h4,_|[.float _ _],h4,_|[.complex _ _ _],h4,_|[.pointer _],h4,_|[.slice _ _ _],h4,_|[.agg _],h4,_|[.tuple _],h4,_ => simp at h4
      |[x],h4,fin => cases x<;>first|exact fin _ rfl (.inl rfl)|exact fin _ rfl (.inr ⟨_,_,rfl⟩)|simp at h4
  · cases ht
theorem zun {P:Program} {w:World} {g:Nat} {t:TypeId} {k:IntKind} {zero:Array Value} (h:w.ShapedOpen P) (hg:g<P.globals.size)
    (h0:((begin P (fun _ _=>0) default).world.heap[g]?).bind Obj.row?=some (zero,t)) (hz:zero.size=1)
    (hb:P.buildable t=true) (hc:P.cellTypes P.depth t=some [t]) (hu:P.underlying t=some (.int k)):∃ m,cell w (some (⟨g,0,none⟩:Addr)) 0=some (.int k m):=by
  obtain ⟨cs,hh,hs,hr⟩:=h.1 g zero t hg h0
  obtain ⟨ts,hts,_,hall⟩:=hr hb
  rw [hc] at hts
  cases hts
  have h1:0<cs.size:=by omega
  obtain ⟨u,hu',hok⟩:=hall 0 cs[0] (by simp [h1])
  have:u=t:=by simpa using hu'.symm
  subst this
  have hcell:cell w (some (⟨g,0,none⟩:Addr)) 0=some cs[0]:=by simp [cell,add_zero,World.cell?,hh,h1]
  rw [hcell]
  unfold Cell.ok at hok
  rw [hu] at hok
  cases hv:cs[0]<;>rw [hv] at hok<;>first|(simp at hok; obtain ⟨rfl,_⟩:=hok; exact ⟨_,rfl⟩)|(simp at hok; subst hok; exact ⟨_,rfl⟩)|simp at hok
theorem gb_of {W:World} {l:List (String×DataW Unit)} (h:laidMetH Tryz.prog l W) (hsp:W.ShapedOpen Tryz.prog) (hp:(l.all fun x=>x.2.handleName?.isNone)=true)
    (h2 : ("internal/strconv.uint64pow10", (Rows.laid_internal_strconv_uint64pow10 : DataW Unit)) ∈ l)
    (h3 : ("strconv.ErrRange", (Rows.laid_strconv_ErrRange : DataW Unit)) ∈ l) (h4 : ("strconv.ErrSyntax", (Rows.laid_strconv_ErrSyntax : DataW Unit)) ∈ l) : GB W :=
  ⟨zsz h hp (k := .u64) (zs := Lib.pow10Tab) (by exact h2) (g := (Tryz.prog.globalNamed "internal/strconv.uint64pow10").getD 0) (t := (Tryz.prog.globals[(Tryz.prog.globalNamed "internal/strconv.uint64pow10").getD 0]?).elim 0 (·.type)) (e := zE4) (n := 20) (by kernel_rfl) (by kernel_rfl) (by kernel_rfl) (by kernel_rfl) (by kernel_rfl) (by kernel_rfl),
    zun (zero:=#[.int .i64 0]) hsp (g:=5) (t:=(Tryz.prog.globals[5]?).elim 0 (·.type)) (of_decide_eq_true (by kernel_rfl)) (by kernel_rfl) rfl (by kernel_rfl) (by kernel_rfl) (by kernel_rfl),
    zy3 h hp h4 (g:=2) (t:=(Tryz.prog.globals[2]?).elim 0 (·.type)) (by kernel_rfl) (by kernel_rfl) (by kernel_rfl),
    zy3 h hp h3 (g:=3) (t:=(Tryz.prog.globals[3]?).elim 0 (·.type)) (by kernel_rfl) (by kernel_rfl) (by kernel_rfl)⟩
end Go.Proofs.YtcceeahmcecbnaaGreatDoor
namespace Go.Proofs.YtcceeahmcecbnaaGreatDoor
open Go.Sx Go.RowKit
def num (n:Int) (k:Nat):Bs:=(List.range k).map fun (j:Nat)=>ub (zaw .shr .i64 n (8*((k:Int)-1-j)))
structure Ev where
  kind:Int
  job:Jb
  n:Int
  id:Int
  ok:Bool
def enc (x:Ev):Bs:=ub x.kind::(if x.kind=1 then jtx x.job else if x.kind=2 then num x.n 4 else if x.kind=4 then num x.id 2++[if x.ok=true then 1 else 0] else if x.kind=5 then num x.id 2 else [])
def zCj:Int->List Int->Int
  |_,[] => 0
  |a,x::r => if x<1\/60<x then 4 else if x<=a then 6 else zCj x r
theorem zwF:∀ (l:List Int) (a:Int),zCj a l=0↔upA a l
  |[],a => by simp [zCj,upA]
  |x::r,a => by
    have ih:=zwF r x
    unfold zCj upA
    split
    · rename_i h; constructor
      · intro h2; cases h2
      · intro h2; omega
    · split
      · rename_i h; constructor
        · intro h2; cases h2
        · intro h2; omega
      · rw [ih]; constructor
        · intro h2; exact ⟨by omega,by omega,by omega,h2⟩
        · intro h2; exact h2.2.2.2
def ztF (j:Jb):Int:=if lbB j.user=false then 3 else if j.prio < -1000\/1000<j.prio then 4 else if zyO j.nd≠0 then zyO j.nd else if zl3 j.ask≠0 then zl3 j.ask else if 8<j.aft.length then 2 else zCj 0 j.aft
theorem ziO {j:Jb}:ztF j=0↔okJ j:=by
  unfold ztF
  constructor
  · intro h
    split at h
    · cases h
    rename_i h1
    split at h
    · cases h
    rename_i h2
    split at h
    · rename_i h3; exact absurd h h3
    rename_i h3
    split at h
    · rename_i h4; exact absurd h h4
    rename_i h4
    split at h
    · cases h
    rename_i h5
    exact ⟨by simpa using h1,by omega,zba.1 (by omega),by omega,by omega,(zwF _ _).1 h⟩
  · intro h
    have hp:=h.prio
    have hl:=h.len
    rw [if_neg (by rw [h.user]; simp),if_neg (by omega),if_neg (fun g=>g (zba.2 h.nd)),if_neg (fun g=>g h.ask),if_neg (by omega)]
    exact (zwF _ _).2 h.up
theorem zCK (j:Jb) (pa:Option Addr) (ca:Nat) (pf:Option Addr) (cf:Nat) (w:World) (hJ:IsJ w j pa ca pf) (hW:WfJ j):FnP Tryz.prog zdl #[jv j pa ca pf cf] w fun v w'=>Ext w w'/\v=.int .i64 (ztF j):=by
  refine znB j.user j.prio j.nd.c j.nd.m j.nd.g j.ask.k j.ask.key j.ask.val j.ask.n pa j.ask.xs.length ca pf j.aft.length cf w _ fun b0 hb0 w1 h1=>(zgh j.user hW.user w1).mono fun v w2 ⟨e2,hv⟩=>⟨e2,_,hv,fun hno w4 h4=>?_,fun hyes=>⟨fun hbad w4 h4=>?_,fun hpr w4 h4=>?_⟩⟩
  · exact ⟨h4,by unfold ztF; rw [if_pos hno]⟩
  · exact ⟨h4,by unfold ztF; rw [if_neg (by rw [hyes]; simp),if_pos (by omega)]⟩
  refine (zet j.nd w4).mono fun v w5 ⟨e5,hv⟩=>⟨e5,_,hv,fun hne w7 h7=>⟨h7,by unfold ztF; rw [if_neg (by rw [hyes]; simp),if_neg (by omega),if_pos hne]⟩,fun hz w7 h7=>?_⟩
  refine (zoB j.ask pa ca w7 (hJ.1.ext h7) hW.ask).mono fun v w8 ⟨e8,hv⟩=>⟨e8,_,hv,fun hne w10 h10=>⟨h10,by unfold ztF; rw [if_neg (by rw [hyes]; simp),if_neg (by omega),if_neg (by omega),if_pos hne]⟩,fun hz2=>⟨fun hbig w10 h10=>⟨h10,by unfold ztF; rw [if_neg (by rw [hyes]; simp),if_neg (by omega),if_neg (by omega),if_neg (by omega),if_pos (by omega)]⟩,fun hle=>?_⟩⟩
  have hE:ztF j=zCj 0 j.aft:=by unfold ztF; rw [if_neg (by rw [hyes]; simp),if_neg (by omega),if_neg (by omega),if_neg (by omega),if_neg (by omega)]
  rw [hE]
  refine ⟨fun last k w'=>w'=w/\0<=k/\k<=j.aft.length/\zCj 0 j.aft=zCj last (j.aft.drop k.toNat),fun _ k _=>(j.aft.length-k).toNat,⟨rfl,by omega,by omega,by simp⟩,?_⟩
  rintro last k w' ⟨rfl,hk0,hk1,hup⟩
  refine ⟨fun hlt=>?_,fun hge w14 h14=>⟨h14,by rw [hup,List.drop_eq_nil_of_le (by omega)]; rfl⟩⟩
  have g:=zes.idx hJ.2 hk0 hlt
  have hdrop:j.aft.drop k.toNat=j.aft.getD k.toNat 0::j.aft.drop (k.toNat+1):=by
    rw [List.drop_eq_getElem_cons (by omega)]
    congr 1
    simp [List.getD_eq_getElem?_getD,show k.toNat<j.aft.length by omega]
  rw [hdrop] at hup
  refine ⟨fun hq=>zak g (zah.2 hq),hk0,hlt,_,g,fun hbad w15 h15=>⟨h15,?_⟩,fun hin=>⟨fun hle2 w15 h15=>⟨h15,?_⟩,fun hgt=>⟨i64 (by omega),⟨rfl,by omega,by omega,?_⟩,by simp only []; omega⟩⟩⟩
  · rw [hup,zCj,if_pos (by omega)]
  · rw [hup,zCj,if_neg (by omega),if_pos (by omega)]
  · rw [show (k+1).toNat=k.toNat+1 by omega,hup,zCj,if_neg (by omega),if_neg (by omega)]
theorem zHT {w:World} {x:Nd} {K:Option Addr->World->Prop} (h:∀ p w',Ext w w'->zBj w' p x->p≠none->K p w'):New w zid (zv9 x) K :=
  zbC (by intro v hv; simp at hv; rcases hv with rfl|rfl|rfl<;>rfl) fun w' o e=>h _ w' e (o 0 (Nat.zero_le _)).cells (by simp)
abbrev NdsAt (w:World) (p:Option Addr) (L:List Nd):Prop:=zgE 3 zv9 w p L
def zCi (L:List Nd):Int:=if ∀ x∈L,okN x then 0 else 4
theorem zFK {L:List Nd}:zCi L=0↔∀ x∈L,okN x:=by unfold zCi; split<;>simp_all
theorem zC5 (p:Option Addr) (c:Nat) (L:List Nd) (h63:(L.length:Int)<=9223372036854775807) (w:World) (h:NdsAt w p L):FnP Tryz.prog zch #[.slice p L.length c] w fun v w'=>Ext w w'/\v=.int .i64 (zCi L):=by
  refine zqN p L.length c w _ ⟨fun k w'=>w'=w/\0<=k/\k<=L.length/\∀ i:Nat,(i:Int)<k->okN (L.getD i default),fun k _=>(L.length-k).toNat,⟨rfl,by omega,by omega,fun i hi=>by omega⟩,?_⟩
  rintro k w ⟨rfl,hk0,hk1,hall⟩
  refine ⟨fun hlt=>?_,fun hge w3 h3=>⟨h3,?_⟩⟩
  · have g0:=h.idx default hk0 hlt (j:=0) rfl
    have g1:=h.idx default hk0 hlt (j:=1) rfl
    have g2:=h.idx default hk0 hlt (j:=2) rfl
    refine ⟨fun hq=>zak g0 (zah.2 hq),hk0,hlt,zak g0,_,g0,_,g1,_,g2,fun b6 _=>fun w7 h7=>?_⟩
    refine (zet (L.getD k.toNat default) w7).mono fun v w8 ⟨e8,hv⟩=>⟨e8,_,hv,fun hne w10 h10=>⟨h10,?_⟩,fun he=>⟨i64 (by omega),⟨rfl,by omega,by omega,fun i hi=>?_⟩,by simp only []; omega⟩⟩
    · have hno:¬ okN (L.getD k.toNat default):=fun h=>hne (zba.2 h)
      rw [zmn hno]
      congr 1
      exact (if_neg fun hx=>hno (hx _ (zaq L default (by omega)))).symm
    · by_cases hik:(i:Int)<k
      · exact hall i hik
      · obtain rfl:i=k.toNat:=by omega
        exact zba.1 he
  · congr 1
    refine (zFK.2 fun x hx=>?_).symm
    obtain ⟨i,hi,rfl⟩:=List.getElem_of_mem hx
    have:=hall i (by omega)
    simpa [List.getD_eq_getElem?_getD,hi] using this
theorem zsE (a b:Nd) {ns:List Nat} {w:World} {K:Int->World->Prop} (hk:∀ w',Ext w w'->K (if okN a/\okN b then 0 else 4) w') :
    ∀ w3,zag [] ns w w3->Run Tryz.prog (.buildSlice zBq 2 [(0,nv a),(1,nv b)]) w3 fun v4 w4=>Ext w3 w4/\∃ t5:Option Addr,∃ tl6:Nat,∃ tc7:Nat,v4=.slice t5 tl6 tc7 /\
      ∀ w8,Ext w4 w8->FnP Tryz.prog zch #[.slice t5 tl6 tc7] w8 fun v9 w9=>Ext w8 w9/\∃ t10:Int,v9=.int .i64 t10/\K t10 w4:=by
  intro w3 x3
  refine zcC zt1 [nv a,nv b] rfl rfl (by intro v hv; simp at hv; rcases hv with rfl|rfl<;>rfl) (by omega) (by omega) fun w4 o4 e4=>⟨e4,_,_,_,rfl,fun w8 h8=>?_⟩
  have o8:=(o4 0 (Nat.zero_le _)).ext h8
  have hL:NdsAt w8 (some ⟨w3.heap.size,0,none⟩) [a,b]:=Own.recs (enc:=zv9) (xs:=[a,b]) o8 fun _ _=>rfl
  refine (zC5 _ 2 [a,b] (by simp) w8 hL).mono fun v w9 ⟨e9,hv⟩=>⟨e9,_,hv,?_⟩
  have:zCi [a,b]=if okN a/\okN b then 0 else 4:=by
    unfold zCi; simp
  rw [this]
  exact hk w4 ((zaa x3).trans e4)
theorem zC9 (a b:Nd) (w:World):FnP Tryz.prog zhl #[nv a,nv b] w fun v w'=>Ext w w'/\v=.bool (decide (zjU a b)):=by
  refine zu6 a.c a.m a.g b.c b.m b.g w _ fun b0 _ b1 _ w2 h2=>⟨h2,?_⟩
  congr 1
  unfold zjU
  by_cases h1:a.c<=b.c<;>by_cases h2:a.m<=b.m<;>by_cases h3:a.g<=b.g<;>simp [h1,h2,h3]
theorem zw4 (a b:Nd) (w:World):FnP Tryz.prog zhj #[nv a,nv b] w fun v w'=>Ext w w'/\∃ t e,v=.tuple #[.bool t,.int .i64 e]/\((okN a/\okN b/\e=0/\t=decide (zjU a b))\/(¬ (okN a/\okN b)/\e=4/\t=false)):=by
  refine zu4 a.c a.m a.g b.c b.m b.g w _ fun b0 hb0 b1 hb1=>?_
  refine zsE a b fun w3 e3=>?_
  by_cases hok:okN a/\okN b
  · rw [if_pos hok]
    refine ⟨fun h=>absurd rfl h,fun _ w10 h10=>(zC9 a b w10).mono fun v w11 ⟨e11,hv⟩=>⟨e11,_,hv,fun w13 h13=>⟨e3.trans h13,_,_,rfl,.inl ⟨hok.1,hok.2,rfl,rfl⟩⟩⟩⟩
  · rw [if_neg hok]
    exact ⟨fun _ w10 h10=>⟨e3.trans h10,_,_,rfl,.inr ⟨hok,rfl,rfl⟩⟩,fun h=>by omega⟩
theorem nAdd_k (a b:Nd) (w:World):FnP Tryz.prog zjm #[nv a,nv b] w fun v w'=>Ext w w'/\∃ s e,v=.tuple #[nv s,.int .i64 e] /\
    ((okN a/\okN b/\okN (zv7 a b)/\e=0/\s=zv7 a b)\/(¬ (okN a/\okN b)/\e=4/\s=za6)\/(okN a/\okN b/\¬ okN (zv7 a b)/\e=2/\s=za6)):=by
  refine zxo a.c a.m a.g b.c b.m b.g w _ fun b0 hb0 b1 hb1 b2 hb2=>?_
  refine zsE a b fun w4 e4=>?_
  by_cases hok:okN a/\okN b
  · rw [if_pos hok]
    obtain ⟨⟨a1,a2,a3⟩,⟨c1,c2,c3⟩⟩:=id hok
    refine ⟨fun h=>absurd rfl h,fun _=>⟨i64 (by omega),i64 (by omega),i64 (by omega),fun b11 _ w12 h12=>?_⟩⟩
    refine (zet (zv7 a b) w12).mono fun v w13 ⟨e13,hv⟩=>⟨e13,_,hv,fun hne w15 x15=>⟨zwG x15 e4 hb2,za6,_,rfl,.inr (.inr ⟨hok.1,hok.2,fun h=>hne (zba.2 h),rfl,rfl⟩)⟩,fun he w15 x15=>⟨zwG x15 e4 hb2,zv7 a b,_,rfl,.inl ⟨hok.1,hok.2,zba.1 he,rfl,rfl⟩⟩⟩
  · rw [if_neg hok]
    exact ⟨fun _ w11 x11=>⟨zwG x11 e4 hb2,za6,_,rfl,.inr (.inl ⟨hok,rfl,rfl⟩)⟩,fun h=>by omega⟩
theorem zzc (a b:Nd) (w:World):FnP Tryz.prog zct #[nv a,nv b] w fun v w'=>Ext w w'/\∃ s e,v=.tuple #[nv s,.int .i64 e] /\
    ((okN a/\okN b/\zjU b a/\e=0/\s=zii a b)\/(¬ (okN a/\okN b)/\e=4/\s=za6)\/(okN a/\okN b/\¬ zjU b a/\e=10/\s=za6)):=by
  refine zxp a.c a.m a.g b.c b.m b.g w _ fun b0 hb0 b1 hb1 b2 hb2=>?_
  refine zsE a b fun w4 e4=>?_
  by_cases hok:okN a/\okN b
  · rw [if_pos hok]
    obtain ⟨⟨a1,a2,a3⟩,⟨c1,c2,c3⟩⟩:=id hok
    refine ⟨fun h=>absurd rfl h,fun _ w11 h11=>?_⟩
    refine (zC9 b a w11).mono fun v w12 ⟨e12,hv⟩=>⟨e12,_,hv,fun hf w14 x14=>⟨zwG x14 e4 hb2,za6,_,rfl,.inr (.inr ⟨hok.1,hok.2,by simpa using hf,rfl,rfl⟩)⟩,fun hf=>⟨i64 (by omega),i64 (by omega),i64 (by omega),fun w14 x14=>⟨zwG x14 e4 hb2,zii a b,_,rfl,.inl ⟨hok.1,hok.2,by simpa using hf,rfl,rfl⟩⟩⟩⟩
  · rw [if_neg hok]
    exact ⟨fun _ w11 x11=>⟨zwG x11 e4 hb2,za6,_,rfl,.inr (.inl ⟨hok,rfl,rfl⟩)⟩,fun h=>by omega⟩
def zv3 (h:Ht):Prop:=h.name.size<=9223372036854775807/\h.labels.length<=9223372036854775807/\∀ l∈h.labels,l.key.size<=9223372036854775807/\l.val.size<=9223372036854775807
def zjE (w:World) (p:Option Addr) (L:List Ht):Prop:=∀ (i:Nat) (h:Ht),L[i]?=some h->∃ q c,(∀ (j:Nat) u,(zEJ h q c)[j]?=some u->Go.Sx.cell w p (i*8+j)=some u)/\Lbs w q h.labels
theorem zjE.ext {w w':World} {p:Option Addr} {L:List Ht} (h:zjE w p L) (he:Ext w w'):zjE w' p L:=fun i x hx=>by
  obtain ⟨q,c,h1,h2⟩:=h i x hx
  exact ⟨q,c,fun j u hu=>zaI he (h1 j u hu),h2.ext he⟩
theorem zjE.at {w:World} {p:Option Addr} {L:List Ht} (h:zjE w p L) {k:Int} (h0:0<=k) (hk:k<L.length):∃ q c,p≠none/\pIdx p k 8≠none/\(∀ (j:Nat) u,(zEJ (L.getD k.toNat default) q c)[j]?=some u->Go.Sx.cell w (pIdx p k 8) j=some u)/\Lbs w q (L.getD k.toNat default).labels:=by
  obtain ⟨q,c,h1,h2⟩:=h k.toNat _ (getElem?_getD L default (by omega))
  have g:∀ (j:Nat) u,(zEJ (L.getD k.toNat default) q c)[j]?=some u->Go.Sx.cell w (pIdx p k 8) j=some u:=fun j u hu=>by rw [zae]; exact h1 j u hu
  have g0:=g 0 _ rfl
  exact ⟨q,c,fun hq=>zak g0 (zah.2 hq),zak g0,g,h2⟩
def okLb (l:List Lb):Prop:=(∀ x∈l,lbB x.key=true/\lbB x.val=true)/\(l.map (·.key)).Nodup
def zGs (h:Ht):Prop:=lbB h.name=true/\h.labels.length<=8/\okLb h.labels/\okN h.has/\okN h.used/\zjU h.used h.has
def zkt (L:List Ht):Prop:=L.length<=30/\(∀ h∈L,zGs h)/\(L.map (·.name)).Nodup
def zio (w:World) (r:Nat) (S:List ByteArray):Prop:=∃ m:List (ByteArray×Value),zc9 Value.string w r m/\∀ a,(a∈S/\zir m a=some (.bool true))\/(a∉S/\zir m a=none)
theorem zio.ext {w w':World} {r:Nat} {S:List ByteArray} (h:zio w r S) (he:Ext w w'):zio w' r S:=by
  obtain ⟨m,h1,h2⟩:=h
  exact ⟨m,h1.ext he,h2⟩
theorem zio.lt {w:World} {r:Nat} {S:List ByteArray} (h:zio w r S):r<w.heap.size:=by
  obtain ⟨m,h1,h2⟩:=h
  exact h1.lt
theorem zio.grew {w w':World} {r s:Nat} {S:List ByteArray} (h:zio w r S) (hr:r≠s) (hg:zcu w w' (some ⟨s,0,none⟩) (some ⟨s,0,none⟩)):zio w' r S:=by
  obtain ⟨m,h1,h2⟩:=h
  exact ⟨m,h1.grew (fun x hx=>by obtain rfl:=Option.some.inj hx; exact fun he=>hr he.symm) hg,h2⟩
theorem zzx {w:World} {K:Value->World->Prop} (hk:∀ w',zio w' w.heap.size []->Ext w w'->K (.map (some w.heap.size)) w'):Run Tryz.prog (.makeMap zee) w K :=
  zkD (enc:=Value.string) fun w' h e=>hk w' ⟨[],h,fun a=>.inr ⟨by simp,rfl⟩⟩ e
theorem zou {w:World} {r:Nat} {S:List ByteArray} (h:zio w r S) (a:ByteArray) {K:Value->World->Prop} (hk:∀ b:Bool,(b=true↔a∈S)->K (.bool b) w):Run Tryz.prog (.lookup zee (.map (some r)) (.string a) false) w K:=by
  obtain ⟨m,h1,h2⟩:=h
  obtain ⟨i,hi,hz⟩:∃ i,Tryz.prog.info? ztK=some i/\i.zero=some (.bool false):=by
    have:(Tryz.prog.info? ztK).map (·.zero)=some (some (.bool false)):=by kernel_rfl
    obtain ⟨i,h1,h2⟩:=Option.map_eq_some_iff.1 this
    exact ⟨i,h1,h2⟩
  refine zmZ (enc:=Value.string) (zsy (k:=zay) (by kernel_rfl)) (e:=ztK) (by kernel_rfl) hi hz h1 ?_
  rcases h2 a with ⟨h3,h4⟩|⟨h3,h4⟩
  · rw [h4]; exact hk true ⟨fun _=>h3,fun _=>rfl⟩
  · rw [h4]; exact hk false ⟨fun h=>(by cases h),fun h=>absurd h h3⟩
theorem ztc {w:World} {r:Nat} {S:List ByteArray} (h:zio w r S) (a:ByteArray) {K:Value->World->Prop} (hk:∀ w',zio w' r (S++[a])->zcu w w' (some ⟨r,0,none⟩) (some ⟨r,0,none⟩)->K undef w'):Run Tryz.prog (.mapUpdate zee (.map (some r)) (.string a) (.bool true)) w K:=by
  obtain ⟨m,h1,h2⟩:=h
  refine zhR (enc:=Value.string) (zsy (k:=zay) (by kernel_rfl)) (e:=ztK) (by kernel_rfl) h1 fun w' h3 h4=>hk w' ⟨_,h3,fun b=>?_⟩ h4
  rw [zln]
  by_cases hab:a=b
  · subst hab; exact .inl ⟨by simp,by simp⟩
  · have:b≠a:=fun h=>hab h.symm
    rw [if_neg hab]
    rcases h2 b with ⟨h5,h6⟩|⟨h5,h6⟩
    · exact .inl ⟨List.mem_append_left _ h5,h6⟩
    · exact .inr ⟨fun h=>by rcases List.mem_append.1 h with h|h; exact h5 h; exact this (by simpa using h),h6⟩
theorem zrH {α:Type} {l:List α} (h:l.Nodup) (k:Nat) {x:α} (hx:l[k]?=some x):x∉l.take k:=by
  intro hm
  obtain ⟨j,hj,he⟩:=List.getElem_of_mem hm
  rw [List.length_take] at hj
  rw [List.getElem_take] at he
  have h1:l[j]?=some x:=by rw [List.getElem?_eq_getElem (by omega),he]
  have:=(List.getElem?_inj (by omega) h).1 (h1.trans hx.symm)
  omega
theorem zjW {α:Type}:∀ {l:List α},(∀ (k:Nat) x,l[k]?=some x->x∉l.take k)->l.Nodup:=by
  intro l h
  rw [List.nodup_iff_pairwise_ne,List.pairwise_iff_getElem]
  intro i j hi hj hij he
  refine h j _ (List.getElem?_eq_getElem hj) ?_
  rw [List.mem_iff_getElem]
  exact ⟨i,by simp; omega,by simp [he]⟩
theorem zcZ {α β:Type} (f:α->β) {l:List α} (d:α) {k:Nat} (h:k<l.length):(l.take (k+1)).map f=(l.take k).map f++[f (l.getD k d)]:=by
  rw [List.take_add_one,getElem?_getD l d h]; simp
theorem zsm (p:Option Addr) (c:Nat) (L:List Ht) (h63:(L.length:Int)<=9223372036854775807) (hO:∀ h∈L,zv3 h) (w:World) (hL:zjE w p L) :
    FnP Tryz.prog zcc #[.slice p L.length c] w fun v w'=>Ext w w'/\∃ e:Int,v=.int .i64 e/\(e=0↔zkt L)/\e≠5/\(∀ h r,L=h::r->lbB h.name=false->L.length<=30->e=3):=by
  refine zlB p L.length c w _ ⟨fun hgt w0 h0=>⟨h0,2,rfl,⟨fun h=>by omega,fun h=>by have:=h.1; omega⟩,by omega,fun h r _ _ hl=>by omega⟩,fun hle w0 h0=>?_⟩
  refine zzx fun w1 S1 e1=>⟨e1,_,rfl,?_⟩
  generalize hr1:w0.heap.size=r1 at S1
  have x1:=h0.trans e1
  have hw1:w.heap.size<=r1:=by have:=h0.size; omega
  refine ⟨fun k w'=>Ext w w'/\0<=k/\k<=L.length/\zio w' r1 ((L.take k.toNat).map (·.name))/\(∀ j:Nat,(j:Int)<k->zGs (L.getD j default))/\(∀ j:Nat,(j:Int)<k->(L.getD j default).name∉(L.take j).map (·.name)),fun k _=>(L.length-k).toNat,⟨x1,by omega,by omega,S1,fun j hj=>by omega,fun j hj=>by omega⟩,?_⟩
  rintro k w5 ⟨x5,hk0,hk1,S5,hok,hdist⟩
  have fin:∀ {e:Int} {w':World},Ext w w'->(e≠0->¬ zkt L)->e≠0->e≠5->(∀ h r,L=h::r->lbB h.name=false->L.length<=30->e=3)->Ext w w'/\∃ e':Int,Value.int .i64 e=.int .i64 e'/\(e'=0↔zkt L)/\e'≠5/\(∀ h r,L=h::r->lbB h.name=false->L.length<=30->e'=3):=fun hx h1 h2 h3 h4=>⟨hx,_,rfl,⟨fun h=>absurd h h2,fun h=>absurd h (h1 h2)⟩,h3,h4⟩
  refine ⟨fun hlt=>?_,fun hge w6 h6=>⟨x5.trans h6,0,rfl,⟨fun _=>⟨by omega,fun h hh=>?_,?_⟩,fun _=>rfl⟩,by omega,fun h r he hf _=>?_⟩⟩
  · obtain ⟨q,d,hp,hp8,g',hLb⟩:=hL.at hk0 hlt
    have hm:=zaq L default (i:=k.toNat) (by omega)
    have hOk:=hO _ hm
    generalize hHd:L.getD k.toNat default=H at g' hLb hm hOk
    have g:∀ (j:Nat) u,(zEJ H q d)[j]?=some u->Go.Sx.cell w5 (pIdx p k 8) j=some u:=fun j u hu=>zaI x5 (g' j u hu)
    obtain ⟨ho1,ho2,ho3⟩:=hOk
    have hnot:∀ (P:Ht->Prop),(∀ h∈L,P h)->P H:=fun P h=>h H hm
    have first:lbB H.name=true->∀ h r,L=h::r->lbB h.name=false->(k:Int)≠0\/False:=fun hn h r he hf=>by
      refine .inl fun hz=>?_
      have:H=h:=by rw [<- hHd,he,hz]; rfl
      rw [this,hf] at hn; cases hn
    have nofirst:lbB H.name=true->∀ (e:Int) h r,L=h::r->lbB h.name=false->L.length<=30->e=3:=fun hn e h r he hf _=>by
      exfalso
      by_cases hz:k=0
      · have:H=h:=by rw [<- hHd,he,hz]; rfl
        rw [this,hf] at hn; cases hn
      · have h0':=(hok 0 (by omega)).1
        have:L.getD 0 default=h:=by rw [he]; rfl
        rw [this,hf] at h0'; cases h0'
    refine ⟨hp,hk0,hlt,hp8,_,g 0 _ rfl,_,_,_,g 1 _ rfl,_,g 2 _ rfl,_,g 3 _ rfl,_,g 4 _ rfl,_,g 5 _ rfl,_,g 6 _ rfl,_,g 7 _ rfl,fun b16 hb16=>?_⟩
    refine ⟨fun w'=>w'=w5/\lbB H.name=true/\H.name∉(L.take k.toNat).map (·.name)/\H.labels.length<=8,fun w19 h19=>?_,?_⟩
    · refine (zgh H.name ho1 w19).mono fun v w20 ⟨e20,hv⟩=>⟨e20,_,hv,fun hf w22 h22=>fin (x5.trans h22) (fun _ ho=>by have:=(ho.2.1 H hm).1; rw [hf] at this; cases this) (by omega) (by omega) (fun _ _ _ _ _=>rfl),fun hn w22 h22=>?_⟩
      refine zou (S5.ext h22) H.name fun b hb=>⟨Ext.refl _,b,rfl,fun hin w25 h25=>fin (x5.trans h25) (fun _ ho=>?_) (by omega) (by omega) (nofirst hn 6),fun hnin=>⟨fun h8 w25 h25=>fin (x5.trans h25) (fun _ ho=>by have:=(ho.2.1 H hm).2.1; omega) (by omega) (by omega) (nofirst hn 2),fun h8=>⟨rfl,hn,(fun hm=>by rw [hb.2 hm] at hnin; cases hnin),by omega⟩⟩⟩
      have hin:H.name∈(L.take k.toNat).map (·.name):=hb.1 hin
      have hx:(L.map (·.name))[k.toNat]?=some H.name:=by rw [List.getElem?_map,getElem?_getD L default (by omega),hHd]; rfl
      refine zrH ho.2.2 k.toNat hx ?_
      rwa [<- List.map_take]
    rintro w5 ⟨rfl,hn,hnin,h8⟩ w19 x19
    have h19:=zaa x19
    have hb19:b16<w19.heap.size:=x19.lt b16 (by simp)
    have hr5:=S5.lt
    refine ztc (S5.ext h19) H.name fun w20 S20 g20=>⟨fun b hb=>?_,fun w21 x21=>?_⟩
    · simp at hb; subst hb
      refine g20.by_.block b hb19 fun he=>?_
      simp [blk] at he; omega
    have x20:Ext w w20:=g20.below (x5.trans h19) (x5.trans h19).size (fun a ha=>by obtain rfl:=Option.some.inj ha; exact hw1)
    have h21:=zaa x21
    refine zzx fun w22 S22 e22=>⟨e22,_,rfl,?_⟩
    have hr21:r1<w21.heap.size:=by have:=S20.lt; have:=h21.size; omega
    generalize hr2:w21.heap.size=r2 at S22 hr21
    have x22:=(x20.trans h21).trans e22
    have hb16r:b16<r2:=by have:=g20.size; have:=h21.size; omega
    refine ⟨fun j w'=>Ext w w'/\0<=j/\j<=H.labels.length/\zio w' r1 ((L.take k.toNat).map (·.name)++[H.name])/\zio w' r2 ((H.labels.take j.toNat).map (·.key))/\(∀ i:Nat,(i:Int)<j->lbB (H.labels.getD i default).key=true/\lbB (H.labels.getD i default).val=true)/\(∀ i:Nat,(i:Int)<j->(H.labels.getD i default).key∉(H.labels.take i).map (·.key)),fun j _=>(H.labels.length-j).toNat,⟨x22,by omega,by omega,(S20.ext h21).ext e22,S22,fun i hi=>by omega,fun i hi=>by omega⟩,?_⟩
    rintro j w26 ⟨x26,hj0,hj1,Sa,Sb,hlab,hldist⟩
    refine ⟨fun hjl=>?_,fun hjg w27 h27=>?_⟩
    · have hLb6:=hLb.ext x26
      have l0:=hLb6.idx default hj0 hjl (j:=0) rfl
      have l1:=hLb6.idx default hj0 hjl (j:=1) rfl
      have hlm:=zaq H.labels default (i:=j.toNat) (by omega)
      have hls:=ho3 _ hlm
      generalize hld:H.labels.getD j.toNat default=lb at l0 l1 hlm hls
      refine ⟨fun hq=>zak l0 (zah.2 hq),hj0,hjl,zak l0,_,l0,_,l1,fun b29 hb29=>?_⟩
      refine ⟨fun w'=>w'=w26/\lbB lb.key=true/\lbB lb.val=true/\lb.key∉(H.labels.take j.toNat).map (·.key),fun w32 h32=>?_,?_⟩
      · refine (zgh lb.key hls.1 w32).mono fun v w33 ⟨e33,hv⟩=>⟨e33,_,hv,fun hf w35 h35=>fin (x26.trans h35) (fun _ ho=>by have:=((ho.2.1 H hm).2.2.1.1 lb hlm).1; rw [hf] at this; cases this) (by omega) (by omega) (fun _ _ _ _ _=>rfl),fun hkt w35 h35=>?_⟩
        refine (zgh lb.val hls.2 w35).mono fun v w36 ⟨e36,hv⟩=>⟨e36,_,hv,fun hf w38 h38=>fin (x26.trans h38) (fun _ ho=>by have:=((ho.2.1 H hm).2.2.1.1 lb hlm).2; rw [hf] at this; cases this) (by omega) (by omega) (fun _ _ _ _ _=>rfl),fun hvt w38 h38=>?_⟩
        refine zou (Sb.ext h38) lb.key fun b hb=>⟨Ext.refl _,b,rfl,fun hin w41 h41=>fin (x26.trans h41) (fun _ ho=>?_) (by omega) (by omega) (nofirst hn 6),fun hnin=>⟨rfl,hkt,hvt,fun hm=>by rw [hb.2 hm] at hnin; cases hnin⟩⟩
        have hin:lb.key∈(H.labels.take j.toNat).map (·.key):=hb.1 hin
        have hx:(H.labels.map (·.key))[j.toNat]?=some lb.key:=by rw [List.getElem?_map,getElem?_getD H.labels default (by omega),hld]; rfl
        refine zrH (ho.2.1 H hm).2.2.1.2 j.toNat hx ?_
        rwa [<- List.map_take]
      rintro w26 ⟨rfl,hkt,hvt,hknin⟩ w32 x32
      have h32:=zaa x32
      refine ztc (Sb.ext h32) lb.key fun w33 S33 g33=>⟨fun b hb=>?_,i64 (by omega),⟨?_,by omega,by omega,?_,?_,fun i hi=>?_,fun i hi=>?_⟩,by simp only []; omega⟩
      · have hlt':=x32.lt b hb
        refine g33.by_.block b hlt' fun he=>?_
        simp [blk] at he
        simp at hb
        have:=Sb.lt
        rcases hb with rfl|rfl<;>omega
      · exact g33.below (x26.trans h32) (x26.trans h32).size (fun a ha=>by obtain rfl:=Option.some.inj ha; show w.heap.size<=r2; omega)
      · exact (Sa.ext h32).grew (by omega) g33
      · rw [show (j+1).toNat=j.toNat+1 by omega,zcZ (fun x:Lb=>x.key) default (by omega),hld]; exact S33
      · by_cases hij:(i:Int)<j
        · exact hlab i hij
        · obtain rfl:i=j.toNat:=by omega
          rw [hld]; exact ⟨hkt,hvt⟩
      · by_cases hij:(i:Int)<j
        · exact hldist i hij
        · obtain rfl:i=j.toNat:=by omega
          rw [hld]; exact hknin
    · have hL1:okLb H.labels:=⟨fun x hx=>by
        obtain ⟨i,hi,rfl⟩:=List.getElem_of_mem hx
        have:=hlab i (by omega)
        simpa [List.getD_eq_getElem?_getD,hi] using this,zjW fun i x hx=>by
        have hi:i<H.labels.length:=by
          have:=(List.getElem?_eq_some_iff.1 hx).1
          simpa using this
        rw [List.getElem?_map,getElem?_getD H.labels default hi] at hx
        have hx:(H.labels.getD i default).key=x:=by simpa using hx
        rw [<- hx,<- List.map_take]
        exact hldist i (by omega)⟩
      refine (zw4 H.used H.has w27).mono fun v w28 ⟨e28,t,e,hv,ht⟩=>⟨e28,_,_,hv,fun w31 h31=>?_⟩
      refine (zet H.has w31).mono fun v w32 ⟨e32,hv⟩=>⟨e32,_,hv,?_⟩
      refine ⟨fun w'=>w'=w26/\okN H.has/\okN H.used/\zjU H.used H.has,⟨fun hne w36 h36=>?_,fun he0=>⟨fun hne w36 h36=>?_,fun he=>⟨fun hf w36 h36=>?_,fun htt=>?_⟩⟩⟩,?_⟩
      · have hno:¬ okN H.has:=fun h=>hne (zba.2 h)
        rw [zmn hno]
        exact fin (x26.trans h36) (fun _ ho=>hno (ho.2.1 H hm).2.2.2.1) (by omega) (by omega) (nofirst hn 4)
      · rcases ht with ⟨_,_,rfl,_⟩|⟨hno,rfl,_⟩
        · exact absurd rfl hne
        · exact fin (x26.trans h36) (fun _ ho=>hno ⟨(ho.2.1 H hm).2.2.2.2.1,(ho.2.1 H hm).2.2.2.1⟩) (by omega) (by omega) (nofirst hn 4)
      · rcases ht with ⟨_,_,_,rfl⟩|⟨_,rfl,_⟩
        · exact fin (x26.trans h36) (fun _ ho=>by have:=(ho.2.1 H hm).2.2.2.2.2; simp [this] at hf) (by omega) (by omega) (nofirst hn 10)
        · omega
      · rcases ht with ⟨h1,h2,_,rfl⟩|⟨_,rfl,_⟩
        · exact ⟨rfl,h2,h1,by simpa using htt⟩
        · omega
      · rintro w26 ⟨rfl,ha,hu,hfit⟩
        refine ⟨i64 (by omega),⟨x26,by omega,by omega,?_,fun i hi=>?_,fun i hi=>?_⟩,by simp only []; omega⟩
        · rw [show (k+1).toNat=k.toNat+1 by omega,zcZ (fun x:Ht=>x.name) default (by omega),hHd]; exact Sa
        · by_cases hik:(i:Int)<k
          · exact hok i hik
          · obtain rfl:i=k.toNat:=by omega
            rw [hHd]; exact ⟨hn,h8,hL1,ha,hu,hfit⟩
        · by_cases hik:(i:Int)<k
          · exact hdist i hik
          · obtain rfl:i=k.toNat:=by omega
            rw [hHd]; exact hnin
  · obtain ⟨i,hi,rfl⟩:=List.getElem_of_mem hh
    have:=hok i (by omega)
    simpa [List.getD_eq_getElem?_getD,hi] using this
  · refine zjW fun i x hx=>?_
    have hi:i<L.length:=by
      have:=(List.getElem?_eq_some_iff.1 hx).1
      simpa using this
    rw [List.getElem?_map,getElem?_getD L default hi] at hx
    have hx:(L.getD i default).name=x:=by simpa using hx
    rw [<- hx,<- List.map_take]
    exact hdist i (by omega)
  · exfalso
    have h0':=(hok 0 (by rw [he] at hge; simp at hge; omega)).1
    have:L.getD 0 default=h:=by rw [he]; rfl
    rw [this,hf] at h0'; cases h0'
theorem zpQ (xs:List Value):∀ (vs ys:List Value) (i:Nat),zdB (xs++ys) (xs.length+i) vs=xs++zdB ys i vs
  |[],ys,i => rfl
  |v::r,ys,i => by
    simp only [zdB]
    rw [List.set_append_right _ _ (by omega),show xs.length+i-xs.length=i by omega,show xs.length+i+1=xs.length+(i+1) by omega]
    exact zpQ xs r _ _
theorem zrU (ys:List Value):∀ (vs xs:List Value) (i:Nat),i+vs.length<=xs.length->zdB (xs++ys) i vs=zdB xs i vs++ys
  |[],xs,i,_ => rfl
  |v::r,xs,i,h => by
    simp only [zdB]
    simp only [List.length_cons] at h
    rw [List.set_append_left _ _ (by omega)]
    exact zrU ys r _ _ (by simp; omega)
theorem zlG {α:Type} {enc:α->List Value} {s:Nat} (hs:∀ x,(enc x).length=s) (L:List α) (i j:Nat) (vs:List Value) (x d:α) (hi:i<L.length) (hj:j+vs.length<=s) (he:zdB (enc (L.getD i d)) j vs=enc x) :
    zdB (L.flatMap enc) (i*s+j) vs=(L.set i x).flatMap enc:=by
  have hd:L.getD i d=L[i]:=by simp [List.getD_eq_getElem?_getD,hi]
  have h1:L=L.take i++L[i]::L.drop (i+1):=by rw [List.getElem_cons_drop,List.take_append_drop]
  have h2:L.set i x=L.take i++x::L.drop (i+1):=by
    rw [List.set_eq_take_append_cons_drop,if_pos hi]
  rw [h2]
  conv=>lhs; rw [h1]
  simp only [List.flatMap_append,List.flatMap_cons]
  have hl:((L.take i).flatMap enc).length=i*s:=by rw [ze7 hs,List.length_take,Nat.min_eq_left (by omega)]
  rw [<- hl,zpQ,zrU _ _ _ _ (by rw [hs]; omega),<- hd,he]
structure Hm where
  h:Ht
  q:Option Addr
  d:Nat
instance:Inhabited Hm:=⟨⟨default,none,0⟩⟩
abbrev zjr (m:Hm):List Value:=zEJ m.h m.q m.d
theorem zf4 (m:Hm):(zjr m).length=8:=rfl
theorem zyH (m:Hm):∀ u∈zjr m,u.oneCell'=true:=by
  intro u hu
  simp [zjr,zEJ] at hu
  rcases hu with rfl|rfl|rfl|rfl|rfl|rfl|rfl|rfl<;>rfl
theorem hs_ms {w:World} {p:Option Addr} {L:List Ht} (h:zjE w p L):∃ M:List Hm,M.map (·.h)=L/\zgE 8 zjr w p M/\∀ m∈M,Lbs w m.q m.h.labels:=by
  have key:∀ n,n<=L.length->∃ M:List Hm,M.map (·.h)=L.take n/\zgE 8 zjr w p M/\∀ m∈M,Lbs w m.q m.h.labels:=by
    intro n
    induction n with
    |zero => exact fun _ => ⟨[],rfl,fun i x hx => by simp at hx,fun m hm => by simp at hm⟩
    |succ n ih =>
      intro hn
      obtain ⟨M,h1,h2,h3⟩:=ih (by omega)
      have hlen:M.length=n:=by have:=congrArg List.length h1; simp at this; omega
      obtain ⟨q,c,h4,h5⟩:=h n L[n] (List.getElem?_eq_getElem (by omega))
      refine ⟨M++[⟨L[n],q,c⟩],by rw [List.map_append,h1,List.take_succ_eq_append_getElem (by omega)]; rfl,fun i x hx j u hu=>?_,fun m hm=>?_⟩
      · by_cases hi:i<n
        · rw [List.getElem?_append_left (by omega)] at hx
          exact h2 i x hx j u hu
        · rw [List.getElem?_append_right (by omega)] at hx
          have:i-M.length=0:=by
            rcases Nat.eq_zero_or_pos (i-M.length) with h0|h0
            · exact h0
            · rw [List.getElem?_eq_none (by simp; omega)] at hx; cases hx
          rw [this] at hx
          simp at hx; subst hx
          obtain rfl:i=n:=by omega
          exact h4 j u hu
      · rcases List.mem_append.1 hm with hm|hm
        · exact h3 m hm
        · simp at hm; subst hm; exact h5
  obtain ⟨M,h1,h2⟩:=key L.length (Nat.le_refl _)
  exact ⟨M,by simpa using h1,h2⟩
theorem ms_hs {w:World} {p:Option Addr} {M:List Hm} (h:zgE 8 zjr w p M) (hl:∀ m∈M,Lbs w m.q m.h.labels):zjE w p (M.map (·.h)):=fun i x hx=>by
  rw [List.getElem?_map] at hx
  obtain ⟨m,hm,rfl⟩:=Option.map_eq_some_iff.1 hx
  exact ⟨m.q,m.d,fun j u hu=>h i m hm j u hu,hl m (List.mem_of_getElem? hm)⟩
theorem zju {w w':World} {q p:Option Addr} {l:List Lb} (h:Lbs w q l) (ha:l=[]\/zbT q p) (hg:zcu w w' p p):Lbs w' q l:=by
  rcases ha with rfl|ha
  · exact fun i x hx=>by simp at hx
  · intro i x hx j u hu
    have h1:=zmW (enc:=zsh) (fun _=>rfl) h
    have h2:=h1.grew ha hg
    have h3:(l.flatMap zsh)[i*2+j]?=some u:=by
      have hi:=(List.getElem?_eq_some_iff.1 hx).1
      have hj:j<2:=(List.getElem?_eq_some_iff.1 hu).1
      have:=zDB (enc:=zsh) (s:=2) (fun _=>rfl) l i
      rw [<- List.getElem?_drop,this,List.drop_eq_getElem_cons hi,List.flatMap_cons,List.getElem?_append_left hj]
      rw [(List.getElem?_eq_some_iff.1 hx).2]; exact hu
    exact h2 _ _ h3
theorem zyb (q:Option Addr) (c:Nat) (l:List Lb) (h8:l.length<=8) (w:World) (h:Lbs w q l) :
    FnP Tryz.prog zaD #[.slice q l.length c] w fun v w'=>Ext w w'/\∃ q' c',v=.slice q' l.length c'/\Lbs w' q' l/\∀ a,q'=some a->w.heap.size<=a.block:=by
  refine zdp q l.length c w _ ⟨fun hn w0 h0=>?_,fun hn=>?_⟩
  · cases l with
    |nil => exact ⟨h0,none,0,rfl,fun i x hx => by simp at hx,fun a ha => by cases ha⟩
    |cons x r => exact absurd hn (h.ne (List.mem_cons_self ..) (by simp))
  · refine zoS (Q:=fun v w'=>Ext w w'/\∃ q' c',v=.slice q' l.length c'/\Lbs w' q' l/\∀ a,q'=some a->w.heap.size<=a.block) zk5 (by omega) (zmW (enc:=zsh) (s:=2) (fun _=>rfl) h) (ze7 (enc:=zsh) (s:=2) (fun _=>rfl) l) (zzl (fun x u hu=>?_) l) (by omega) (by omega) hn fun p' c' w' hx o=>⟨hx,p',c',rfl,o.recs fun _ _=>rfl,fun a ha=>(o.lt a ha).1⟩
    simp at hu; rcases hu with rfl|rfl<;>rfl
theorem zrZ (p:Option Addr) (c:Nat) (M:List Hm) (h30:M.length<=30) (w:World) (h:zgE 8 zjr w p M) :
    FnP Tryz.prog zaj #[.slice p M.length c] w fun v w'=>Ext w w'/\∃ q' c',v=.slice q' M.length c'/\Own w.heap.size w' zez 8 q' M.length c' (M.flatMap zjr):=by
  refine zdS p M.length c w _ ⟨fun hn w0 h0=>?_,fun hn=>?_⟩
  · cases M with
    |nil => exact ⟨h0,none,0,rfl,Own.nil⟩
    |cons x r => exact absurd hn (h.ne (List.mem_cons_self ..) (by simp))
  · exact zoS (Q:=fun v w'=>Ext w w'/\∃ q' c',v=.slice q' M.length c'/\Own w.heap.size w' zez 8 q' M.length c' (M.flatMap zjr)) zf2 (by omega) (zmW zf4 h) (ze7 zf4 M) (zzl zyH M) (by omega) (by omega) hn fun p' c' w' hx o=>⟨hx,p',c',rfl,o⟩
def LbA (w:World) (p:Option Addr) (m:Hm):Prop:=Lbs w m.q m.h.labels/\(m.h.labels=[]\/zbT m.q p)
def LbN (n:Nat) (m:Hm):Prop:=m.h.labels=[]\/∀ a,m.q=some a->n<=a.block
def HsS (n:Nat) (w:World) (p:Option Addr) (L:List Ht):Prop:=∀ S:Nat->Prop,(∀ b,S b->b<n)->∀ w'',Fr S w w''->zjE w'' p L
theorem HsS.at {n:Nat} {w:World} {p:Option Addr} {L:List Ht} (h:HsS n w p L):zjE w p L:=h (fun _=>False) (fun _ h=>h.elim) w (Fr.refl _ w)
theorem HsS.ext {n:Nat} {w w':World} {p:Option Addr} {L:List Ht} (h:HsS n w p L) (e:Ext w w'):HsS n w' p L:=fun S hS w'' f=>h S hS w'' ((zac e).tr f)
theorem HsS.weak {n m:Nat} {w:World} {p:Option Addr} {L:List Ht} (h:HsS n w p L) (e:m<=n):HsS m w p L:=fun S hS w'' f=>h S (fun b hb=>Nat.lt_of_lt_of_le (hS b hb) e) w'' f
theorem lbs_fr {S:Nat->Prop} {w w':World} {q:Option Addr} {l:List Lb} (h:Lbs w q l) (ha:l=[]\/∀ a,q=some a->¬ S a.block) (k:Fr S w w'):Lbs w' q l:=fun i x hx j u hu=>by
  rcases ha with rfl|ha
  · simp at hx
  · exact zdK (h i x hx j u hu) k ha
theorem zCA {n N c:Nat} {w:World} {p:Option Addr} {M:List Hm} (o:Own n w zez 8 p N c (M.flatMap zjr)) (hl:∀ m∈M,Lbs w m.q m.h.labels) (hn:∀ m∈M,LbN n m):HsS n w p (M.map (·.h)):=fun S hS w'' f=>by
  have lt:∀ {a:Option Addr},(∀ y,a=some y->n<=y.block)->∀ y,a=some y->¬ S y.block:=fun h y hy hs=>by
    have:=h y hy
    have:=hS _ hs
    omega
  refine ms_hs ((o.fr f (lt fun y hy=>(o.lt y hy).1)).recs fun _ _=>rfl) fun m hm=>lbs_fr (hl m hm) ?_ f
  rcases hn m hm with h|h
  · exact .inl h
  · exact .inr (lt h)
theorem own_k (p:Option Addr) (c:Nat) (L:List Ht) (h30:L.length<=30) (h8:∀ h∈L,h.labels.length<=8) (w:World) (hL:zjE w p L) :
    FnP Tryz.prog zl9 #[.slice p L.length c] w fun v w'=>Ext w w'/\∃ p' c',∃ M:List Hm,v=.slice p' L.length c'/\M.map (·.h)=L/\Own w.heap.size w' zez 8 p' L.length c' (M.flatMap zjr)/\(∀ m∈M,LbA w' p' m)/\∀ m∈M,LbN w.heap.size m:=by
  refine zxm p L.length c w _ fun w0 h0=>?_
  obtain ⟨M0,hM0,hR0,hl0⟩:=hs_ms (hL.ext h0)
  have hlen0:M0.length=L.length:=by rw [<- hM0]; simp
  rw [<- hlen0]
  refine (zrZ p c M0 (by omega) w0 hR0).mono fun v w1 ⟨e1,p',c',hv,o1⟩=>⟨e1,p',M0.length,c',hv,?_⟩
  have lt0:∀ m∈M0,LbA w1 p' m:=fun m hm=>⟨(hl0 m hm).ext e1,by
    cases hlb:m.h.labels with
    |nil => exact .inl rfl
    |cons x r =>
      refine .inr fun a b ha hb=>?_
      have:=(hl0 m hm).lt (x:=x) (by rw [hlb]; exact List.mem_cons_self ..) (by simp) a ha
      have:=(o1.lt b hb).1
      omega⟩
  refine ⟨fun k w'=>Ext w w'/\0<=k/\k<=M0.length/\∃ M:List Hm,M.map (·.h)=L/\Own w0.heap.size w' zez 8 p' M0.length c' (M.flatMap zjr)/\(∀ m∈M,LbA w' p' m)/\∀ j,j<k.toNat->∀ m,M[j]?=some m->LbN w.heap.size m,fun k _=>(M0.length-k).toNat,⟨h0.trans e1,by omega,by omega,M0,hM0,o1,lt0,fun j hj=>by simp at hj⟩,?_⟩
  rintro k w7 ⟨x7,hk0,hk1,M,hM,o7,hA7,hN7⟩
  have hlen:M.length=M0.length:=by rw [hlen0,<- hM]; simp
  refine ⟨fun hlt=>?_,fun hge w8 h8=>⟨x7.trans h8,p',c',M,rfl,hM,(o7.ext h8).weak h0.size,fun m hm=>⟨(hA7 m hm).1.ext h8,(hA7 m hm).2⟩,fun m hm=>by
    obtain ⟨j,hj⟩:=List.mem_iff_getElem?.1 hm
    have hjl:=(List.getElem?_eq_some_iff.1 hj).1
    exact hN7 j (by omega) m hj⟩⟩
  have r7:zgE 8 zjr w7 p' M:=o7.recs fun _ _=>rfl
  have g:=r7.idx default hk0 (by omega) (j:=1) rfl
  have hp':=o7.ne1 (by omega) (by omega)
  have hm:=zaq M default (i:=k.toNat) (by omega)
  generalize hmd:M.getD k.toNat default=m at g hm
  have hml:m.h∈L:=by rw [<- hM]; exact List.mem_map_of_mem hm
  refine ⟨hp',hk0,hlt,fun hq=>hp' (zah.1 hq),m.q,m.h.labels.length,m.d,by rw [zam]; exact g,fun w11 h11=>?_⟩
  refine (zyb m.q m.d m.h.labels (h8 _ hml) w11 ((hA7 m hm).1.ext h11)).mono fun v w12 ⟨e12,q',d',hv,hl',hn'⟩=>⟨e12,q',_,d',hv,hp',hk0,hlt,fun hq=>hp' (zah.1 hq),?_⟩
  have x12:=h11.trans e12
  have o12:=o7.ext x12
  refine zaY o12 zop (by rw [ze7 zf4]; simp; omega) (by simp) (by intro v hv; simp at hv; subst hv; rfl) (by simp) fun w16 o16 g16=>?_
  rw [zlG zf4 M k.toNat 1 [.slice q' m.h.labels.length d'] ⟨m.h,q',d'⟩ default (by omega) (by simp) (by rw [hmd]; rfl)] at o16
  have hmap:(M.set k.toNat ⟨m.h,q',d'⟩).map (·.h)=L:=by
    rw [List.map_set,hM]
    have hk:k.toNat<L.length:=by omega
    have:L[k.toNat]=m.h:=by
      have h1:(M.map (·.h)).getD k.toNat default=m.h:=by
        rw [<- hmd,List.getD_eq_getElem?_getD,List.getD_eq_getElem?_getD,List.getElem?_map,List.getElem?_eq_getElem (by omega:k.toNat<M.length)]; rfl
      rw [hM] at h1
      simpa [List.getD_eq_getElem?_getD,hk] using h1
    rw [<- this,List.set_getElem_self]
  refine ⟨i64 (by omega),⟨?_,by omega,by omega,_,hmap,o16,fun m' hm'=>?_,fun j hj m' hm'=>?_⟩,by simp only []; omega⟩
  · exact g16.ext (x7.trans x12) (o12.weak (by have:=h0.size; omega))
  · rcases List.mem_or_eq_of_mem_set hm' with hm'|rfl
    · exact ⟨zju ((hA7 m' hm').1.ext x12) (hA7 m' hm').2 g16,(hA7 m' hm').2⟩
    · have ha:zbT q' p':=fun a b ha hb=>by
        have:=hn' a ha
        have:=(o7.lt b hb).2
        have:=h11.size
        omega
      exact ⟨zju hl' (.inr ha) g16,.inr ha⟩
  · by_cases hjk:j=k.toNat
    · subst hjk
      rw [List.getElem?_set_self (by omega)] at hm'
      obtain rfl:=Option.some.inj hm'
      exact .inr fun a ha=>(by have:=hn' a ha; have:=x7.size; have:=h11.size; omega)
    · rw [List.getElem?_set_ne (by omega)] at hm'
      exact hN7 j (by omega) m' hm'
def zfO (h:Ht) (s:Nd):Ht:=⟨h.name,h.labels,h.has,s⟩
theorem zyx (R:Ht->Nd->Int->Prop) (p:Option Addr) (c:Nat) (L:List Ht) (h63:(L.length:Int)<=9223372036854775807) (hO:∀ h∈L,zv3 h) (i:Int) (f:Value) (w:World) (hL:zjE w p L)
    (hf:∀ h∈L,zGs h->∀ q d w',Ext w w'->zic Tryz.prog f [hv h q d] w' fun v w''=>Ext w' w''/\∃ s e,v=.tuple #[nv s,.int .i64 e]/\R h s e) :
    FnP Tryz.prog ze1 #[.slice p L.length c,.int .i64 i,f] w fun v w'=>Ext w w'/\∃ p' n' c' e,v=.tuple #[.slice p' n' c',.int .i64 e] /\
      ((e≠0/\n'=0/\(zkt L->0<=i->i<L.length->∃ s,R (L.getD i.toNat default) s e)) \/
       (e=0/\zkt L/\0<=i/\i<L.length/\n'=L.length/\n'<=c'/\∃ s,R (L.getD i.toNat default) s 0/\HsS w.heap.size w' p' (L.set i.toNat (zfO (L.getD i.toNat default) s)))):=by
  refine zqK p L.length c i f w _ fun w0 h0=>?_
  refine (zsm p c L h63 hO w0 (hL.ext h0)).mono fun v w1 ⟨e1,e,hv,he,_,_⟩=>⟨e1,e,hv,fun hne w3 h3=>⟨h3,_,_,_,_,rfl,.inl ⟨hne,rfl,fun ho=>absurd (he.2 ho) hne⟩⟩,fun h0'=>?_⟩
  have hok:=he.1 h0'
  refine ⟨fun hout w3 h3=>⟨h3,_,_,_,_,rfl,.inl ⟨by omega,rfl,fun _ _ _=>by omega⟩⟩,fun ⟨hi0,hi1⟩=>?_⟩
  obtain ⟨q,d,hp,hp8,g,hl⟩:=hL.at hi0 hi1
  have hm:=zaq L default (i:=i.toNat) (by omega)
  generalize hHd:L.getD i.toNat default=H at g hl hm
  refine ⟨hp,hi0,hi1,hp8,_,g 0 _ rfl,_,_,_,g 1 _ rfl,_,g 2 _ rfl,_,g 3 _ rfl,_,g 4 _ rfl,_,g 5 _ rfl,_,g 6 _ rfl,_,g 7 _ rfl,fun w13 h13=>?_⟩
  obtain ⟨fi,cap,hfe,hfp⟩:=hf H hm (hok.2.1 H hm) q d w13 h13
  refine ⟨fi,cap,hfe,hfp.mono fun v w14 ⟨e14,s,e',hv',hR⟩=>⟨e14,s.c,s.m,s.g,e',hv',fun b19 hb19=>⟨fun hne w20 h20=>⟨h20,_,_,_,_,rfl,.inl ⟨hne,rfl,fun _ _ _=>⟨s,hR⟩⟩⟩,fun h0' w20 x20=>?_⟩⟩⟩
  subst h0'
  have h20:=zaa x20
  have hb20:b19<w20.heap.size:=x20.lt b19 (by simp)
  refine (own_k p c L hok.1 (fun h hh=>(hok.2.1 h hh).2.1) w20 (hL.ext h20)).mono fun v w21 ⟨e21,p',c',M,hv,hM,o21,hA,hN⟩=>⟨e21,p',_,c',hv,?_⟩
  have hp':=o21.ne1 (by omega) (by omega)
  have hlen:M.length=L.length:=by rw [<- hM]; simp
  refine ⟨hp',hi0,hi1,fun hq=>hp' (zah.1 hq),?_⟩
  refine zaY o21 zop (by rw [ze7 zf4]; simp; omega) (by simp) (by intro v hv; simp at hv; rcases hv with rfl|rfl|rfl<;>rfl) (fun b hb x hx=>by simp at hb; subst hb; have:=(o21.lt x hx).1; omega) fun w25 o25 g25 w26 h26=>?_
  have hmd:(M.getD i.toNat default).h=H:=by
    rw [<- hHd,<- hM,List.getD_eq_getElem?_getD,List.getD_eq_getElem?_getD,List.getElem?_map,List.getElem?_eq_getElem (by omega:i.toNat<M.length)]; rfl
  rw [zlG zf4 M i.toNat 5 _ ⟨zfO H s,(M.getD i.toNat default).q,(M.getD i.toNat default).d⟩ default (by omega) (by simp) (by
    show zdB (zEJ (M.getD i.toNat default).h (M.getD i.toNat default).q (M.getD i.toNat default).d) 5 _=zEJ (zfO H s) _ _
    rw [hmd]; rfl)] at o25
  have hx25:Ext w w25:=g25.ext (h20.trans e21) (o21.weak h20.size)
  refine ⟨hx25.trans h26,p',_,c',0,rfl,.inr ⟨rfl,hok,hi0,hi1,rfl,o21.le.1,s,hR,?_⟩⟩
  have:=zCA o25 (fun m hm=>?_) (fun m hm=>?_)
  · have hmap:(M.set i.toNat ⟨zfO H s,(M.getD i.toNat default).q,(M.getD i.toNat default).d⟩).map (·.h)=L.set i.toNat (zfO H s):=by rw [List.map_set,hM]
    rw [hmap] at this
    exact (this.ext h26).weak h20.size
  · rcases List.mem_or_eq_of_mem_set hm with hm|rfl
    · exact zju (hA m hm).1 (hA m hm).2 g25
    · have hmm:=zaq M default (i:=i.toNat) (by omega)
      have:=zju (hA _ hmm).1 (hA _ hmm).2 g25
      rw [hmd] at this
      exact this
  · rcases List.mem_or_eq_of_mem_set hm with hm|rfl
    · exact hN m hm
    · have hmm:=zaq M default (i:=i.toNat) (by omega)
      have:=hN _ hmm
      unfold LbN at this ⊢
      rw [hmd] at this
      exact this
theorem zlo {w:World} {p:Option Addr} {a:Nd} (h:zBj w p a):Go.Sx.cell w p 0=some (.int .i64 a.c)/\Go.Sx.cell w p 1=some (.int .i64 a.m)/\Go.Sx.cell w p 2=some (.int .i64 a.g):=⟨h 0 _ rfl,h 1 _ rfl,h 2 _ rfl⟩
theorem Take_k (p:Option Addr) (c:Nat) (L:List Ht) (h63:(L.length:Int)<=9223372036854775807) (hO:∀ h∈L,zv3 h) (i:Int) (a:Nd) (w:World) (hL:zjE w p L) :
    FnP Tryz.prog zj9 #[.slice p L.length c,.int .i64 i,nv a] w fun v w'=>Ext w w'/\∃ p' n' c' e,v=.tuple #[.slice p' n' c',.int .i64 e] /\
      ((e≠0/\n'=0/\(zkt L->0<=i->i<L.length->¬ (okN a/\zjU a (zii (L.getD i.toNat default).has (L.getD i.toNat default).used)))) \/
       (e=0/\zkt L/\0<=i/\i<L.length/\n'=L.length/\n'<=c'/\okN a/\zjU a (zii (L.getD i.toNat default).has (L.getD i.toNat default).used)/\HsS w.heap.size w' p' (L.set i.toNat (zfO (L.getD i.toNat default) (zv7 (L.getD i.toNat default).used a))))):=by
  refine zu2 p L.length c i a.c a.m a.g w _ fun w0 h0=>?_
  refine zHT (x:=a) fun p1 w1 e1 hN hp1 w2 h2=>?_
  have x2:=(h0.trans e1).trans h2
  refine (zyx (fun h s e=>(e≠0/\¬ (okN a/\zjU a (zii h.has h.used)))\/(e=0/\s=zv7 h.used a/\okN a/\zjU a (zii h.has h.used))) p c L h63 hO i _ w2 (hL.ext x2) fun h hh hok q d w3 h3=>?_).mono fun v w4 ⟨e4,p',n',c',e,hv,hr⟩=>⟨e4,_,_,_,_,hv,fun w8 h8=>⟨(x2.trans e4).trans h8,_,_,_,_,rfl,?_⟩⟩
  · refine ⟨zhg,#[.pointer p1],rfl,(zqJ h.name q h.labels.length d h.has.c h.has.m h.has.g h.used.c h.used.m h.used.g p1 w3 _ ?_:FnP Tryz.prog zhg #[hv h q d,.pointer p1] w3 _)⟩
    intro b0 hb0 b1 hb1 w5 h5
    refine (zzc h.has h.used w5).mono fun v w6 ⟨e6,s,e,hv,hs⟩=>⟨e6,_,_,_,_,hv,fun b8 hb8=>?_⟩
    have hs:e=0/\s=zii h.has h.used:=by
      rcases hs with ⟨_,_,_,h1,h2⟩|⟨hno,_⟩|⟨_,_,hno,_⟩
      · exact ⟨h1,h2⟩
      · exact absurd ⟨hok.2.2.2.1,hok.2.2.2.2.1⟩ hno
      · exact absurd hok.2.2.2.2.2 hno
    obtain ⟨rfl,rfl⟩:=hs
    have hN3:=zlo (zau.ext hN (h2.trans h3))
    refine ⟨hp1,_,hN3.1,_,hN3.2.1,_,hN3.2.2,fun w12 h12=>?_⟩
    refine (zzc (zii h.has h.used) a w12).mono fun v w13 ⟨e13,s,e,hv,hs⟩=>⟨e13,_,_,_,_,hv,fun b18 hb18=>?_⟩
    have hsub:okN (zii h.has h.used):=by
      obtain ⟨h1,h2,h3⟩:=hok.2.2.2.1
      obtain ⟨h4,h5,h6⟩:=hok.2.2.2.2.1
      obtain ⟨h7,h8,h9⟩:=hok.2.2.2.2.2
      refine ⟨?_,?_,?_⟩<;>simp only [zii]<;>omega
    rcases hs with ⟨_,ha,hfit,rfl,rfl⟩|⟨hno,rfl,rfl⟩|⟨_,ha,hno,rfl,rfl⟩
    · refine ⟨fun hne=>absurd rfl hne,fun _=>⟨hp1,_,hN3.1,_,hN3.2.1,_,hN3.2.2,fun w22 h22=>?_⟩⟩
      refine (nAdd_k h.used a w22).mono fun v w23 ⟨e23,s,e,hv,hs⟩=>⟨e23,_,_,_,_,hv,fun w28 h28=>⟨h28,s,e,rfl,.inr ?_⟩⟩
      rcases hs with ⟨_,_,_,h1,h2⟩|⟨hno,_⟩|⟨_,_,hno,_⟩
      · exact ⟨h1,h2,ha,hfit⟩
      · exact absurd ⟨hok.2.2.2.2.1,ha⟩ hno
      · refine absurd ?_ hno
        obtain ⟨h1,h2,h3⟩:=hok.2.2.2.1
        obtain ⟨h4,h5,h6⟩:=hok.2.2.2.2.1
        obtain ⟨h7,h8,h9⟩:=ha
        obtain ⟨h10,h11,h12⟩:=hfit
        simp only [zii] at h10 h11 h12
        refine ⟨?_,?_,?_⟩<;>simp only [zv7]<;>omega
    · exact ⟨fun _ w19 h19=>⟨h19,za6,_,rfl,.inl ⟨by omega,fun hc=>hno ⟨hsub,hc.1⟩⟩⟩,fun h=>by omega⟩
    · exact ⟨fun _ w19 h19=>⟨h19,za6,_,rfl,.inl ⟨by omega,fun hc=>hno hc.2⟩⟩,fun h=>by omega⟩
  · rcases hr with ⟨hne,hn,hno⟩|⟨he,hok,hi0,hi1,hn,hc,s,hR,hAt⟩
    · refine .inl ⟨hne,hn,fun hok hi0 hi1=>?_⟩
      obtain ⟨s,hR⟩:=hno hok hi0 hi1
      rcases hR with ⟨_,h⟩|⟨h,_⟩
      · exact h
      · exact absurd h hne
    · rcases hR with ⟨h,_⟩|⟨_,rfl,ha,hfit⟩
      · exact absurd rfl h
      · exact .inr ⟨he,hok,hi0,hi1,hn,hc,ha,hfit,(hAt.ext h8).weak x2.size⟩
theorem Give_k (p:Option Addr) (c:Nat) (L:List Ht) (h63:(L.length:Int)<=9223372036854775807) (hO:∀ h∈L,zv3 h) (i:Int) (a:Nd) (w:World) (hL:zjE w p L) :
    FnP Tryz.prog zj8 #[.slice p L.length c,.int .i64 i,nv a] w fun v w'=>Ext w w'/\∃ p' n' c' e,v=.tuple #[.slice p' n' c',.int .i64 e] /\
      ((e≠0/\n'=0/\(zkt L->0<=i->i<L.length->¬ (okN a/\zjU a (L.getD i.toNat default).used))) \/
       (e=0/\zkt L/\0<=i/\i<L.length/\n'=L.length/\n'<=c'/\HsS w.heap.size w' p' (L.set i.toNat (zfO (L.getD i.toNat default) (zii (L.getD i.toNat default).used a))))):=by
  refine zu1 p L.length c i a.c a.m a.g w _ fun w0 h0=>?_
  refine zHT (x:=a) fun p1 w1 e1 hN hp1 w2 h2=>?_
  have x2:=(h0.trans e1).trans h2
  refine (zyx (fun h s e=>(e≠0/\¬ (okN a/\zjU a h.used))\/(e=0/\s=zii h.used a)) p c L h63 hO i _ w2 (hL.ext x2) fun h hh hok q d w3 h3=>?_).mono fun v w4 ⟨e4,p',n',c',e,hv,hr⟩=>⟨e4,_,_,_,_,hv,fun w8 h8=>⟨(x2.trans e4).trans h8,_,_,_,_,rfl,?_⟩⟩
  · refine ⟨zhf,#[.pointer p1],rfl,(zqI h.name q h.labels.length d h.has.c h.has.m h.has.g h.used.c h.used.m h.used.g p1 w3 _ ?_:FnP Tryz.prog zhf #[hv h q d,.pointer p1] w3 _)⟩
    intro b0 hb0 b1 hb1
    have hN3:=zlo (zau.ext hN (h2.trans h3))
    refine ⟨hp1,_,hN3.1,_,hN3.2.1,_,hN3.2.2,fun w5 h5=>?_⟩
    refine (zzc h.used a w5).mono fun v w6 ⟨e6,s,e,hv,hs⟩=>⟨e6,_,_,_,_,hv,fun w11 h11=>⟨h11,s,e,rfl,?_⟩⟩
    rcases hs with ⟨_,ha,hfit,rfl,rfl⟩|⟨hno,rfl,rfl⟩|⟨_,ha,hno,rfl,rfl⟩
    · exact .inr ⟨rfl,rfl⟩
    · exact .inl ⟨by omega,fun hc=>hno ⟨hok.2.2.2.2.1,hc.1⟩⟩
    · exact .inl ⟨by omega,fun hc=>hno hc.2⟩
  · rcases hr with ⟨hne,hn,hno⟩|⟨he,hok,hi0,hi1,hn,hc,s,hR,hAt⟩
    · refine .inl ⟨hne,hn,fun hok hi0 hi1=>?_⟩
      obtain ⟨s,hR⟩:=hno hok hi0 hi1
      rcases hR with ⟨_,h⟩|⟨h,_⟩
      · exact h
      · exact absurd h hne
    · rcases hR with ⟨h,_⟩|⟨_,rfl⟩
      · exact absurd rfl h
      · exact .inr ⟨he,hok,hi0,hi1,hn,hc,(hAt.ext h8).weak x2.size⟩
theorem zFH (k:Int) (key val:ByteArray) (n:Int) (l:Nat):zkR k key val n l≠5:=by
  unfold zkR
  repeat' split
  all_goals omega
theorem zyN:∀ {xs:List AT},(∀ x∈xs,zeS x≠5)->zAd xs≠5
  |[],_ => by unfold zAd; omega
  |x::r,h => by
    unfold zAd
    split
    · exact h x (List.mem_cons_self ..)
    · exact zyN fun y hy=>h y (List.mem_cons_of_mem _ hy)
theorem zFI (t:AT):zeS t≠5:=by
  refine AT.ind (P:=fun t=>zeS t≠5) (fun k key val n xs h=>?_) t
  unfold zeS
  split
  · exact zFH _ _ _ _ _
  · exact zyN h
theorem zFJ (t:AT):zl3 t≠5:=by
  unfold zl3
  split
  · omega
  · exact zFI t
def zbG (L:List Ht) (i:Int):Nd:=zii (L.getD i.toNat default).has (L.getD i.toNat default).used
def zFR (L:List Ht) (t:AT) (a:Nd) (i:Nat):Bool:=zwb (atH (L.getD i default)) t&&decide (zjU a (zii (L.getD i default).has (L.getD i default).used))
def zbY (L:List Ht) (t:AT) (a:Nd) (k:Nat):List Int:=((List.range k).filter (zFR L t a)).map (Int.ofNat ·)
theorem zwK (L:List Ht) (t:AT) (a:Nd) (k:Nat):zbY L t a (k+1)=if zFR L t a k=true then zbY L t a k++[(k:Int)] else zbY L t a k:=by
  unfold zbY
  rw [List.range_succ,List.filter_append,List.map_append]
  by_cases h:zFR L t a k=true<;>simp [h]
theorem zoi {L:List Ht} {t:AT} {a:Nd} {k:Nat} {x:Int}:x∈zbY L t a k↔0<=x/\x<k/\zFR L t a x.toNat=true:=by
  unfold zbY
  simp only [List.mem_map,List.mem_filter,List.mem_range]
  constructor
  · rintro ⟨n,⟨h1,h2⟩,rfl⟩
    exact ⟨Int.natCast_nonneg n,by simpa using h1,by simpa using h2⟩
  · rintro ⟨h1,h2,h3⟩
    exact ⟨x.toNat,⟨by omega,h3⟩,Int.toNat_of_nonneg h1⟩
theorem zhz (L:List Ht) (t:AT) (a:Nd) (k:Nat):(zbY L t a k).length<=k:=by
  unfold zbY
  rw [List.length_map]
  exact Nat.le_trans (List.length_filter_le _ _) (by simp)
theorem zwL (L:List Ht) (t:AT) (a:Nd) (k:Nat):(zbY L t a k).Pairwise (·<·):=by
  unfold zbY
  rw [List.pairwise_map]
  exact ((List.pairwise_lt_range (n:=k)).filter _).imp fun h=>by simpa using h
def zxa (L:List Ht) (t:AT) (a:Nd):Prop:=zkt L/\zl3 t=0/\okN a
theorem zCT {h:Ht} (hok:zGs h):okN (zii h.has h.used):=by
  obtain ⟨h1,h2,h3⟩:=hok.2.2.2.1
  obtain ⟨h4,h5,h6⟩:=hok.2.2.2.2.1
  obtain ⟨h7,h8,h9⟩:=hok.2.2.2.2.2
  refine ⟨?_,?_,?_⟩<;>simp only [zii]<;>omega
theorem zzA {h:Ht} (hok:zGs h) (w:World):FnP Tryz.prog zct #[nv h.has,nv h.used] w fun v w'=>Ext w w'/\v=.tuple #[nv (zii h.has h.used),.int .i64 0] :=
  (zzc h.has h.used w).mono fun v w' ⟨e,s,f,hv,hs⟩=>⟨e,by
    rcases hs with ⟨_,_,_,rfl,rfl⟩|⟨hno,_⟩|⟨_,_,hno,_⟩
    · exact hv
    · exact absurd ⟨hok.2.2.2.1,hok.2.2.2.2.1⟩ hno
    · exact absurd hok.2.2.2.2.2 hno⟩
theorem Fit_k (p:Option Addr) (c:Nat) (L:List Ht) (h63:(L.length:Int)<=9223372036854775807) (hO:∀ h∈L,zv3 h) (t:AT) (px:Option Addr) (cx:Nat) (hW:WfA t) (a:Nd) (w:World) (hL:zjE w p L) (hT:IsT w t px cx) :
    FnP Tryz.prog zl8 #[.slice p L.length c,av t px cx,nv a] w fun v w'=>Ext w w'/\∃ q n d e,v=.tuple #[.slice q n d,.int .i64 e]/\e≠5/\(∀ x,q=some x->w.heap.size<=x.block) /\
      ((e≠0/\n=0/\¬ zxa L t a)\/(e=0/\zxa L t a/\n=(zbY L t a L.length).length/\zes .i64 w' q (zbY L t a L.length))):=by
  refine zxl p L.length c t.k t.key t.val t.n px t.xs.length cx a.c a.m a.g w _ fun b0 hb0 b1 hb1 w2 h2=>?_
  refine (zsm p c L h63 hO w2 (hL.ext h2)).mono fun v w3 ⟨e3,e,hv,he,h5,_⟩=>⟨e3,e,hv,fun hne w5 h5'=>⟨h5',_,_,_,_,rfl,h5,fun x hx=>by (cases hx),.inl ⟨hne,rfl,fun ho=>hne (he.2 ho.1)⟩⟩,fun h0 w5 h5=>?_⟩
  have hok:=he.1 h0
  refine (zoB t px cx w5 (hT.ext h5 _ _ _) hW).mono fun v w6 ⟨e6,hv⟩=>⟨e6,_,hv,fun hne w8 h8=>⟨h8,_,_,_,_,rfl,zFJ t,fun x hx=>by (cases hx),.inl ⟨hne,rfl,fun ho=>hne ho.2.1⟩⟩,fun hc w8 h8=>?_⟩
  refine (zet a w8).mono fun v w9 ⟨e9,hv⟩=>⟨e9,_,hv,fun hne w11 h11=>⟨h11,_,_,_,_,rfl,(by unfold zyO; split<;>omega),fun x hx=>by (cases hx),.inl ⟨hne,rfl,fun ho=>hne (zba.2 ho.2.2)⟩⟩,fun ha=>?_⟩
  have ha:=zba.1 ha
  refine ⟨fun q l d k w'=>Ext w w'/\0<=k/\k<=L.length/\l=(zbY L t a k.toNat).length/\Own w.heap.size w' zfJ 1 q l d ((zbY L t a k.toNat).map (.int .i64))/\∀ b∈[b0,b1],∀ x,q=some x->x.block≠b,
    fun _ _ _ k _=>(L.length-k).toNat,⟨Ext.refl w,by omega,by omega,rfl,Own.nil,fun b _ x hx=>by cases hx⟩,?_⟩
  rintro q l d k w14 ⟨x14,hk0,hk1,rfl,o14,hb14⟩
  refine ⟨fun hlt=>?_,fun hge w15 h15=>⟨x14.trans h15,q,_,d,0,rfl,by omega,fun x hx=>(o14.lt x hx).1,.inr ⟨rfl,⟨hok,hc,ha⟩,?_,?_⟩⟩⟩
  · obtain ⟨qh,dh,hp,hp8,g,hLb⟩:=(hL.ext x14).at hk0 hlt
    have hm:=zaq L default (i:=k.toNat) (by omega)
    have hfit:zFR L t a k.toNat=(zwb (atH (L.getD k.toNat default)) t&&decide (zjU a (zii (L.getD k.toNat default).has (L.getD k.toNat default).used))):=rfl
    generalize hHd:L.getD k.toNat default=H at g hLb hm hfit
    have hoH:=hok.2.1 H hm
    refine ⟨hp,hk0,hlt,hp8,_,g 0 _ rfl,_,_,_,g 1 _ rfl,_,g 2 _ rfl,_,g 3 _ rfl,_,g 4 _ rfl,_,g 5 _ rfl,_,g 6 _ rfl,_,g 7 _ rfl,fun b25 hb25 w26 h26=>?_⟩
    refine (zzA hoH w26).mono fun v w27 ⟨e27,hv⟩=>⟨e27,_,_,_,_,hv,fun b32 hb32 w33 h33=>?_⟩
    refine (zIi t px cx H qh dh (hO H hm).2.1 w33 (hT.ext (x14.trans h33) _ _ _) hW (hLb.ext h33)).mono fun v w34 ⟨e34,hv⟩=>⟨e34,_,_,hv,fun w37 h37=>?_⟩
    rw [if_pos hc]
    refine (zw4 a (zii H.has H.used) w37).mono fun v w38 ⟨e38,tt,e,hv,ht⟩=>⟨e38,_,_,hv,?_⟩
    have ht:tt=decide (zjU a (zii H.has H.used)):=by
      rcases ht with ⟨_,_,_,h⟩|⟨hno,_⟩
      · exact h
      · exact absurd ⟨ha,zCT hoH⟩ hno
    subst ht
    have hsucc:=zwK L t a k.toNat
    refine ⟨fun hb w41 x41=>?_,fun hb=>?_⟩
    · have hyes:zFR L t a k.toNat=true:=by rw [hfit,hb.1,hb.2]; rfl
      rw [if_pos hyes] at hsucc
      have hln:=zhz L t a k.toNat
      have hs14:=x14.size
      have h30:=hok.1
      refine zgX (e:=zfJ) (B:=w.heap.size) (ns:=[b0,b1,b25,b32]) zfr o14 hs14 (fun b hb x hx=>?_) (by omega) (by omega) (fun p' c' w' o' g' hp' hns'=>⟨i64 (by omega),⟨?_,by omega,by omega,?_,?_,fun b hb x hx=>hns' b (by simp at hb ⊢; rcases hb with rfl|rfl<;>simp) x hx⟩,by simp only []; omega⟩) w41 x41
      · have:=o14.lt x hx
        simp at hb
        rcases hb with rfl|rfl|rfl|rfl
        · exact hb14 _ (by simp) x hx
        · exact hb14 _ (by simp) x hx
        · omega
        · omega
      · exact g'.ext x14 o14
      · rw [show (k+1).toNat=k.toNat+1 by omega,hsucc]; simp
      · rw [show (k+1).toNat=k.toNat+1 by omega,hsucc]
        rw [show ((k.toNat:Nat):Int)=k by omega]
        exact o'
    · have hno:zFR L t a k.toNat=false:=by
        rw [hfit]
        rcases hb with hb|hb<;>rw [hb]<;>simp
      rw [hno] at hsucc
      rw [if_neg (by simp)] at hsucc
      refine ⟨i64 (by omega),⟨x14,by omega,by omega,?_,?_,hb14⟩,by simp only []; omega⟩
      · rw [show (k+1).toNat=k.toNat+1 by omega,hsucc]
      · rw [show (k+1).toNat=k.toNat+1 by omega,hsucc]; exact o14
  · rw [show k.toNat=L.length by omega]
  · rw [show k.toNat=L.length by omega] at o14
    exact (o14.ext h15).cells
theorem zBi (p:Option Addr) (c:Nat) (X:List Int) (h63:(X.length:Int)<=9223372036854775807) (hX:X≠[]) (f:Value) (C:Int->Int->Int) (hC:∀ x y z,C x y<0->0<=C z y->0<=C z x) (hR:∀ x,0<=C x x) (w:World) (h:zes .i64 w p X)
    (hT:∀ x y,C x y<0->0<=C y x) (hS:∀ x y z,C x y<0->0<=C z y->C x z<0)
    (hf:∀ x∈X,∀ y∈X,∀ w',Ext w w'->zic Tryz.prog f [.int .i64 x,.int .i64 y] w' fun v w''=>Ext w' w''/\v=.int .i64 (C x y)) :
    FnP Tryz.prog zb2 #[.slice p X.length c,f] w fun v w'=>Ext w w'/\∃ m,v=.int .i64 m/\m∈X/\(∀ y∈X,0<=C y m)/\∃ a:Nat,a<X.length/\X.getD a 0=m/\∀ j,j<a->C m (X.getD j 0)<0:=by
  have hlen:0<X.length:=by cases X with|nil=>exact absurd rfl hX|cons=>simp
  refine zgt p X.length c f w _ ⟨fun hlt=>by omega,fun _=>?_⟩
  have g0:=zes.idx h (i:=0) (by omega) (by omega)
  have hm0:=zaq X 0 (i:=0) (by omega)
  refine ⟨fun hq=>zak g0 (zah.2 hq),by omega,by omega,_,g0,?_⟩
  refine ⟨fun m i w'=>w'=w/\1<=i/\i<=X.length/\m∈X/\(∀ j:Nat,(j:Int)<i->0<=C (X.getD j 0) m)/\∃ a:Nat,(a:Int)<i/\X.getD a 0=m/\∀ j,j<a->C m (X.getD j 0)<0,fun _ i _=>(X.length-i).toNat,⟨rfl,by omega,by omega,hm0,fun j hj=>?_,0,by omega,rfl,fun j hj=>by omega⟩,?_⟩
  · obtain rfl:j=0:=by omega
    exact hR _
  rintro m i w4 ⟨rfl,hi0,hi1,hmm,hall,a,ha,ham,haj⟩
  refine ⟨fun hlt=>?_,fun hge w5 h5=>⟨h5,m,rfl,hmm,fun y hy=>?_,a,by omega,ham,haj⟩⟩
  · have g:=zes.idx h (i:=i) (by omega) hlt
    have hx:=zaq X 0 (i:=i.toNat) (by omega)
    have hp:p≠none:=fun hq=>zak g (zah.2 hq)
    refine ⟨hp,by omega,hlt,_,g,fun w6 h6=>?_⟩
    obtain ⟨fi,cap,hfe,hfp⟩:=hf _ hx m hmm w6 h6
    refine ⟨fi,cap,hfe,hfp.mono fun v w7 ⟨e7,hv⟩=>⟨e7,_,hv,fun hneg=>⟨hp,by omega,hlt,_,g,i64 (by omega),⟨rfl,by omega,by omega,hx,fun j hj=>?_,i.toNat,by omega,rfl,fun j hj=>hS _ _ _ hneg (hall j (by omega))⟩,by simp only []; omega⟩,fun hpos=>⟨i64 (by omega),⟨rfl,by omega,by omega,hmm,fun j hj=>?_,a,by omega,ham,haj⟩,by simp only []; omega⟩⟩⟩
    · by_cases hji:(j:Int)<i
      · exact hC _ _ _ hneg (hall j hji)
      · obtain rfl:j=i.toNat:=by omega
        exact hR _
    · by_cases hji:(j:Int)<i
      · exact hall j hji
      · obtain rfl:j=i.toNat:=by omega
        exact hpos
  · obtain ⟨j,hj,rfl⟩:=List.getElem_of_mem hy
    have:=hall j (by omega)
    simpa [List.getD_eq_getElem?_getD,hj] using this
def zv8 (a b:Int):Int:=if a<b then -1 else if b<a then 1 else 0
theorem zoC (x y:Int) (w:World):FnP Tryz.prog zbw #[.int .i64 x,.int .i64 y] w fun v w'=>Ext w w'/\v=.int .i64 (zv8 x y):=by
  have nan:∀ (x:Int) (w:World),FnP Tryz.prog zcR #[.int .i64 x] w fun v w'=>Ext w w'/\v=.bool false:=fun x w=>zlv x w _ fun w0 h0=>⟨h0,by simp⟩
  refine zjH x y w _ fun w0 h0=>(nan x w0).mono fun v w1 ⟨e1,hv⟩=>⟨e1,_,hv,fun w3 h3=>(nan y w3).mono fun v w4 ⟨e4,hv⟩=>⟨e4,_,hv,fun h=>by (cases h),fun _=>⟨fun h=>by (cases h),fun _=>⟨fun hlt w6 h6=>⟨h6,?_⟩,fun hge=>⟨fun hlt w6 h6=>⟨h6,?_⟩,fun hle w6 h6=>⟨h6,?_⟩⟩⟩⟩⟩⟩
  · unfold zv8; rw [if_pos hlt]
  · unfold zv8; rw [if_neg (by omega),if_pos hlt]
  · unfold zv8; rw [if_neg (by omega),if_neg (by omega)]
theorem Or3_k (p:Option Addr) (c:Nat) (a b d:Int) (w:World) (h:zes .i64 w p [a,b,d]):FnP Tryz.prog ziB #[.slice p 3 c] w fun v w'=>Ext w w'/\v=.int .i64 (if a≠0 then a else if b≠0 then b else d):=by
  refine zsR p 3 c w _ ?_
  refine ⟨fun k w'=>w'=w/\0<=k/\k<=3/\∀ j:Nat,(j:Int)<k->[a,b,d].getD j 0=0,fun k _=>(3-k).toNat,⟨rfl,by omega,by omega,fun j hj=>by omega⟩,?_⟩
  rintro k w2 ⟨rfl,hk0,hk1,hz⟩
  refine ⟨fun hlt=>?_,fun hge w3 h3=>⟨h3,?_⟩⟩
  · have hlt:k<3:=by simpa using hlt
    have g:=zes.idx h hk0 (by simpa using hlt)
    refine ⟨fun hq=>zak g (zah.2 hq),hk0,by simpa using hlt,_,g,fun hne w4 h4=>⟨h4,?_⟩,fun he=>⟨i64 (by omega),⟨rfl,by omega,by omega,fun j hj=>?_⟩,by simp only []; omega⟩⟩
    · have:k=0\/k=1\/k=2:=by omega
      rcases this with rfl|rfl|rfl
      · rw [if_pos (by simpa using hne)]; rfl
      · have h0:=hz 0 (by omega)
        rw [if_neg (by simpa using h0),if_pos (by simpa using hne)]; rfl
      · have h0:=hz 0 (by omega)
        have h1:=hz 1 (by omega)
        rw [if_neg (by simpa using h0),if_neg (by simpa using h1)]; rfl
    · by_cases hjk:(j:Int)<k
      · exact hz j hjk
      · obtain rfl:j=k.toNat:=by omega
        exact he
  · obtain rfl:k=3:=by simp at hge; omega
    have h0:=hz 0 (by omega)
    have h1:=hz 1 (by omega)
    have h2:=hz 2 (by omega)
    rw [if_neg (by simpa using h0),if_neg (by simpa using h1)]
    exact congrArg _ (by simpa using h2.symm)
def zwx (a b:Nd):Int:=if zv8 a.c b.c≠0 then zv8 a.c b.c else if zv8 a.m b.m≠0 then zv8 a.m b.m else zv8 a.g b.g
theorem ze4 {a b:Nd}:zwx a b<0↔a.c<b.c\/a.c=b.c/\(a.m<b.m\/a.m=b.m/\a.g<b.g):=by
  unfold zwx zv8
  repeat' split
  all_goals omega
theorem zJP (p1 p:Option Addr) (c:Nat) (L:List Ht) (hok:zkt L) (i:Int) (hi0:0<=i) (hi1:i<L.length) (w:World) (hc:Go.Sx.cell w p1 0=some (.slice p L.length c)) (hL:zjE w p L) :
    FnP Tryz.prog zcV #[.int .i64 i,.pointer p1] w fun v w'=>Ext w w'/\v=nv (zbG L i):=by
  obtain ⟨q,d,hp,hp8,g,_⟩:=hL.at hi0 hi1
  have hm:=hok.2.1 _ (zaq L default (i:=i.toNat) (by omega))
  have hlf:zbG L i=zii (L.getD i.toNat default).has (L.getD i.toNat default).used:=rfl
  generalize hHd:L.getD i.toNat default=H at g hm hlf
  have g':∀ (o j:Nat) u,(zEJ H q d)[o+j]?=some u->Go.Sx.cell w (pAdd (pIdx p i 8) o) j=some u:=fun o j u hu=>by rw [zam]; exact g _ u hu
  have x2:=zak (g' 2 0 _ rfl)
  have x5:=zak (g' 5 0 _ rfl)
  refine zqG i p1 w _ fun b0 hb0=>⟨fun n e w'=>Ext w w'/\zBj w' n (zbG L i),⟨p,L.length,c,hc,hp,hi0,hi1,hp8,x2,_,g' 2 0 _ rfl,_,g' 2 1 _ rfl,_,g' 2 2 _ rfl,p,L.length,c,hc,hp,hi0,hi1,hp8,x5,_,g' 5 0 _ rfl,_,g' 5 1 _ rfl,_,g' 5 2 _ rfl,?_,?_⟩,?_⟩
  · intro w17 h17
    refine (zzA hm w17).mono fun v w18 ⟨e18,hv⟩=>⟨e18,_,_,_,_,hv,fun w23 x23=>?_⟩
    have hb:b0<w23.heap.size:=x23.lt b0 (by simp)
    refine (zc2.nil (ns:=[b0]) (zaa x23)).new_row (by intro v hv; simp at hv; subst hv; rfl) (by simpa using hb) fun p24 w24 H24 e24=>?_
    refine H24.store 0 rfl 0 (ze5 _) (by simp) (by simp) (by intro v hv; simp at hv; rcases hv with rfl|rfl|rfl<;>rfl) (by have:=e24.size; simp; omega) fun w25 H25 g25=>⟨H25.ext,?_⟩
    rw [hlf]
    exact (H25.get 0 rfl).cells
  · intro w17 x17
    have hb:b0<w17.heap.size:=x17.lt b0 (by simp)
    refine (zc2.nil (ns:=[b0]) (zaa x17)).new_row (by intro v hv; simp at hv; subst hv; rfl) (by simpa using hb) fun p18 w18 H18 e18 w19 h19=>?_
    refine (zzA hm w19).mono fun v w20 ⟨e20,hv⟩=>⟨e20,_,_,_,_,hv,?_⟩
    refine H18.store 0 rfl 0 (ze5 _) (by simp) (by simp) (by intro v hv; simp at hv; rcases hv with rfl|rfl|rfl<;>rfl) (by have:=e18.size; simp; omega) fun w25 H25 g25=>⟨H25.ext,?_⟩
    rw [hlf]
    exact (H25.get 0 rfl).cells
  · rintro n e w4 ⟨x4,hN⟩
    have hN3:=zlo hN
    exact ⟨zak hN3.1,_,hN3.1,_,hN3.2.1,_,hN3.2.2,fun w8 x8=>⟨zwG x8 x4 hb0,rfl⟩⟩
theorem zJQ (p14 p1 p:Option Addr) (c:Nat) (L:List Ht) (hok:zkt L) (i:Int) (hi0:0<=i) (hi1:i<L.length) (k:Int) (hk0:0<=k) (hk1:k<L.length) (w:World) (hc:Go.Sx.cell w p1 0=some (.slice p L.length c)) (hL:zjE w p L)
    (hf:Go.Sx.cell w p14 0=some (.func (.func zcV) #[] #[.pointer p1])) :
    FnP Tryz.prog zhe #[.int .i64 i,.int .i64 k,.pointer p14] w fun v w'=>Ext w w'/\v=.int .i64 (zwx (zbG L i) (zbG L k)):=by
  have call:∀ j:Int,0<=j->j<L.length->∀ w',Ext w w'->zic Tryz.prog (.func (.func zcV) #[] #[.pointer p1]) [.int .i64 j] w' fun v w''=>Ext w' w''/\v=nv (zbG L j):=fun j h0 h1 w' hx =>
    ⟨zcV,#[.pointer p1],rfl,zJP p1 p c L hok j h0 h1 w' (zaI hx hc) (hL.ext hx)⟩
  have calli:=call i hi0 hi1
  have callk:=call k hk0 hk1
  have vmono:∀ {f:Value} {args:List Value} {w:World} {K K':Value->World->Prop},zic Tryz.prog f args w K->(∀ v w',K v w'->K' v w')->zic Tryz.prog f args w K':=fun ⟨f,c,h1,h2⟩ hk=>⟨f,c,h1,h2.mono hk⟩
  have H0:zc2 w [] w []:=zc2.nil (Ext.refl w)
  let row:Option Addr->Nd->znN:=fun p x=>⟨zid,3,p,1,1,zv9 x⟩
  refine zqH i k p14 w _ ⟨fun a b w'=>∃ rs,zc2 w [] w' rs/\∃ m n:Nat,rs[m]?=some (row a (zbG L i))/\rs[n]?=some (row b (zbG L k)),⟨_,hf,_,hf,?_⟩,?_⟩
  · repeat' (first
      |exact ⟨_,by assumption,0,1,rfl,rfl⟩
      |exact ⟨_,by assumption,1,0,rfl,rfl⟩
      |(refine (by assumption:zc2 w [] _ _).new_row (by intro v hv; simp at hv; subst hv; rfl) (by simp) fun _ _ _ _ => ?_)
      |(refine zc2.store (by assumption) 0 (e:=zid) (s:=3) rfl 0 (ze5 _) (by simp) (by simp) (by intro v hv; simp at hv; rcases hv with rfl|rfl|rfl<;>rfl) (by simp) fun _ _ _ => ?_)
      |(refine zc2.store (by assumption) 1 (e:=zid) (s:=3) rfl 0 (ze5 _) (by simp) (by simp) (by intro v hv; simp at hv; rcases hv with rfl|rfl|rfl<;>rfl) (by simp) fun _ _ _ => ?_)
      |(refine vmono (calli _ (by first|assumption|exact zc2.ext (by assumption))) fun _ _ ⟨ex,hv⟩ => ⟨ex,_,_,_,hv,?_⟩)
      |(refine vmono (callk _ (by first|assumption|exact zc2.ext (by assumption))) fun _ _ ⟨ex,hv⟩ => ⟨ex,_,_,_,hv,?_⟩)
      |(refine ⟨?_,?_⟩)
      |(intro wx hx; have Hx:=zc2.to (w0:=w) (ns:=[]) (by assumption) hx))
  · rintro a b w3 ⟨rs,H3,m,n,hm,hn⟩
    have ca:zBj w3 a (zbG L i):=(H3.get m hm).cells
    have cb:zBj w3 b (zbG L k):=(H3.get n hn).cells
    have ca':=zlo ca
    have cb':=zlo cb
    have z:∀ {p:Option Addr} {o:Nat} {v:Value},Go.Sx.cell w3 p o=some v->Go.Sx.cell w3 (pAdd p o) 0=some v:=fun h=>by rw [zam]; exact h
    refine ⟨zak ca'.1,_,z ca'.1,zak cb'.1,_,z cb'.1,zak ca'.1,_,z ca'.2.1,zak cb'.1,_,z cb'.2.1,zak ca'.1,_,z ca'.2.2,zak cb'.1,_,z cb'.2.2,fun w10 h10=>?_⟩
    refine (zoC _ _ w10).mono fun v w11 ⟨e11,hv⟩=>⟨e11,_,hv,fun w13 h13=>?_⟩
    refine (zoC _ _ w13).mono fun v w14 ⟨e14,hv⟩=>⟨e14,_,hv,fun w16 h16=>?_⟩
    refine (zoC _ _ w16).mono fun v w17 ⟨e17,hv⟩=>⟨e17,_,hv,fun w19 h19=>?_⟩
    refine zcC zfr [.int .i64 (zv8 (zbG L i).c (zbG L k).c),.int .i64 (zv8 (zbG L i).m (zbG L k).m),.int .i64 (zv8 (zbG L i).g (zbG L k).g)] rfl rfl (by intro v hv; simp at hv; rcases hv with rfl|rfl|rfl<;>rfl) (by omega) (by omega) fun w20 o20 e20=>⟨e20,_,_,_,rfl,fun w24 h24=>?_⟩
    refine (Or3_k _ 3 (zv8 (zbG L i).c (zbG L k).c) (zv8 (zbG L i).m (zbG L k).m) (zv8 (zbG L i).g (zbG L k).g) w24 (by have:=((o20 0 (Nat.zero_le _)).ext h24).cells; simpa [Value.cells,zes] using this)).mono fun v w25 ⟨e25,hv⟩=>⟨e25,_,hv,fun w27 h27=>⟨((H3.ext.trans h19).trans e20).trans h27,?_⟩⟩
    rfl
def zfS (L:List Ht) (t:AT) (a:Nd) (k:Int):Prop:=k∈zbY L t a L.length/\∀ j∈zbY L t a L.length,0<=zwx (zbG L j) (zbG L k)/\(j<k->zwx (zbG L k) (zbG L j)<0)
theorem zFd {L:List Ht} {t:AT} {a:Nd} {k m:Int} (h:zfS L t a k) (g:zfS L t a m):k=m:=by
  have h1:=h.2 m g.1
  have g1:=g.2 k h.1
  rcases Int.lt_trichotomy k m with hl|hl|hl
  · have:=g1.2 hl; have:=h1.1; omega
  · exact hl
  · have:=h1.2 hl; have:=g1.1; omega
theorem zHe (p:Option Addr) (c:Nat) (L:List Ht) (h63:(L.length:Int)<=9223372036854775807) (hO:∀ h∈L,zv3 h) (t:AT) (px:Option Addr) (cx:Nat) (hW:WfA t) (a:Nd) (w:World) (hL:zjE w p L) (hT:IsT w t px cx) :
    FnP Tryz.prog zfi #[.slice p L.length c,av t px cx,nv a] w fun v w'=>Ext w w'/\∃ k e,v=.tuple #[.int .i64 k,.int .i64 e] /\
      ((e≠0/\k=0/\(e=5↔zxa L t a)/\(zxa L t a->zbY L t a L.length=[]))\/(e=0/\zxa L t a/\zfS L t a k)):=by
  refine zuZ p L.length c t.k t.key t.val t.n px t.xs.length cx a.c a.m a.g w _ fun w0 h0=>?_
  refine zbC (by intro v hv; simp at hv; subst hv; rfl) fun w1 o1 e1=>?_
  generalize hp1:(some ⟨w0.heap.size,0,none⟩:Option Addr)=p1
  rw [hp1] at o1
  have c1:Go.Sx.cell w1 p1 0=some (.slice p L.length c):=(o1 0 (Nat.zero_le _)).cells 0 _ rfl
  intro b2 hb2 b3 hb3
  refine ⟨p,L.length,c,c1,fun w7 x7=>?_⟩
  have x7':=(h0.trans e1).trans (zaa x7)
  refine (Fit_k p c L h63 hO t px cx hW a w7 (hL.ext x7') (hT.ext x7' _ _ _)).mono fun v w8 ⟨e8,q,n,d,e,hv,h5,hnew,hr⟩=>⟨e8,q,n,d,e,hv,?_⟩
  have x8:=x7'.trans e8
  rcases hr with ⟨hne,rfl,hno⟩|⟨rfl,hok,rfl,hI⟩
  · exact ⟨fun _ w13 h13=>⟨x8.trans h13,_,_,rfl,.inl ⟨hne,rfl,⟨fun h=>absurd h h5,fun h=>absurd h hno⟩,fun h=>absurd h hno⟩⟩,fun h=>absurd h hne⟩
  refine ⟨fun h=>absurd rfl h,fun _=>⟨fun hz w13 h13=>⟨x8.trans h13,_,_,rfl,.inl ⟨by omega,rfl,⟨fun _=>hok,fun _=>rfl⟩,fun _=>List.length_eq_zero_iff.1 (by omega)⟩⟩,fun hnz w13 x13=>?_⟩⟩
  have x13':=x8.trans (zaa x13)
  refine (zc2.nil (w0:=w13) (ns:=[b2,b3]) (Ext.refl w13)).new_row (by intro v hv; simp at hv; subst hv; rfl) (x13.lt) fun p14 w14 H14 e14=>?_
  refine H14.store 0 rfl 0 (ze5 _) (by simp) (by simp) (by intro v hv; simp at hv; subst hv; rfl) (fun b hb=>Nat.lt_of_lt_of_le (x13.lt b hb) e14.size) fun w15 H15 g15 w16 h16=>?_
  have e15:=H15.ext
  have x16:=(x13'.trans e15).trans h16
  have cf:Go.Sx.cell w16 p14 0=some (.func (.func zcV) #[] #[.pointer p1]):=zaI h16 ((H15.get 0 rfl).cells 0 _ rfl)
  have c16:Go.Sx.cell w16 p1 0=some (.slice p L.length c):=zaI ((((zaa x7).trans e8).trans (zaa x13)).trans (e15.trans h16)) c1
  have hln:=zhz L t a L.length
  refine (zBi q d (zbY L t a L.length) (by omega) (by intro h; rw [h] at hnz; simp at hnz) _ (fun x y=>zwx (zbG L x) (zbG L y)) (fun x y z h1 h2=>?_) (fun x=>?_) w16 (hI.ext (((zaa x13).trans e15).trans h16)) (fun x y h1=>?_) (fun x y z h1 h2=>?_) fun x hx y hy w' hx'=>?_).mono fun v w17 ⟨e17,m,hv,hm,hall,a',ha',ham,haj⟩=>⟨e17,m,hv,fun w19 h19=>⟨(x13'.trans e15).trans h19,_,_,rfl,.inr ⟨rfl,hok,hm,fun j hj=>⟨hall j hj,fun hjm=>?_⟩⟩⟩⟩
  · have h1:=ze4.1 h1
    have h2:¬ zwx (zbG L z) (zbG L y)<0:=by omega
    rw [ze4] at h2
    have h3:¬ zwx (zbG L z) (zbG L x)<0:=by rw [ze4]; omega
    show 0<=zwx (zbG L z) (zbG L x)
    omega
  · have:¬ zwx (zbG L x) (zbG L x)<0:=by rw [ze4]; omega
    show 0<=zwx (zbG L x) (zbG L x)
    omega
  · have h1:=ze4.1 h1
    have:¬ zwx (zbG L y) (zbG L x)<0:=by rw [ze4]; omega
    show 0<=zwx (zbG L y) (zbG L x)
    omega
  · have h1:=ze4.1 h1
    have h2:¬ zwx (zbG L z) (zbG L y)<0:=by omega
    rw [ze4] at h2
    show zwx (zbG L x) (zbG L z)<0
    rw [ze4]
    omega
  · have hx1:=zoi.1 hx
    have hy1:=zoi.1 hy
    exact ⟨zhe,#[.pointer p14],rfl,zJQ p14 p1 p c L hok.1 x hx1.1 hx1.2.1 y hy1.1 hy1.2.1 w' (zaI hx' c16) (hL.ext (x16.trans hx')) (zaI hx' cf)⟩
  · obtain ⟨b,hb,rfl⟩:=List.getElem_of_mem hj
    have hbg:(zbY L t a L.length).getD b 0=(zbY L t a L.length)[b]:=by simp [List.getD_eq_getElem?_getD,hb]
    have hba:b<a':=by
      rcases Nat.lt_or_ge b a' with h|h
      · exact h
      exfalso
      have hs:=zwL L t a L.length
      have ham':(zbY L t a L.length)[a']=m:=by rw [<- ham]; simp [List.getD_eq_getElem?_getD,ha']
      rcases Nat.lt_or_ge a' b with h2|h2
      · have:=(List.pairwise_iff_getElem.1 hs) a' b ha' hb h2
        omega
      · obtain rfl:a'=b:=by omega
        omega
    have:=haj b hba
    rw [hbg] at this
    exact this
theorem zCz {W:World} {p:Option Addr} {l c:Nat} (h:zaH Tryz.prog W zez p l c):∃ L:List Ht,L.length=l/\(L.length:Int)<=9223372036854775807/\(∀ h∈L,zv3 h)/\zjE W p L:=by
  have labels:∀ {q:Option Addr} {m d:Nat},zaH Tryz.prog W zmb q m d->∃ L:List Lb,L.length=m/\(∀ l∈L,l.key.size<=9223372036854775807/\l.val.size<=9223372036854775807)/\Lbs W q L:=by
    intro q m d h
    obtain ⟨L,h1,h2,h3⟩:=h.list (α:=Lb) zsh (fun l=>l.key.size<=9223372036854775807/\l.val.size<=9223372036854775807) (fun n es hg he=>by
      have hlv:=zcJ (P:=Tryz.prog) 6 zmb [zay,zay] n es (by kernel_rfl) hg
      obtain ⟨v0,r0,rfl,l0,hlv⟩:=zai hlv
      obtain ⟨v1,r1,rfl,l1,hlv⟩:=zai hlv
      obtain rfl:=zhE hlv
      obtain ⟨a,rfl,ha⟩:=zcY (by kernel_rfl) l0
      obtain ⟨b,rfl,hb⟩:=zcY (by kernel_rfl) l1
      exact ⟨⟨a,b⟩,rfl,ha,hb⟩)
    refine ⟨L,h1,h2,fun i x hx j u hu=>?_⟩
    have:=h3 i x hx j u hu
    rwa [show Tryz.prog.cellsOf zmb=2 by kernel_rfl] at this
  obtain ⟨M,h1,h2,h3⟩:=h.list (α:=Hm) zjr (fun m=>zv3 m.h/\Lbs W m.q m.h.labels) (fun n es hg he=>by
    have hlv:=zcJ (P:=Tryz.prog) 6 zez [zay,zzU,zdb,zdb,zdb,zdb,zdb,zdb] n es (by kernel_rfl) hg
    obtain ⟨v0,r0,rfl,l0,hlv⟩:=zai hlv
    obtain ⟨v1,r1,rfl,l1,hlv⟩:=zai hlv
    obtain ⟨v2,r2,rfl,l2,hlv⟩:=zai hlv
    obtain ⟨v3,r3,rfl,l3,hlv⟩:=zai hlv
    obtain ⟨v4,r4,rfl,l4,hlv⟩:=zai hlv
    obtain ⟨v5,r5,rfl,l5,hlv⟩:=zai hlv
    obtain ⟨v6,r6,rfl,l6,hlv⟩:=zai hlv
    obtain ⟨v7,r7,rfl,l7,hlv⟩:=zai hlv
    obtain rfl:=zhE hlv
    obtain ⟨nm,rfl,hnm⟩:=zcY (by kernel_rfl) l0
    obtain ⟨q,m,d,rfl,s1,s2,s3,s4⟩:=zfa (e:=zmb) (by kernel_rfl) l1
    obtain ⟨x2,rfl,_⟩:=zaJ (k:=.i64) (by kernel_rfl) l2
    obtain ⟨x3,rfl,_⟩:=zaJ (k:=.i64) (by kernel_rfl) l3
    obtain ⟨x4,rfl,_⟩:=zaJ (k:=.i64) (by kernel_rfl) l4
    obtain ⟨x5,rfl,_⟩:=zaJ (k:=.i64) (by kernel_rfl) l5
    obtain ⟨x6,rfl,_⟩:=zaJ (k:=.i64) (by kernel_rfl) l6
    obtain ⟨x7,rfl,_⟩:=zaJ (k:=.i64) (by kernel_rfl) l7
    obtain ⟨L,rfl,hLo,hLl⟩:=labels (zaH.mk s1 s2 s3 s4)
    exact ⟨⟨⟨nm,L,⟨x2,x3,x4⟩,⟨x5,x6,x7⟩⟩,q,d⟩,rfl,⟨hnm,by simp only []; omega,hLo⟩,hLl⟩)
  rw [show Tryz.prog.cellsOf zez=8 by kernel_rfl] at h3
  have hle:=h.le
  have hmx:=h.max
  refine ⟨M.map (·.h),by simpa using h1,by simp; omega,fun x hx=>?_,ms_hs h3 fun m hm=>(h2 m hm).2⟩
  obtain ⟨m,hm,rfl⟩:=List.mem_map.1 hx
  exact (h2 m hm).1
theorem zEV (p:Option Addr) (c:Nat) (X:List Int) (h63:(X.length:Int)<=9223372036854775807) (f:Value) (Pr:Int->Bool) (w:World) (h:zes .i64 w p X)
    (hf:∀ x∈X,∀ w',Ext w w'->zic Tryz.prog f [.int .i64 x] w' fun v w''=>Ext w' w''/\v=.bool (Pr x)) :
    FnP Tryz.prog zbJ #[.slice p X.length c,f] w fun v w'=>Ext w w'/\∃ t,v=.int .i64 t/\(0<=t↔∃ x∈X,Pr x=true):=by
  refine zfx p X.length c f w _ ?_
  refine ⟨fun k w'=>w'=w/\0<=k/\k<=X.length/\∀ j:Nat,(j:Int)<k->Pr (X.getD j 0)=false,fun k _=>(X.length-k).toNat,⟨rfl,by omega,by omega,fun j hj=>by omega⟩,?_⟩
  rintro k w ⟨rfl,hk0,hk1,hno⟩
  refine ⟨fun hlt=>?_,fun hge w4 h4=>⟨h4,_,rfl,?_⟩⟩
  · have g:=zes.idx h hk0 hlt
    refine ⟨fun hq=>zak g (zah.2 hq),hk0,hlt,_,g,fun w4 h4=>?_⟩
    obtain ⟨fi,cap,hfe,hfp⟩:=hf _ (zaq X 0 (i:=k.toNat) (by omega)) w4 h4
    refine ⟨fi,cap,hfe,hfp.mono fun v w5 ⟨e5,hv⟩=>⟨e5,_,hv,fun hyes w9 h9=>⟨h9,_,rfl,fun _=>⟨_,zaq X 0 (by omega),hyes⟩,fun _=>hk0⟩,fun hn=>⟨i64 (by omega),⟨rfl,by omega,by omega,fun j hj=>?_⟩,by simp only []; omega⟩⟩⟩
    by_cases hjk:(j:Int)<k
    · exact hno j hjk
    · obtain rfl:j=k.toNat:=by omega
      exact hn
  · constructor
    · intro h; omega
    · rintro ⟨x,hm,hx⟩
      obtain ⟨j,hj,rfl⟩:=List.getElem_of_mem hm
      have:=hno j (by omega)
      rw [show X.getD j 0=X[j] by simp [List.getD_eq_getElem?_getD,hj],hx] at this
      cases this
theorem zoD (p:Option Addr) (c:Nat) (X:List Int) (h63:(X.length:Int)<=9223372036854775807) (f:Value) (Pr:Int->Bool) (w:World) (h:zes .i64 w p X)
    (hf:∀ x∈X,∀ w',Ext w w'->zic Tryz.prog f [.int .i64 x] w' fun v w''=>Ext w' w''/\v=.bool (Pr x)) :
    FnP Tryz.prog zaT #[.slice p X.length c,f] w fun v w'=>Ext w w'/\∃ b:Bool,v=.bool b/\(b=true↔∃ x∈X,Pr x=true):=by
  refine zeD p X.length c f w _ ?_
  intro w1 h1
  refine (zEV p c X h63 f Pr w1 (h.ext h1) fun x hx w' hw=>hf x hx w' (h1.trans hw)).mono fun v w2 ⟨e2,t,hv,ht⟩=>⟨e2,t,hv,fun w4 h4=>⟨h4,_,rfl,?_⟩⟩
  rw [decide_eq_true_iff]; exact ht
theorem getD_set_ne {α:Type} (L:List α) (d x:α) {i k:Nat} (h:i≠k):(L.set i x).getD k d=L.getD k d:=by
  rw [List.getD_eq_getElem?_getD,List.getElem?_set_ne h,List.getD_eq_getElem?_getD]
end Go.Proofs.YtcceeahmcecbnaaGreatDoor
