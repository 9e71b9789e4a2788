/- The framework, the program's texts and what is shown of them: part 6. -/
import Derived.Test.YtcceeahmcecbnaaGreatDoorWDeskWrongUpto5
import Derived.Lib.AtoiAllCases
import Derived.Lib.ParseIntBCases
import Derived.Lib.ItoaLen
import Derived.Lay
set_option linter.unusedVariables false
set_option linter.unusedSimpArgs false
set_option maxRecDepth 100000
namespace Go.Proofs.YtcceeahmcecbnaaGreatDoor
open Go.Sx Go.RowKit
def GC (w:World):Prop:=GT w/\Gl w
theorem GC.ext {w w':World} (hg:GC w) (h:Ext w w'):GC w':=⟨GT.ext hg.1 h,Gl.ext hg.2 h⟩
def spn (low top:Int):Int:=IntKind.wrap .u64 (zav .shl .u64 1 (top+1)-zav .shl .u64 1 low)
theorem zCV (low top:Int) (h0:0<=low/\low<=62) (h1:0<=top/\top<=62) (w:World):FnP Tryz.prog zeZ #[.int .i64 low,.int .i64 top] w fun v w'=>Ext w w'/\v=.int .u64 (spn low top) :=
  zud low top w _ ⟨i64 (by omega),by omega,by omega,fun w0 h0=>⟨h0,rfl⟩⟩
theorem zla {low top:Int} {n:Nat} (h:spn low top=n) (hn:n<18446744073709551616) (hb:∀ j,j<64->n.testBit j=decide (low<=(j:Int)/\(j:Int)<=top)) (ht:top<64):U (spn low top)/\∀ j:Nat,tb (spn low top) j=decide (low<=(j:Int)/\(j:Int)<=top):=by
  have hu:U (spn low top):=by rw [h,zfW]; omega
  refine ⟨hu,fun j=>?_⟩
  by_cases hj:j<64
  · rw [zfj hu,h,<- hb j hj]; simp
  · have h1:tb (spn low top) j=false:=by
      cases hc:tb (spn low top) j with
      |false => rfl
      |true => exact absurd (zF5 hc) hj
    rw [h1]; symm; rw [decide_eq_false_iff_not]; omega
theorem spn0:U (spn 0 59)/\∀ j:Nat,tb (spn 0 59) j=decide ((0:Int)<=(j:Int)/\(j:Int)<=59):=zla (n:=1152921504606846975) (by decide) (by decide) (by decide) (by decide)
structure Cr where
  a:Int
  b:Int
  c:Int
  d:Int
  e:Int
abbrev zJP (x:Cr):List Value:=[.int .u64 x.a,.int .u64 x.b,.int .u64 x.c,.int .u64 x.d,.int .u64 x.e]
abbrev cv (x:Cr):Value:=.agg #[.int .u64 x.a,.int .u64 x.b,.int .u64 x.c,.int .u64 x.d,.int .u64 x.e]
def CrU (x:Cr):Prop:=U x.a/\U x.b/\U x.c/\U x.d/\U x.e
def fld (x:Cr) (i:Nat):Int:=match i with|0=>x.a|1=>x.b|2=>x.c|3=>x.d|_=>x.e
def zlV (i:Nat):Int:=match i with|0=>0|1=>0|2=>1|3=>1|_=>0
def zmt (i:Nat):Int:=match i with|0=>59|1=>23|2=>31|3=>12|_=>6
def okF (s low top:Int):Prop:=s≠0/\zav .andNot .u64 s (spn low top)=0
def zjJ (x:Cr):Prop:=∀ i,i<5->okF (fld x i) (zlV i) (zmt i)
theorem zFp {s low top:Int} (hs:U s) (hb:∀ j:Nat,tb (spn low top) j=decide (low<=(j:Int)/\(j:Int)<=top)) (h:okF s low top):∀ j,tb s j=true->low<=(j:Int)/\(j:Int)<=top:=by
  intro j hj
  have h1:=(zrx (zxt s (spn low top))).1 h.2 j (zF5 hj)
  rw [zuS,hj,hb] at h1
  simpa using h1
def zxZ (w:World) (q p:Option Addr):Prop:=∀ k:Int,0<=k->k<5->Go.Sx.cell w (pIdx q k 3) 0=some (.pointer (pAdd p k.toNat))/\Go.Sx.cell w (pIdx q k 3) 1=some (.int .i64 (zlV k.toNat))/\Go.Sx.cell w (pIdx q k 3) 2=some (.int .i64 (zmt k.toNat))
theorem five {k:Int} (h0:0<=k) (h1:k<5):k=0\/k=1\/k=2\/k=3\/k=4:=by omega
theorem zET (p:Option Addr) (hp:p≠none) (w:World):FnP Tryz.prog zdg #[.pointer p] w fun v w'=>Ext w w'/\∃ q,v=.slice q 5 5/\zxZ w' q p:=by
  refine zjr p w _ ⟨hp,hp,hp,hp,hp,hp,hp,hp,hp,hp,fun w0 h0=>?_⟩
  refine zci zfG [(.agg #[(.pointer (pAdd p 0)),(.int .i64 0),(.int .i64 59)]),(.agg #[(.pointer (pAdd p 1)),(.int .i64 0),(.int .i64 23)]),(.agg #[(.pointer (pAdd p 2)),(.int .i64 1),(.int .i64 31)]),(.agg #[(.pointer (pAdd p 3)),(.int .i64 1),(.int .i64 12)]),(.agg #[(.pointer (pAdd p 4)),(.int .i64 0),(.int .i64 6)])] rfl rfl (by intro v hv; simp at hv; rcases hv with rfl|rfl|rfl|rfl|rfl<;>rfl) (by omega) (by omega) fun w1 o1 e1=>⟨e1,_,_,_,rfl,fun w5 h5=>⟨(h0.trans e1).trans h5,_,rfl,?_⟩⟩
  have cs:=((o1 0 (Nat.zero_le _)).ext h5).cells
  simp [Value.cells] at cs
  intro k h0 h1
  rcases five h0 h1 with rfl|rfl|rfl|rfl|rfl
  · exact ⟨by rw [zad]; exact cs 0 _ rfl,by rw [zad]; exact cs 1 _ rfl,by rw [zad]; exact cs 2 _ rfl⟩
  · exact ⟨by rw [zad]; exact cs 3 _ rfl,by rw [zad]; exact cs 4 _ rfl,by rw [zad]; exact cs 5 _ rfl⟩
  · exact ⟨by rw [zad]; exact cs 6 _ rfl,by rw [zad]; exact cs 7 _ rfl,by rw [zad]; exact cs 8 _ rfl⟩
  · exact ⟨by rw [zad]; exact cs 9 _ rfl,by rw [zad]; exact cs 10 _ rfl,by rw [zad]; exact cs 11 _ rfl⟩
  · exact ⟨by rw [zad]; exact cs 12 _ rfl,by rw [zad]; exact cs 13 _ rfl,by rw [zad]; exact cs 14 _ rfl⟩
theorem zA1 (x:Cr) (w:World):FnP Tryz.prog zh7 #[cv x] w fun v w'=>Ext w w'/\∃ e,v=.int .i64 e/\((zjJ x/\e=0)\/(¬ zjJ x/\e=3)):=by
  refine zr8 x.a x.b x.c x.d x.e w _ fun w0 h0=>?_
  refine zbt (by intro v hv; simp at hv; rcases hv with rfl|rfl|rfl|rfl|rfl<;>rfl) fun w1 o1 e1=>?_
  generalize hp1:(some ⟨w0.heap.size,0,none⟩:Option Addr)=p1
  rw [hp1] at o1
  have c1:=(o1 0 (Nat.zero_le _)).cells
  have hp:p1≠none:=by rw [<- hp1]; simp
  intro w2 h2
  refine (zET p1 hp w2).mono fun v w3 ⟨e3,q,hv,hF⟩=>⟨e3,q,5,5,hv,?_⟩
  have x3:=((h0.trans e1).trans h2).trans e3
  have c3:=c1.ext (h2.trans e3)
  refine ⟨fun k w'=>w'=w3/\0<=k/\k<=5/\∀ i:Nat,(i:Int)<k->okF (fld x i) (zlV i) (zmt i),fun k _=>(5-k).toNat,⟨rfl,by omega,by omega,fun i hi=>by omega⟩,?_⟩
  rintro k w9 ⟨rfl,hk0,hk1,hall⟩
  refine ⟨fun hlt=>?_,fun hge w10 h10=>⟨x3.trans h10,0,rfl,.inl ⟨fun i hi=>hall i (by simp at hge; omega),rfl⟩⟩⟩
  have hlt:k<5:=by simpa using hlt
  obtain ⟨f0,f1,f2⟩:=hF k hk0 hlt
  have hc:Go.Sx.cell w9 (pAdd p1 k.toNat) 0=some (.int .u64 (fld x k.toNat)):=by
    rw [zal]
    rcases five hk0 hlt with rfl|rfl|rfl|rfl|rfl
    · exact c3 0 _ rfl
    · exact c3 1 _ rfl
    · exact c3 2 _ rfl
    · exact c3 3 _ rfl
    · exact c3 4 _ rfl
  have hb:(0<=zlV k.toNat/\zlV k.toNat<=62)/\0<=zmt k.toNat/\zmt k.toNat<=62:=by
    rcases five hk0 hlt with rfl|rfl|rfl|rfl|rfl<;>decide
  have bad:¬ okF (fld x k.toNat) (zlV k.toNat) (zmt k.toNat)->¬ zjJ x:=fun h ho=>h (ho k.toNat (by omega))
  refine ⟨fun hq=>zak f0 (zah.2 hq),hk0,hlt,zak f0,_,f0,_,f1,_,f2,fun b13 hb13=>⟨zak hc,_,hc,fun _=>zak hc,fun hz w15 h15=>⟨x3.trans h15,3,rfl,.inr ⟨bad fun h=>h.1 hz,rfl⟩⟩,fun hnz=>⟨_,hc,fun w16 h16=>?_⟩⟩⟩
  refine FnP.mono (K:=fun v w17=>Ext w16 w17/\v=.int .u64 (spn (zlV k.toNat) (zmt k.toNat))) (zl1 _ _ _ w16 _ fun b0 _ wa ha=>(zCV _ _ hb.1 hb.2 wa).mono fun v wb ⟨eb,hv⟩=>⟨eb,_,hv,fun wc hc=>⟨hc,rfl⟩⟩) fun v w17 ⟨e17,hv⟩=>⟨e17,_,hv,fun hne w19 h19=>⟨x3.trans h19,3,rfl,.inr ⟨bad fun h=>hne h.2,rfl⟩⟩,fun he=>⟨i64 (by omega),⟨rfl,by omega,by omega,fun i hi=>?_⟩,by simp only []; omega⟩⟩
  by_cases hik:(i:Int)<k
  · exact hall i hik
  · obtain rfl:i=k.toNat:=by omega
    exact ⟨hnz,he⟩
theorem zCS {x i:Int} (hx:U x) (h0:0<=i) (h1:i<64):zav .shr .u64 x i=((x.toNat/2^i.toNat:Nat):Int):=by
  have hu:=zfW.1 hx
  have hb:min i.toNat IntKind.u64.bits=i.toNat:=by simp [IntKind.bits]; omega
  simp only [zav,hb]
  rw [Int.fdiv_eq_ediv_of_nonneg _ (Int.le_of_lt (by have:(0:Nat)<2^i.toNat:=Nat.pow_pos (by omega); exact_mod_cast this))]
  rw [show x=((x.toNat:Nat):Int) by omega]
  simp
theorem U_shr {x i:Int} (hx:U x) (h0:0<=i) (h1:i<64):U (zav .shr .u64 x i):=by
  have hu:=zfW.1 hx
  rw [zCS hx h0 h1,zfW]
  have:=Nat.div_le_self x.toNat (2^i.toNat)
  generalize x.toNat/2^i.toNat=q at this ⊢
  omega
theorem zDb {x i:Int} (hx:U x) (h0:0<=i) (h1:i<64) (j:Nat):tb (zav .shr .u64 x i) j=tb x (i.toNat+j):=by
  rw [zfj (U_shr hx h0 h1),zCS hx h0 h1,zfj hx,Int.toNat_natCast,Nat.testBit_div_two_pow,Nat.add_comm]
theorem zzv (s n:Int) (hs:U s) (h0:0<=n) (h1:n<64) (w:World):FnP Tryz.prog zc9 #[.int .u64 s,.int .i64 n] w fun v w'=>Ext w w'/\v=.bool (tb s n.toNat):=by
  refine zwu s n w _ ⟨h0,fun w0 h=>⟨h,?_⟩⟩
  rw [zJn hs h0 h1]
  cases tb s n.toNat<;>rfl
def zHW (x:Cr) (m d v:Int):Bool:=tb x.d m.toNat&&(if x.c=spn 1 31 then tb x.e v.toNat else if x.e=spn 0 6 then tb x.c d.toNat else tb x.c d.toNat||tb x.e v.toNat)
def zHV (x:Cr) (n:Int):Prop:=∃ y m d,vd y m d/\dy y m d=n/\zHW x m d ((n+1)%7)=true
theorem vd_b {y m d:Int} (h:vd y m d):1<=m/\m<=12/\1<=d/\d<=31:=by
  obtain ⟨h1,h2,h3,h4,h5,h6⟩:=h
  have:=ztS (y:=y) h3 h4
  omega
theorem day_k (x:Cr) (hx:CrU x) (n:Int) (h0:0<=n) (h1:n<=3652058) (w:World) (hg:GC w):FnP Tryz.prog zlw #[cv x,.int .i64 n] w fun v w'=>Ext w w'/\∃ b:Bool,v=.bool b/\(b=true↔zHV x n):=by
  refine zwt x.a x.b x.c x.d x.e n w _ fun b0 _ w1 hw1=>?_
  refine (Date_k n (i64 (by omega)) w1 (Gl.ext hg.2 hw1)).mono fun v w2 ⟨e2,y,m,d,e,hv,ho,_⟩=>⟨e2,_,_,_,_,hv,fun w7 h7=>?_⟩
  obtain ⟨_,hvd,hdy⟩:=ho ⟨h0,h1⟩
  have hb:=vd_b hvd
  refine (zAL n (i64 (by omega)) w7).mono fun v w8 ⟨e8,a,e',hv,ho',_⟩=>⟨e8,_,_,hv,fun w11 h11=>?_⟩
  obtain ⟨_,rfl⟩:=ho' ⟨h0,h1⟩
  have fin:∀ {b:Bool} {w':World},Ext w w'->b=zHW x m d ((n+1)%7)->Ext w w'/\∃ b':Bool,Value.bool b=.bool b'/\(b'=true↔zHV x n):=fun hw hb'=>⟨hw,_,rfl,by
    subst hb'
    constructor
    · exact fun h=>⟨y,m,d,hvd,hdy,h⟩
    · rintro ⟨y',m',d',hv',hd',h⟩
      obtain ⟨_,rfl,rfl⟩:=dy_inj hvd hv' (hdy.trans hd'.symm)
      exact h⟩
  refine (zzv x.d m hx.2.2.2.1 (by omega) (by omega) w11).mono fun v w12 ⟨e12,hv⟩=>⟨e12,_,hv,fun hf w14 h14=>fin h14 (by unfold zHW; rw [hf]; rfl),fun ht w14 h14=>?_⟩
  refine (zCV 1 31 (by omega) (by omega) w14).mono fun v w15 ⟨e15,hv⟩=>⟨e15,_,hv,fun hall w17 h17=>?_,fun hnall w17 h17=>?_⟩
  · exact (zzv x.e _ hx.2.2.2.2 (by omega) (by omega) w17).mono fun v w18 ⟨e18,hv⟩=>⟨e18,_,hv,fun w20 h20=>fin h20 (by unfold zHW; rw [ht,if_pos hall]; rfl)⟩
  · refine (zCV 0 6 (by omega) (by omega) w17).mono fun v w18 ⟨e18,hv⟩=>⟨e18,_,hv,fun hall w20 h20=>?_,fun hnall2 w20 h20=>?_⟩
    · exact (zzv x.c d hx.2.2.1 (by omega) (by omega) w20).mono fun v w21 ⟨e21,hv⟩=>⟨e21,_,hv,fun w23 h23=>fin h23 (by unfold zHW; rw [ht,if_neg hnall,if_pos hall]; rfl)⟩
    · refine (zzv x.c d hx.2.2.1 (by omega) (by omega) w20).mono fun v w21 ⟨e21,hv⟩=>⟨e21,_,hv,fun hy w23 h23=>fin h23 (by unfold zHW; rw [ht,if_neg hnall,if_neg hnall2,hy]; rfl),fun hn w23 h23=>?_⟩
      exact (zzv x.e _ hx.2.2.2.2 (by omega) (by omega) w23).mono fun v w24 ⟨e24,hv⟩=>⟨e24,_,hv,fun w26 h26=>fin h26 (by unfold zHW; rw [ht,if_neg hnall,if_neg hnall2,hn]; rfl)⟩
theorem zGJ (y:Int):lng (y+400)↔lng y:=by unfold lng; omega
theorem vd400 {y m d:Int}:(1<=y/\y+400<=9999)->(vd y m d↔vd (y+400) m d):=fun h=>by
  have hln:ln (y+400) m=ln y m:=by unfold ln; simp [zGJ]
  unfold vd; rw [hln]; omega
theorem dy400 (y m d:Int):dy (y+400) m d=dy y m d+146097:=by
  have hbef:bef (y+400)=bef y+146097:=by unfold bef; omega
  have hms:ms (y+400) m=ms y m:=by unfold ms; simp [zGJ]
  unfold dy; rw [hbef,hms]; omega
theorem day400 (x:Cr) {n:Int} (h0:0<=n) (h1:n+146097<=3652058):zHV x (n+146097)↔zHV x n:=by
  have hw:(n+146097+1)%7=(n+1)%7:=by omega
  constructor
  · rintro ⟨y,m,d,hv,hd,hf⟩
    have hy:401<=y:=by
      by_cases h:401<=y
      · exact h
      · have h2:=zfB (show y+1<=401 by omega)
        have h3:=zih hv
        have e1:bef 401=146097:=by decide
        omega
    refine ⟨y-400,m,d,(vd400 (by have:=hv.2.1; omega)).2 (by rw [show y-400+400=y by omega]; exact hv),?_,by rw [hw] at hf; exact hf⟩
    have:=dy400 (y-400) m d
    rw [show y-400+400=y by omega] at this
    omega
  · rintro ⟨y,m,d,hv,hd,hf⟩
    have hy:y+400<=9999:=by
      by_cases h:y+400<=9999
      · exact h
      · have h2:=zfB (show (10000:Int)<=y+400 by omega)
        have h3:=zih hv
        have e2:bef 10000=3652059:=by decide
        have hbef:bef (y+400)=bef y+146097:=by unfold bef; omega
        omega
    refine ⟨y+400,m,d,(vd400 ⟨hv.1,hy⟩).1 hv,by rw [dy400]; omega,by rw [hw]; exact hf⟩
def hit (x:Cr) (u:Int):Prop:=tb x.a (u%60).toNat=true/\tb x.b (u/60).toNat=true
def mt (x:Cr) (t:Int):Prop:=tb x.a (t%60).toNat=true/\tb x.b (t/60%24).toNat=true/\zHV x (t/1440)
theorem zqY {x:Cr} {t:Int}:mt x t↔hit x (t%1440)/\zHV x (t/1440):=by
  unfold mt hit
  rw [show t%1440%60=t%60 by omega,show t%1440/60=t/60%24 by omega,and_assoc]
theorem zGd (x:Cr) (hx:CrU x) (hok:zjJ x) (f:Int) (h0:0<=f) (h1:f<1440) (w:World) (hg:GC w):FnP Tryz.prog zdh #[cv x,.int .i64 f] w fun v w'=>Ext w w'/\∃ m b,v=.tuple #[.int .i64 m,.bool b] /\
    ((b=false/\m=0/\∀ u,f<=u->u<1440->¬ hit x u)\/(b=true/\f<=m/\m<1440/\hit x m/\∀ u,f<=u->u<m->¬ hit x u)):=by
  have min60:∀ j,tb x.a j=true->j<60:=fun j hj=>by
    have:=zFp hx.1 spn0.2 (hok 0 (by omega)) j hj
    omega
  refine zpT x.a x.b x.c x.d x.e f w _ fun b0 _=>?_
  rw [td h0,tm h0]
  refine ⟨i64 (by omega),fun h w'=>w'=w/\f/60<=h/\h<=24/\∀ u,f<=u->u<60*h->¬ hit x u,fun h _=>(24-h).toNat,⟨rfl,by omega,by omega,fun u hu hu2=>by omega⟩,?_⟩
  rintro h w3 ⟨rfl,hh0,hh1,hno⟩
  refine ⟨fun hlt w4 h4=>?_,fun hge w4 h4=>⟨h4,_,_,rfl,.inl ⟨rfl,rfl,fun u hu hu2=>hno u hu (by omega)⟩⟩⟩
  have next:(∀ u,f<=u->60*h<=u->u<60*(h+1)->¬ hit x u)->InR .i64 (h+1)/\((w3=w3/\f/60<=h+1/\h+1<=24/\∀ u,f<=u->u<60*(h+1)->¬ hit x u)/\(24-(h+1)).toNat<(24-h).toNat):=fun hn=>⟨i64 (by omega),⟨rfl,by omega,by omega,fun u hu hu2=>by
    by_cases hc:u<60*h
    · exact hno u hu hc
    · exact hn u hu (by omega) hu2⟩,by omega⟩
  have rest:∀ s:Int,0<=s->s<60->(∀ u,f<=u->60*h<=u->u<60*(h+1)->s<=u%60)->f<=60*h+s->tb x.b h.toNat=true ->
      ((zav .shr .u64 x.a s≠0)->InR .i64 (60*h)/\InR .i64 (60*h+s)/\∀ w7,Ext w3 w7->FnP Tryz.prog zaH #[.int .u64 (zav .shr .u64 x.a s)] w7 fun v8 w8=>Ext w7 w8/\∃ t9:Int,v8=.int .i64 t9/\InR .i64 (60*h+s+t9)/\∀ w10,Ext w3 w10 ->
        (Ext w3 w10/\∃ m b,Value.tuple #[.int .i64 (60*h+s+t9),.bool true]=.tuple #[.int .i64 m,.bool b]/\((b=false/\m=0/\∀ u,f<=u->u<1440->¬ hit x u)\/(b=true/\f<=m/\m<1440/\hit x m/\∀ u,f<=u->u<m->¬ hit x u)))) /\
      ((zav .shr .u64 x.a s=0)->InR .i64 (h+1)/\((w3=w3/\f/60<=h+1/\h+1<=24/\∀ u,f<=u->u<60*(h+1)->¬ hit x u)/\(24-(h+1)).toNat<(24-h).toNat)):=by
    intro s hs0 hs1 hsu hfs hb
    have hU:=U_shr hx.1 hs0 (by omega:s<64)
    refine ⟨fun hnz=>?_,fun hz=>next fun u hu hu1 hu2 hh=>?_⟩
    · obtain ⟨t,ht,ht64,hlow,htb,_⟩:=low_k hU hnz
      rw [zDb hx.1 hs0 (by omega)] at htb
      have h60:=min60 _ htb
      refine ⟨i64 (by omega),i64 (by omega),fun w7 h7=>(TZ_k _ hU hnz w7 (GT.ext hg.1 h7)).mono fun v w8 ⟨e8,hv⟩=>⟨e8,_,hv,?_⟩⟩
      rw [ht]
      refine ⟨i64 (by omega),fun w10 h10=>⟨h10,_,_,rfl,.inr ⟨rfl,by omega,by omega,⟨?_,?_⟩,fun u hu hu2 hh=>?_⟩⟩⟩
      · rw [show ((60*h+s+(t:Int))%60).toNat=s.toNat+t by omega]; exact htb
      · rw [show ((60*h+s+(t:Int))/60).toNat=h.toNat by omega]; exact hb
      · by_cases hc:u<60*h
        · exact hno u hu hc hh
        · have hs:=hsu u hu (by omega) (by omega)
          have:=hlow ((u%60).toNat-s.toNat) (by omega)
          rw [zDb hx.1 hs0 (by omega),show s.toNat+((u%60).toNat-s.toNat)=(u%60).toNat by omega,hh.1] at this
          cases this
    · have hs:=hsu u hu hu1 hu2
      have hbit:=(zrx hU).1 hz ((u%60).toNat-s.toNat) (by omega)
      rw [zDb hx.1 hs0 (by omega),show s.toNat+((u%60).toNat-s.toNat)=(u%60).toNat by omega,hh.1] at hbit
      cases hbit
  refine (zzv x.b h hx.2.1 (by omega) (by omega) w4).mono fun v w5 ⟨e5,hv⟩=>⟨e5,_,hv,fun hf=>next fun u hu hu1 hu2 hh=>?_,fun ht=>⟨i64 (by omega),fun heq=>⟨by omega,?_⟩,fun hne=>?_⟩⟩
  · have:=hh.2
    rw [show (u/60).toNat=h.toNat by omega,hf] at this
    cases this
  · exact rest (f%60) (by omega) (by omega) (fun u hu hu1 hu2=>by omega) (by omega) ht
  · exact rest 0 (by omega) (by omega) (fun u hu hu1 hu2=>by omega) (by omega) ht
theorem Next_k (x:Cr) (hx:CrU x) (t:Int) (w:World) (hg:GC w):FnP Tryz.prog zjz #[cv x,.int .i64 t] w fun v w'=>Ext w w'/\∃ n e,v=.tuple #[.int .i64 n,.int .i64 e] /\
    ((e=3/\n=0/\¬ zjJ x)\/(e=4/\n=0/\zjJ x/\¬ (-1<=t/\t<=5258964959)) \/
     (zjJ x/\-1<=t/\t<=5258964959/\((e=0/\t<n/\n<=5258964959/\mt x n/\∀ u,t<u->u<n->¬ mt x u)\/(e=5/\n=0/\∀ u,t<u->u<=5258964959->¬ mt x u)))):=by
  refine zuc x.a x.b x.c x.d x.e t w _ fun b0 _ w1 h1=>?_
  refine (zA1 x w1).mono fun v w2 ⟨e2,e,hv,he⟩=>⟨e2,e,hv,fun hne w4 h4=>⟨h4,_,_,rfl,?_⟩,fun h0=>?_⟩
  · rcases he with ⟨_,h⟩|⟨h,h2⟩
    · exact absurd h hne
    · exact .inl ⟨h2,rfl,h⟩
  have hok:zjJ x:=by
    rcases he with ⟨h,_⟩|⟨_,h⟩
    · exact h
    · omega
  refine ⟨fun hr w4 h4=>⟨h4,_,_,rfl,.inr (.inl ⟨rfl,rfl,hok,by omega⟩)⟩,fun ⟨hr0,hr1⟩=>?_⟩
  rw [td (by omega),tm (by omega)]
  refine ⟨i64 (by omega),i64 (by omega),fun n w'=>w'=w/\(t+1)/1440<=n/\(n<=3652059\/n=(t+1)/1440)/\∀ u,t<u->u/1440<n->¬ mt x u,fun n _=>(3652060-n).toNat,⟨rfl,by omega,.inr rfl,fun u hu hu2=>by omega⟩,?_⟩
  rintro n w6 ⟨rfl,hn0,hn1,hno⟩
  have step:(n<=3652058)->(∀ u,t<u->u/1440=n->¬ mt x u)->InR .i64 (n+1)/\((w6=w6/\(t+1)/1440<=n+1/\(n+1<=3652059\/n+1=(t+1)/1440)/\∀ u,t<u->u/1440<n+1->¬ mt x u)/\(3652060-(n+1)).toNat<(3652060-n).toNat):=fun hn2 h=>⟨i64 (by omega),⟨rfl,by omega,.inl (by omega),fun u hu hu2=>by
    by_cases hc:u/1440<n
    · exact hno u hu hc
    · exact h u hu (by omega)⟩,by omega⟩
  have found:∀ f:Int,(n<=3652058)->0<=f->f<1440->(∀ u,t<u->u/1440=n->f<=u%1440)->(t<1440*n+f)->zHV x n->∀ w10,Ext w6 w10 ->
      FnP Tryz.prog zdh #[cv x,.int .i64 f] w10 fun v11 w11=>Ext w10 w11/\∃ t12:Int,∃ t13:Bool,v11=.tuple #[.int .i64 t12,.bool t13] /\
        ((t13=true)->InR .i64 (1440*n)/\InR .i64 (1440*n+t12)/\∀ w14,Ext w6 w14->(Ext w6 w14/\∃ n' e,Value.tuple #[.int .i64 (1440*n+t12),.int .i64 0]=.tuple #[.int .i64 n',.int .i64 e] /\
          ((e=3/\n'=0/\¬ zjJ x)\/(e=4/\n'=0/\zjJ x/\¬ (-1<=t/\t<=5258964959))\/(zjJ x/\-1<=t/\t<=5258964959/\((e=0/\t<n'/\n'<=5258964959/\mt x n'/\∀ u,t<u->u<n'->¬ mt x u)\/(e=5/\n'=0/\∀ u,t<u->u<=5258964959->¬ mt x u)))))) /\
        ((t13=false)->InR .i64 (n+1)/\((w6=w6/\(t+1)/1440<=n+1/\(n+1<=3652059\/n+1=(t+1)/1440)/\∀ u,t<u->u/1440<n+1->¬ mt x u)/\(3652060-(n+1)).toNat<(3652060-n).toNat)):=by
    intro f hn2 hf0 hf1 hfu hft hday w10 h10
    refine (zGd x hx hok f hf0 hf1 w10 (hg.ext h10)).mono fun v w11 ⟨e11,m,b,hv,hr⟩=>⟨e11,m,b,hv,fun hb=>?_,fun hb=>step hn2 fun u hu hu2 hm=>?_⟩
    · rcases hr with ⟨h,_⟩|⟨_,hm0,hm1,hhit,hbe⟩
      · rw [h] at hb; cases hb
      · refine ⟨i64 (by omega),i64 (by omega),fun w14 h14=>⟨h14,_,_,rfl,.inr (.inr ⟨hok,hr0,hr1,.inl ⟨rfl,by omega,by omega,?_,fun u hu hu2 hm=>?_⟩⟩)⟩⟩
        · rw [zqY,show (1440*n+m)%1440=m by omega,show (1440*n+m)/1440=n by omega]
          exact ⟨hhit,hday⟩
        · by_cases hc:u/1440<n
          · exact hno u hu hc hm
          · exact hbe (u%1440) (hfu u hu (by omega)) (by omega) (zqY.1 hm).1
    · rcases hr with ⟨_,_,hbe⟩|⟨h,_⟩
      · exact hbe (u%1440) (hfu u hu hu2) (by omega) (zqY.1 hm).1
      · rw [h] at hb; cases hb
  refine ⟨i64 (by omega),fun hle w7 h7=>?_,fun hgt w7 h7=>⟨h7,_,_,rfl,.inr (.inr ⟨hok,hr0,hr1,.inr ⟨rfl,rfl,fun u hu hu2=>?_⟩⟩)⟩⟩
  · have hn2:n<=3652058:=by omega
    refine (day_k x hx n (by omega) hn2 w7 (hg.ext h7)).mono fun v w8 ⟨e8,b,hv,hb⟩=>⟨e8,b,hv,fun hf=>step hn2 fun u hu hu2 hm=>?_,fun ht=>⟨fun heq=>?_,fun hne=>?_⟩⟩
    · have:=(zqY.1 hm).2
      rw [hu2,<- hb,hf] at this
      cases this
    · exact found ((t+1)%1440) hn2 (by omega) (by omega) (fun u hu hu2=>by omega) (by omega) (hb.1 ht)
    · exact found 0 hn2 (by omega) (by omega) (fun u hu hu2=>by omega) (by omega) (hb.1 ht)
  · -- none in four hundred years: none at all
    have key:∀ (k:Nat) (v:Int),(v/1440).toNat<=k->t<v->v<=5258964959->¬ mt x v:=by
      intro k
      induction k using Nat.strongRecOn with
      |_ k ih =>
        intro v hk hv hv2 hm
        by_cases hc:v/1440<n
        · exact hno v hv hc hm
        · have hd:(t+1)/1440+146097<v/1440:=by omega
          have h2:=zqY.1 hm
          refine ih ((v-146097*1440)/1440).toNat (by omega) (v-146097*1440) (Nat.le_refl _) (by omega) (by omega) (zqY.2 ⟨?_,?_⟩)
          · rw [show (v-146097*1440)%1440=v%1440 by omega]; exact h2.1
          · rw [show (v-146097*1440)/1440=v/1440-146097 by omega]
            refine (day400 x (by omega) (by omega)).1 ?_
            rw [show v/1440-146097+146097=v/1440 by omega]; exact h2.2
    exact key _ u (Nat.le_refl _) hu hu2
def zqb:List ByteArray:=[⟨#[]⟩,⟨#[119,97,105,116]⟩,⟨#[114,117,110]⟩,⟨#[100,111,110,101]⟩,⟨#[102,97,105,108]⟩,⟨#[103,111,110,101]⟩]
def errT:Value:=.iface 329 (.agg #[.pointer (some ⟨11,175,none⟩)])
structure GD (w:World):Prop where
  gb:GB w
  whats:zat w (some ⟨4,0,none⟩) (zqb.map Value.string)
  eType:Go.Sx.cell w (some ⟨0,0,none⟩) 0=some errT
  gc:GC w
theorem tab_fr {P:Program} {S:Nat->Prop} {w w':World} {name:String} {k:IntKind} {zs:List Int} (h:Lib.TabIs P w name k zs) (f:Fr S w w') (hS:∀ g,P.globalNamed name=some g->¬ S g):Lib.TabIs P w' name k zs:=by
  unfold Lib.TabIs World.var? at *
  cases hg:P.globalNamed name with
  |none => simp [hg] at h
  |some g =>
    simp only [hg,Option.bind_some] at h ⊢
    have hlt:g<w.heap.size:=by
      rcases Nat.lt_or_ge g w.heap.size with h'|h'
      · exact h'
      · rw [Array.getElem?_eq_none h'] at h; simp at h
    rw [f.block g hlt (hS g hg)]; exact h
theorem g1 : Tryz.prog.globalNamed "internal/strconv.uint64pow10" = some 1 := by kernel_rfl
theorem GB.fr {S:Nat->Prop} {w w':World} (g:GB w) (f:Fr S w w') (h:∀ b,S b->11<=b):GB w':=by
  have n:∀ b,b<11->¬ S b:=fun b hb hs=>by have:=h b hs; omega
  refine ⟨tab_fr g.pow f fun b hb=>?_,?_,?_,?_⟩
  · rw [g1] at hb; injection hb with hb; subst hb; exact n 1 (by omega)
  · obtain ⟨m,e⟩:=g.maxLen; exact ⟨m,zdm e f fun a ha=>by cases ha; exact n 5 (by omega)⟩
  · obtain ⟨m,e,k⟩:=g.eSyn; exact ⟨m,zdm e f fun a ha=>(by cases ha; exact n 2 (by omega)),k⟩
  · obtain ⟨m,e,k⟩:=g.eRan; exact ⟨m,zdm e f fun a ha=>(by cases ha; exact n 3 (by omega)),k⟩
theorem GD.fr {S:Nat->Prop} {w w':World} (g:GD w) (f:Fr S w w') (h:∀ b,S b->11<=b):GD w':=by
  have n:∀ b,b<11->¬ S b:=fun b hb hs=>by have:=h b hs; omega
  exact ⟨g.gb.fr f h,g.whats.fr f fun a ha=>(by cases ha; exact n 4 (by omega)),zdm g.eType f fun a ha=>(by cases ha; exact n 0 (by omega)),⟨fun i hi=>zdm (g.gc.1 i hi) f fun a ha=>(by cases ha; exact n 9 (by omega)),fun i hi=>zdm (g.gc.2 i hi) f fun a ha=>(by cases ha; exact n 10 (by omega))⟩⟩
theorem GD.ext {w w':World} (g:GD w) (e:Ext w w'):GD w':=g.fr (zac (S:=fun _=>False) e) fun _ h=>h.elim
def EV (v:Value) (c:Int):Prop:=(c=0/\v=.nilIface)\/(c≠0/\(v=.iface 24 (.int .i64 c)\/∃ k:Int,v=.iface 257 (.agg #[.int .i64 k,.iface 24 (.int .i64 c)])))
theorem EV.isErr {v:Value} {c:Int} (h:EV v c):isErr v:=by
  rcases h with ⟨_,h⟩|⟨_,h|⟨k,h⟩⟩
  · exact .inl h
  · exact .inr ⟨_,_,h⟩
  · exact .inr ⟨_,_,h⟩
theorem EV.nil {v:Value} {c:Int} (h:EV v c):v=.nilIface↔c=0:=by
  rcases h with ⟨h0,h⟩|⟨h0,h|⟨k,h⟩⟩
  · exact ⟨fun _=>h0,fun _=>h⟩
  · exact ⟨fun g=>(by rw [h] at g; cases g),fun g=>absurd g h0⟩
  · exact ⟨fun g=>(by rw [h] at g; cases g),fun g=>absurd g h0⟩
theorem u24:Tryz.prog.underlying 24=some (.int .i64):=by kernel_rfl
theorem ztX {c:Int} {w:World} {K:Value->World->Prop} (h:K (.iface 24 (.int .i64 c)) w):Run Tryz.prog (.makeInterface 24 (.int .i64 c)) w K :=
  zfh u24 (by intro m hm; cases hm) h
theorem u257:(Tryz.prog.underlying 257).map (fun d=>match d with|.struct _=>true|_=>false)=some true:=by kernel_rfl
theorem zzE {k c:Int} {w:World} {K:Value->World->Prop} (h:K (.iface 257 (.agg #[.int .i64 k,.iface 24 (.int .i64 c)])) w):Run Tryz.prog (.makeInterface 257 (.agg #[.int .i64 k,.iface 24 (.int .i64 c)])) w K:=by
  obtain ⟨d,hd,he⟩:=Option.map_eq_some_iff.1 u257
  exact zfh hd (by intro m hm; subst hm; cases he) h
theorem zEO {c:Int} (h:c≠0):EV (.iface 24 (.int .i64 c)) c:=.inr ⟨h,.inl rfl⟩
theorem zzm {k c:Int} (h:c≠0):EV (.iface 257 (.agg #[.int .i64 k,.iface 24 (.int .i64 c)])) c:=.inr ⟨h,.inr ⟨k,rfl⟩⟩
theorem ev0:EV .nilIface 0:=.inl ⟨rfl,rfl⟩
theorem zpw (e:Int) (w:World):FnP Tryz.prog zbV #[.int .i64 e] w fun v w'=>Ext w w'/\EV v e :=
  zr9 e w _ ⟨fun h w0 h0=>⟨h0,by rw [h]; exact ev0⟩,fun h w0 h0=>ztX ⟨Ext.refl _,_,rfl,fun w3 h3=>⟨h0.trans h3,zEO h⟩⟩⟩
theorem neE {v:Value} {c:Int} (h:EV v c) {w:World} {K:Value->World->Prop} (hk:∀ b:Bool,(b=false↔c=0)->K (.bool b) w):Run Tryz.prog (.eq .neq 175 false true v .nilIface) w K :=
  zit (by kernel_rfl) h.isErr fun b hb=>hk b (hb.trans h.nil)
def WOk (F:Fm):Prop:=∀ s∈F.jobs,1<=s.what/\s.what<=5
theorem WOk.st {F:Fm} (h:WOk F) (k m:Nat) (v:Int) (hv:m=11->1<=v/\v<=5):WOk (stF F k m v):=by
  intro s hs
  have hs:s∈F.jobs.set k (zi4 m v (F.jobs.getD k default)):=hs
  by_cases hk:k<F.jobs.length
  · rcases List.mem_or_eq_of_mem_set hs with hm|rfl
    · exact h s hm
    · have hm:=h _ (zap F.jobs default hk)
      unfold zi4
      split
      · exact hv rfl
      · exact hm
      · exact hm
      · exact hm
      · exact hm
  · rw [List.set_eq_of_length_le (by omega)] at hs
    exact h s hs
theorem WOk.lostTo {F:Fm} (h:WOk F):∀ n,WOk (lostTo F n)
  |0 => h
  |n+1 => by
    rw [Go.Proofs.YtcceeahmcecbnaaGreatDoor.lostTo,zb2]
    split
    · exact (WOk.lostTo h n).st _ _ _ fun _=>by omega
    · exact WOk.lostTo h n
theorem WOk.lost {F:Fm} (h:WOk F):WOk (zpO F):=h.lostTo _
theorem WOk.leave {F:Fm} (h:WOk F) (k:Nat):WOk (zdI F k):=by
  have hg:WOk (zkD F k):=h
  exact (hg.st _ _ _ fun h=>by cases h).st _ _ _ fun h=>by cases h
theorem WOk.rep {F:Fm} (h:WOk F) (k:Nat) (ok:Bool):WOk (zsW F k ok):=by
  unfold zsW zfl
  split
  · exact (h.leave k).st _ _ _ fun _=>by omega
  · split
    · exact ((((h.leave k).st _ _ _ fun h=>by cases h).st _ _ _ fun _=>by omega).st _ _ _ fun h=>by cases h)
    · exact (((h.leave k).st _ _ _ fun h=>by cases h).st _ _ _ fun _=>by omega).lost
theorem WOk.can {F:Fm} (h:WOk F) (k:Nat):WOk (zy9 F k):=by
  unfold zy9
  split
  · exact ((h.leave k).st _ _ _ fun _=>by omega).lost
  · exact (h.st _ _ _ fun _=>by omega).lost
theorem WOk.sub {F:Fm} (h:WOk F) (j:Jb):WOk (zsY F j):=by
  intro s hs
  rcases List.mem_append.1 hs with hs|hs
  · exact h s hs
  · simp at hs; subst hs; exact ⟨by show (1:Int)<=1; omega,by show (1:Int)<=5; omega⟩
theorem WOk.run {F:Fm} (h:WOk F) (k0:Nat) (k:Int):WOk (zsX F k0 k):=by
  have hg:WOk (zld F k0 k):=h
  exact ((hg.st _ _ _ fun _=>by omega).st _ _ _ fun h=>by cases h).st _ _ _ fun h=>by cases h
theorem WOk.plan {F G:Fm} {outs:List (Int×Int)} (h:WOk F) (p:zfU F G outs):WOk G :=
  zsl (fun F id k _ _ _ h=>h.run _ k) p h
theorem WOk.tick {F:Fm} (h:WOk F) (n:Int):WOk { F with now:=n }:=h
structure Kt where
  hp:Option Addr
  hn:Nat
  hc:Nat
  L:List Ht
  farm:Option (Nat×Pl×Fm)
inductive DS
  |shut (L:List Ht)
  |opn (F:Fm)
def Kt.st (K:Kt):DS:=match K.farm with
  |none => .shut K.L
  |some (_,_,F) => .opn F
def Kt.fp (K:Kt):Option Addr:=match K.farm with
  |none => none
  |some (fb,_,_) => ptr fb
abbrev dcs (K:Kt):List Value:=[.slice K.hp K.hn K.hc,.pointer K.fp]
def KF (db:Nat) (K:Kt) (b:Nat):Prop:=b=db\/∃ fb P F,K.farm=some (fb,P,F)/\ft fb P.jp b
def dO (O:Nat->Prop) (db:Nat) (b:Nat):Prop:=O b\/b=db
theorem hs_of {w:World} {p:Option Addr} {M:List Hm} (h:zgm 8 ziV w p M) (hl:∀ m∈M,Lbs w m.q m.h.labels):zi8 w p (M.map (·.h)):=fun i x hx=>by
  rw [List.getElem?_map,Option.map_eq_some_iff] at hx
  obtain ⟨m,hm,rfl⟩:=hx
  exact ⟨m.q,m.d,fun j u hu=>h i m hm j u hu,hl m (List.mem_of_getElem? hm)⟩
structure KX (O:Nat->Prop) (B:Nat) (w:World) (db:Nat) (K:Kt):Prop where
  slot:Own B w zvw 2 (ptr db) 1 1 (dcs K)
  shut:K.farm=none->K.hn=K.L.length/\(∃ M:List Hm,M.map (·.h)=K.L/\∀ w'',Fr (dO O db) w w''->zgm 8 ziV w'' K.hp M/\∀ m∈M,Lbs w'' m.q m.h.labels)/\zjW K.L/\(∀ h∈K.L,zvh h/\h.used=zbd)
  opn:∀ fb P F,K.farm=some (fb,P,F)->FXO (dO O db) B w fb P F/\Inv F/\WOk F
  olt:∀ b,O b->b<w.heap.size
  odis:∀ b,O b->b≠db
section
variable {O:Nat->Prop} {B db:Nat} {w:World} {K:Kt}
theorem KX.foot (x:KX O B w db K) {b:Nat} (h:KF db K b):B<=b/\b<w.heap.size:=by
  rcases h with rfl|⟨fb,P,F,e,h⟩
  · exact x.slot.lt _ rfl
  · exact (x.opn fb P F e).1.foot h
theorem KX.oft (x:KX O B w db K) {b:Nat} (h:O b):¬ KF db K b:=by
  rintro (rfl|⟨fb,P,F,e,hf⟩)
  · exact x.odis _ h rfl
  · exact (x.opn fb P F e).1.odis b (.inl h) hf
theorem KX.cell (x:KX O B w db K) {i:Nat} {v:Value} (h:(dcs K)[i]?=some v):Go.Sx.cell w (pAdd (ptr db) i) 0=some v:=by rw [zal]; exact x.slot.cells i v h
theorem KX.fp (x:KX O B w db K):Go.Sx.cell w (pAdd (ptr db) 1) 0=some (.pointer K.fp):=x.cell (i:=1) rfl
theorem KX.keep (x:KX O B w db K) {W:World} (e:Ext W w) (hB:W.heap.size<=B) {w':World} (f:Fr (KF db K) w w'):Ext W w':=f.ext e fun b hb=>Nat.le_trans hB (x.foot hb).1
theorem KX.go {O' S:Nat->Prop} {w9:World} (x:KX O B w db K) (f:Fr S w w9) (hS:∀ b,S b->O b) (h:∀ b,O' b->O b\/(w.heap.size<=b/\b<w9.heap.size)):KX O' B w9 db K:=by
  have hdb:=(x.slot.lt _ rfl).2
  have h':∀ b,dO O' db b->dO O db b\/(w.heap.size<=b/\b<w9.heap.size):=fun b hb=>by
    rcases hb with hb|hb
    · exact (h b hb).imp .inl id
    · exact .inl (.inr hb)
  refine ⟨x.slot.fr f fun a ha hs=>?_,fun e=>?_,fun fb P F e=>?_,fun b hb=>?_,fun b hb hd=>?_⟩
  · cases ha; exact x.odis _ (hS _ hs) rfl
  · obtain ⟨a1,⟨M,m1,a2⟩,a3⟩:=x.shut e
    exact ⟨a1,⟨M,m1,fun w'' k=>a2 w'' ((f.mono fun b hb=>.inl (hS b hb)).trans k fun b hb=>(h' b hb).imp id (·.1))⟩,a3⟩
  · obtain ⟨a1,a2⟩:=x.opn fb P F e
    exact ⟨a1.go f (fun b hb=>.inl (hS b hb)) h',a2⟩
  · rcases h b hb with g|g
    · have:=x.olt b g; have:=f.size; omega
    · exact g.2
  · subst hd
    rcases h b hb with g|g
    · exact x.odis b g rfl
    · have hd:b<w.heap.size:=hdb
      omega
theorem KX.fr {S:Nat->Prop} {w':World} (x:KX O B w db K) (f:Fr S w w') (hS:∀ b,S b->O b):KX O B w' db K:=x.go f hS fun b hb=>.inl hb
theorem KX.ext {w':World} (x:KX O B w db K) (e:Ext w w'):KX O B w' db K:=x.fr (zac (S:=fun _=>False) e) fun _ h=>h.elim
theorem KX.hs (x:KX O B w db K) (e:K.farm=none) {w':World} (h:Ext w w'):zi8 w' K.hp K.L:=by
  obtain ⟨_,⟨M,m1,a2⟩,_⟩:=x.shut e
  obtain ⟨q1,q2⟩:=a2 w' (zac h)
  rw [<- m1]
  exact hs_of q1 q2
end
def ztK (w:World) (db:Nat) (K K':Kt):Prop:=∀ b,KF db K' b->KF db K b\/w.heap.size<=b
theorem zBi (w:World):FnP Tryz.prog ziO #[] w fun v w'=>Ext w w'/\∃ db,v=.pointer (ptr db)/\KX (fun b=>b<w.heap.size) w.heap.size w' db ⟨none,0,0,[],none⟩:=by
  refine zwv w _ fun w0 h0=>zbt (by intro v hv; simp at hv; rcases hv with rfl|rfl<;>rfl) fun w1 o1 e1 w2 h2=>⟨(h0.trans e1).trans h2,_,rfl,(o1 _ h0.size).ext h2,fun _=>⟨rfl,⟨[],rfl,fun w'' _=>⟨fun i h hi=>by simp at hi,by simp⟩⟩,⟨by simp,by simp,by simp⟩,by simp⟩,fun fb P F e=>(by cases e),fun b hb=>?_,fun b hb hd=>?_⟩
  · have hb:b<w.heap.size:=hb
    have:=((h0.trans e1).trans h2).size
    omega
  · have hb:b<w.heap.size:=hb
    have hd:b=w0.heap.size:=hd
    have:=h0.size; omega
def CR (O:Nat->Prop) (B db:Nat) (w:World) (K:Kt) (R:ByteArray->Int->DS->Prop) (v:Value) (w':World):Prop :=
  ∃ (s:ByteArray) (ev:Value) (c:Int) (K':Kt),v=.tuple #[.string s,ev]/\EV ev c/\KX O B w' db K'/\Fr (KF db K) w w'/\ztK w db K K'/\R s c K'.st
theorem zcg {O:Nat->Prop} {B db:Nat} {w w':World} {K:Kt} {R:ByteArray->Int->DS->Prop} (x:KX O B w db K) (e:Ext w w') {s:ByteArray} {ev:Value} {c:Int} (he:EV ev c) (hR:R s c K.st):CR O B db w K R (.tuple #[.string s,ev]) w' :=
  ⟨s,ev,c,K,rfl,he,x.ext e,zac e,fun b hb=>.inl hb,hR⟩
theorem zvM {O:Nat->Prop} {B db:Nat} {w0 w w':World} {K:Kt} {R:ByteArray->Int->DS->Prop} {v:Value} (e:Ext w0 w) (h:CR O B db w K R v w'):CR O B db w0 K R v w':=by
  obtain ⟨s,ev,c,K',h1,h2,h3,h4,h5,h6⟩:=h
  exact ⟨s,ev,c,K',h1,h2,h3,(zac e).tr h4,fun b hb=>(h5 b hb).imp id fun h=>Nat.le_trans e.size h,h6⟩
theorem CR.mono {O:Nat->Prop} {B db:Nat} {w w':World} {K:Kt} {R R':ByteArray->Int->DS->Prop} {v:Value} (h:CR O B db w K R v w') (k:∀ s c σ,R s c σ->R' s c σ):CR O B db w K R' v w':=by
  obtain ⟨s,ev,c,K',h1,h2,h3,h4,h5,h6⟩:=h
  exact ⟨s,ev,c,K',h1,h2,h3,h4,h5,k _ _ _ h6⟩
theorem zzM:∀ (u:Nat),u<=9223372036854775807->Lib.parseUintM 18446744073709551615 0 (Lib.decDigits u)=.ok u:=by
  intro u
  induction u using Nat.strongRecOn with
  |_ u ih =>
    intro hu
    rw [Lib.decDigits]
    split
    · rename_i h
      simp only [Lib.parseUintM]
      rw [zrc (by omega),if_pos (by omega),if_neg (by omega),if_neg (by omega)]
      congr 1; omega
    · rename_i h
      rw [zmg _ (ih (u/10) (by omega) (by omega))]
      simp only [Lib.parseUintM]
      rw [zrc (by omega),if_pos (by omega),if_neg (by omega),if_neg (by omega)]
      congr 1; omega
theorem zff {n:Int} (h0:0<=n) (h1:n<=9223372036854775807):Lib.parseIntB 64 (Lib.itoa n)=.ok n:=by
  rw [zdr h0]
  have hd:=zcC n.toNat
  cases hl:Lib.decDigits n.toNat with
  |nil => exact absurd hl (zof _)
  |cons c r =>
    have hc:=hd c (by rw [hl]; exact List.mem_cons_self ..)
    rw [Lib.parseIntB_plain 64 c r (by omega) (by omega),<- hl]
    unfold Lib.parseUintB
    rw [if_neg (zof _),show (2:Nat)^64-1=18446744073709551615 by decide,zzM _ (by omega)]
    show (if (2:Nat)^(64-1)<=n.toNat then _ else _)=_
    rw [if_neg (by have:(2:Nat)^(64-1)=9223372036854775808:=by decide
                   omega)]
    congr 1; omega
theorem zBQ {m n:Int} (hm:0<=m/\m<=9223372036854775807) (hn:0<=n/\n<=9223372036854775807) (h:Lib.itoa m=Lib.itoa n):m=n:=by
  have:=zff hm.1 hm.2
  rw [h,zff hn.1 hn.2] at this
  injection this with e
  exact e.symm
def zFn (s:ByteArray) (n c:Int):Prop:=(c=0/\0<=n/\n<=9223372036854775807/\s=ofL (Lib.itoa n)/\s.size<=18)\/(c=3/\n=0/\∀ m:Int,0<=m->m<=9223372036854775807->s=ofL (Lib.itoa m)->¬ s.size<=18)
theorem zoM (wp:Option Addr) (wc:Nat) (ws:List ByteArray) (h1:1<ws.length) (hs:(ws.getD 1 ⟨#[]⟩).size<=281474976710656) (w:World) (hw:zat w wp (ws.map Value.string)) (g:GB w) :
    FnP Tryz.prog zd2 #[.slice wp ws.length wc,.int .i64 1] w fun v w'=>Ext w w'/\∃ (n:Int) (ev:Value) (c:Int),v=.tuple #[.int .i64 n,ev]/\EV ev c/\zFn (ws.getD 1 ⟨#[]⟩) n c:=by
  have hc:∀ {w':World},Ext w w'->Go.Sx.cell w' (pIdx wp 1 1) 0=some (.string (ws.getD 1 ⟨#[]⟩)):=fun e=>by
    rw [zad]
    refine (hw.ext e) 1 _ ?_
    rw [List.getElem?_map,getElem?_getD ws ⟨#[]⟩ h1]; rfl
  have np:wp≠none:=fun h=>zak (hc (Ext.refl w)) (zah.2 h)
  generalize ws.getD 1 ⟨#[]⟩=s at hs hc ⊢
  have bad:∀ {w1 w8:World},Ext w w1->Ext w1 w8->(∀ m:Int,0<=m->m<=9223372036854775807->s=ofL (Lib.itoa m)->¬ s.size<=18) ->
      Run Tryz.prog (.makeInterface 24 (.int .i64 3)) w8 fun v9 w9=>Ext w8 w9/\∃ t10:Value,v9=t10/\Value.oneCell' t10=true/\∀ w11,Ext w9 w11 ->
        Run Tryz.prog (.makeInterface 257 (.agg #[.int .i64 1,t10])) w11 fun v12 w12=>Ext w11 w12/\∃ t13:Value,v12=t13/\∀ w14,Ext w12 w14 ->
          Ext w w14/\∃ (n:Int) (ev:Value) (c:Int),Value.tuple #[.int .i64 0,t13]=.tuple #[.int .i64 n,ev]/\EV ev c/\zFn s n c:=fun x1 x8 hno =>
    ztX ⟨Ext.refl _,_,rfl,rfl,fun w11 h11=>zzE ⟨Ext.refl _,_,rfl,fun w14 h14=>⟨((x1.trans x8).trans h11).trans h14,0,_,3,rfl,zzm (by decide),.inr ⟨rfl,rfl,hno⟩⟩⟩⟩
  refine zoT wp ws.length wc 1 w _ ⟨np,by omega,by omega,_,hc (Ext.refl w),fun w1 x1=>(ziS s hs w1 (g.ext x1)).mono fun v w2 ⟨e2,n,ev,hv,hcase⟩=>⟨e2,n,ev,hv,fun w5 h5=>?_⟩⟩
  have x2:=x1.trans e2
  refine zit (by kernel_rfl) (hcase.elim (fun h=>.inl h.1) fun h=>.inr h.1) fun t ht=>⟨Ext.refl _,t,rfl,fun _=>np,fun _=>by omega,fun _=>by omega,fun htt w8 h8=>bad x2 h8 fun m h0 h63 hm=>?_,fun htf=>⟨_,hc x2,fun _=>np,fun _=>by omega,fun _=>by omega,fun hgt w9 h9=>bad x2 h9 fun m _ _ _=>by omega,fun hle=>⟨_,hc x2,fun w10 h10=>?_⟩⟩⟩
  · exfalso
    have hp:=zff (n:=m) h0 h63
    have hsd:s.data.toList=Lib.itoa m:=by rw [hm]; rfl
    rw [hsd] at hcase
    rcases hcase with ⟨q1,q2⟩|⟨_,q2⟩
    · rw [ht.2 q1] at htt; cases htt
    · exact q2 _ hp
  · obtain ⟨hev,hpar⟩:ev=.nilIface/\Lib.parseIntB 64 s.data.toList=.ok n:=by
      rcases hcase with h|⟨⟨a,b,h⟩,_⟩
      · exact h
      · have:=ht.1 htf
        rw [h] at this; cases this
    have hb:=zg7 (zgy hpar)
    refine (znZ n hb w10 ((g.ext x2).ext h10)).mono fun v w11 ⟨e11,hv⟩=>⟨e11,_,hv,fun hor w13 h13=>bad x2 h13 fun m h0 h63 hm=>?_,fun hand w13 h13=>⟨x2.trans h13,n,_,0,rfl,ev0,.inl ⟨rfl,hand.2,hb.2,hand.1.symm,by omega⟩⟩⟩
    exfalso
    have hp:=zff (n:=m) h0 h63
    have hsd:s.data.toList=Lib.itoa m:=by rw [hm]; rfl
    rw [hsd] at hpar
    have:n=m:=by rw [hp] at hpar; injection hpar with hpar; exact hpar.symm
    subst this
    rcases hor with h|h
    · exact h hm.symm
    · omega
section
variable {O:Nat->Prop} {B db:Nat} {w:World} {K:Kt}
theorem KX.turn (x:KX O B w db K) {fb:Nat} {P P':Pl} {F G:Fm} (hK:K.farm=some (fb,P,F)) {w':World} (y:FXO (dO O db) B w' fb P' G) (f:Fr (ft fb P.jp) w w') (hg:∀ b,ft fb P'.jp b->ft fb P.jp b\/w.heap.size<=b) (I:Inv G) (W:WOk G) :
    KX O B w' db { K with farm:=some (fb,P',G) }/\Fr (KF db K) w w'/\ztK w db K { K with farm:=some (fb,P',G) }:=by
  have hx:=(x.opn fb P F hK).1
  refine ⟨⟨?_,fun e=>(by cases e),fun fb' P1 F1 e=>?_,fun b hb=>Nat.lt_of_lt_of_le (x.olt b hb) f.size,x.odis⟩,f.mono fun b hb=>.inr ⟨fb,P,F,hK,hb⟩,fun b hb=>?_⟩
  · have:dcs { K with farm:=some (fb,P',G) }=dcs K:=by simp [dcs,Kt.fp,hK]
    rw [this]
    exact x.slot.fr f fun a ha hs=>(by cases ha; exact hx.odis _ (.inr rfl) hs)
  · injection e with e
    obtain ⟨rfl,rfl,rfl⟩:fb=fb'/\P'=P1/\G=F1:=by simpa using e
    exact ⟨y,I,W⟩
  · rcases hb with rfl|⟨fb',P1,F1,e,h⟩
    · exact .inl (.inl rfl)
    · injection e with e
      obtain ⟨rfl,rfl,rfl⟩:fb=fb'/\P'=P1/\G=F1:=by simpa using e
      exact (hg b h).imp (fun h=>.inr ⟨fb,P,F,hK,h⟩) id
theorem KX.fbp (x:KX O B w db K) {fb:Nat} {P:Pl} {F:Fm} (hK:K.farm=some (fb,P,F)):Go.Sx.cell w (pAdd (ptr db) 1) 0=some (.pointer (ptr fb)):=by
  have:=x.fp
  unfold Kt.fp at this
  rw [hK] at this
  exact this
theorem KX.nofp (x:KX O B w db K) (hK:K.farm=none):Go.Sx.cell w (pAdd (ptr db) 1) 0=some (.pointer none):=by
  have:=x.fp
  unfold Kt.fp at this
  rw [hK] at this
  exact this
theorem Kt.st_opn {K:Kt} {fb:Nat} {P:Pl} {F:Fm} (hK:K.farm=some (fb,P,F)):K.st=.opn F:=by unfold Kt.st; rw [hK]
theorem Kt.st_shut {K:Kt} (hK:K.farm=none):K.st=.shut K.L:=by unfold Kt.st; rw [hK]
theorem Kt.cases (K:Kt):K.farm=none\/∃ fb P F,K.farm=some (fb,P,F):=by
  cases h:K.farm with
  |none => exact .inl rfl
  |some y => exact .inr ⟨y.1,y.2.1,y.2.2,rfl⟩
end
def NR (O:Nat->Prop) (B db:Nat) (w:World) (K:Kt) (R:Int->DS->Prop) (v:Value) (w':World):Prop :=
  ∃ (e:Int) (K':Kt),v=.int .i64 e/\KX O B w' db K'/\Fr (KF db K) w w'/\ztK w db K K'/\R e K'.st
theorem zIY {O:Nat->Prop} {B db:Nat} {w w' w'':World} {K:Kt} {R:Int->DS->Prop} {v:Value} (h:NR O B db w K R v w') (e:Ext w' w''):NR O B db w K R v w'':=by
  obtain ⟨c,K',h1,h3,h4,h5,h6⟩:=h
  exact ⟨c,K',h1,h3.ext e,h4.tr (zac e),h5,h6⟩
theorem zr1 {O:Nat->Prop} {B db:Nat} {w0 w w':World} {K:Kt} {R:Int->DS->Prop} {v:Value} (e:Ext w0 w) (h:NR O B db w K R v w'):NR O B db w0 K R v w':=by
  obtain ⟨c,K',h1,h3,h4,h5,h6⟩:=h
  exact ⟨c,K',h1,h3,(zac e).tr h4,fun b hb=>(h5 b hb).imp id fun h=>Nat.le_trans e.size h,h6⟩
theorem zr2 {O:Nat->Prop} {B db:Nat} {w w':World} {K:Kt} {R:Int->DS->Prop} (x:KX O B w db K) (e:Ext w w') {c:Int} (hR:R c K.st):NR O B db w K R (.int .i64 c) w' :=
  ⟨c,K,rfl,x.ext e,zac e,fun b hb=>.inl hb,hR⟩
theorem zF8 {F:Fm} (I:Inv F) {n:Int} (h:0<=n/\n<=1000000000/\F.now+n<=1099511627776):Inv { F with now:=F.now+n }:=by
  have hn:=I.i0.now
  exact ⟨⟨I.i0.aft,I.i0.pol,by show 0<=F.now+n/\F.now+n<=1099511627776; omega,I.i0.hs,I.i0.nd,I.i0.hrun,by
      intro i hi p hp
      have:=I.i0.use i hi p hp
      have e:∀ m,use { F with now:=F.now+n } i p m=use F i p m:=fun m=>by
        induction m with
        |zero => rfl
        |succ n ih => unfold use; rw [ih]; rfl
      rw [e]; exact this,I.i0.ahead,I.i0.tries⟩,I.wt⟩
def zA4 (F:Fm) (n:Int):Prop:=0<=n/\n<=1000000000/\F.now+n<=1099511627776
def zsy (F:Fm) (n e:Int) (σ:DS):Prop:=(e=4/\¬ zA4 F n/\σ=.opn F)\/(e=0/\zA4 F n/\σ=.opn { F with now:=F.now+n })
def zA3 (F:Fm) (id:Int):Prop:=inJ F id/\(zaf F (id-1).toNat).what=2
def zGt (F:Fm) (id:Int):Prop:=inJ F id/\((zaf F (id-1).toNat).what=1\/(zaf F (id-1).toNat).what=2)
def zvo (ok:Bool) (F:Fm) (id e:Int) (σ:DS):Prop:=(e≠0/\zsS F id e/\¬ zA3 F id/\σ=.opn F)\/(e=0/\zA3 F id/\σ=.opn (zsW F (id-1).toNat ok))
def zEm (F:Fm) (id e:Int) (σ:DS):Prop:=(e≠0/\zsS F id e/\¬ zGt F id/\σ=.opn F)\/(e=0/\zGt F id/\σ=.opn (zy9 F (id-1).toNat))
section
variable {O:Nat->Prop} {B db:Nat} {w:World} {K:Kt} {fb:Nat} {P:Pl} {F:Fm} {pb:Option Addr}
theorem tick_c (x:KX O B w db K) (hK:K.farm=some (fb,P,F)) (hpb:Go.Sx.cell w pb 0=some (.pointer (ptr db))) (n:Int) :
    FnP Tryz.prog zdE #[.int .i64 n,.pointer pb] w (NR O B db w K (zsy F n)):=by
  have ne:=zaF db
  refine zhc n pb w _ ⟨_,hpb,ne,ne,_,x.fbp hK,fun w2 x2=>?_⟩
  have y:=x.ext x2
  obtain ⟨fx,I,W⟩:=y.opn fb P F hK
  refine (zG5 fx I.i0.now n).mono fun v w3 ⟨e,hv,hor,hiff⟩=>⟨e,hv,fun w5 h5=>zr1 x2 (zIY ?_ h5)⟩
  rcases hor with ⟨hne,he,h3⟩|⟨he,hc,fx',f⟩
  · exact zr2 y h3 (.inl ⟨he,fun h=>hne (hiff.2 h),by rw [Kt.st_opn hK]⟩)
  · obtain ⟨a1,a2,a3⟩:=y.turn (P':=P) hK fx' f (fun b hb=>.inl hb) (zF8 I hc) (W.tick _)
    exact ⟨e,_,rfl,a1,a2,a3,.inr ⟨he,hc,rfl⟩⟩
theorem zGC (x:KX O B w db K) (hK:K.farm=some (fb,P,F)) (hpb:Go.Sx.cell w pb 0=some (.pointer (ptr db))) (n:Int) (hn:InR .i64 n) (ok:Bool) {f:FuncId} (hf:(ok=true/\f=zdF)\/(ok=false/\f=zdG)) :
    FnP Tryz.prog f #[.int .i64 n,.pointer pb] w (NR O B db w K (zvo ok F n)):=by
  have ne:=zaF db
  have fin:∀ {w5:World},Ext w w5->FnP Tryz.prog zbe #[.pointer (ptr fb),.int .i64 n,.bool ok] w5 fun v6 w6=>∃ t7:Int,v6=.int .i64 t7/\∀ w8,Ext w6 w8->NR O B db w K (zvo ok F n) (.int .i64 t7) w8:=fun {w5} x5=>by
    have y:=x.ext x5
    obtain ⟨fx,I,W⟩:=y.opn fb P F hK
    refine (zyy fx I.i0.pre n hn ok).mono fun v w3 ⟨e,hv,hiff,hor⟩=>⟨e,hv,fun w8 h8=>zr1 x5 (zIY ?_ h8)⟩
    rcases hor with ⟨hne,hE,h3⟩|⟨he,P',hjp,fx',f⟩
    · exact zr2 y h3 (.inl ⟨hne,hE,fun h=>hne (hiff.2 h),by rw [Kt.st_opn hK]⟩)
    · have hc:=hiff.1 he
      obtain ⟨a1,a2,a3⟩:=y.turn hK fx' f (fun b hb=>.inl (by rw [hjp] at hb; exact hb)) (zCG I (zqO hc.1) hc.2 ok) (W.rep _ ok)
      exact ⟨e,_,rfl,a1,a2,a3,.inr ⟨he,hc,rfl⟩⟩
  have sm:∀ (w2:World) (R:Value->World->Prop),(∀ w3,Ext w2 w3->R (.int .i64 n) w3)->FnP Tryz.prog zd9 #[.int .i64 n] w2 R:=fun w2 R h=>zkX n w2 R h
  rcases hf with ⟨rfl,rfl⟩|⟨rfl,rfl⟩
  · exact zhd n pb w _ ⟨_,hpb,ne,ne,_,x.fbp hK,fun w2 x2=>sm w2 _ fun w3 h3=>⟨h3,n,rfl,fun w5 x5=>fin x5⟩⟩
  · exact zhe n pb w _ ⟨_,hpb,ne,ne,_,x.fbp hK,fun w2 x2=>sm w2 _ fun w3 h3=>⟨h3,n,rfl,fun w5 x5=>fin x5⟩⟩
theorem zEq (x:KX O B w db K) (hK:K.farm=some (fb,P,F)) (hpb:Go.Sx.cell w pb 0=some (.pointer (ptr db))) (n:Int) (hn:InR .i64 n) :
    FnP Tryz.prog zdH #[.int .i64 n,.pointer pb] w (NR O B db w K (zEm F n)):=by
  have ne:=zaF db
  refine zhf n pb w _ ⟨_,hpb,ne,ne,_,x.fbp hK,fun w2 x2=>zkX n _ _ fun w3 h3=>⟨h3,n,rfl,fun w5 x5=>?_⟩⟩
  have y:=x.ext x5
  obtain ⟨fx,I,W⟩:=y.opn fb P F hK
  refine (zxC fx I.i0.pre n hn).mono fun v w3 ⟨e,hv,hiff,hor⟩=>⟨e,hv,fun w8 h8=>zr1 x5 (zIY ?_ h8)⟩
  rcases hor with ⟨hne,hE,h3⟩|⟨he,P',hjp,fx',f⟩
  · exact zr2 y h3 (.inl ⟨hne,hE,fun h=>hne (hiff.2 h),by rw [Kt.st_opn hK]⟩)
  · have hc:=hiff.1 he
    obtain ⟨a1,a2,a3⟩:=y.turn hK fx' f (fun b hb=>.inl (by rw [hjp] at hb; exact hb)) (zA5 I (zqO hc.1) hc.2) (W.can _)
    exact ⟨e,_,rfl,a1,a2,a3,.inr ⟨he,hc,rfl⟩⟩
end
def zIV (R:Fm->Int->Int->DS->Prop) (σ:DS) (n e:Int) (σ':DS):Prop:=match σ with
  |.shut L => e=9/\σ'=.shut L
  |.opn F => R F n e σ'
def zpb (R:Fm->Int->Int->DS->Prop) (word:ByteArray) (σ:DS) (s:ByteArray) (c:Int) (σ':DS):Prop :=
  ∃ n c1,zFn word n c1/\((c1≠0/\c=c1/\σ'=σ)\/(c1=0/\s=⟨#[111,107]⟩/\zIV R σ n c σ'))
section
variable {O:Nat->Prop} {B db:Nat} {w:World} {K:Kt}
theorem zfX {w:World} {p:Addr} {v:Value} (h:w.cell? p=some v):Go.Sx.cell w (some p) 0=some v:=by
  have:p.add 0=p:=add_zero p
  show w.cell? (p.add 0)=some v
  rw [this]; exact h
theorem zyB (x:KX O B w db K) {pb:Addr} {f:FuncId} {v:Value} (hv:zcS pb f v w) (hpb:w.cell? pb=some (.pointer (ptr db))) (g:GB w)
    (R:Fm->Int->Int->DS->Prop) (wp:Option Addr) (wc:Nat) (ws:List ByteArray) (h1:1<ws.length) (hs:(ws.getD 1 ⟨#[]⟩).size<=281474976710656) (hw:zat w wp (ws.map Value.string))
    (hf:∀ {w1:World} {fb:Nat} {P:Pl} {F:Fm} (n:Int),Ext w w1->InR .i64 n->K.farm=some (fb,P,F)->FnP Tryz.prog f #[.int .i64 n,.pointer (some pb)] w1 (NR O B db w1 K (R F n))) :
    ∃ f' cap,v=.func (.func f') #[] cap/\FnP Tryz.prog f' (#[.slice wp ws.length wc]++cap) w (CR O B db w K (zpb R (ws.getD 1 ⟨#[]⟩) K.st)):=by
  obtain ⟨p2,p1,rfl,c2,u,c1,p3,rfl,c3⟩:=hv
  refine ⟨_,_,rfl,zfM wp ws.length wc (some p2) w _ fun w0 x0=>(zoM wp wc ws h1 hs w0 (hw.ext x0) (g.ext x0)).mono fun v w1 ⟨e1,n,ev,c,hv,he,hn⟩=>⟨e1,n,ev,hv,fun w4 h4=>neE he fun b hb=>⟨Ext.refl _,b,rfl,fun hbt w7 h7=>?_,fun hbf=>?_⟩⟩⟩
  · have hc:c≠0:=fun h=>by rw [hb.2 h] at hbt; cases hbt
    exact zcg x ((x0.trans e1).trans h7) he ⟨n,c,hn,.inl ⟨hc,rfl,rfl⟩⟩
  · have hc:c=0:=hb.1 hbf
    have x1:=x0.trans e1
    refine ⟨_,zfX ((Cst.of_ext x1).cell c2),fun w8 h8=>⟨204,#[.pointer (some p1)],rfl,zf2 n (some p1) w8 _ ?_⟩⟩
    have x8:=x1.trans h8
    refine ⟨_,zfX ((Cst.of_ext x8).cell c1),fun w9 h9=>⟨207,#[.pointer (some pb),.pointer (some p3)],rfl,?_⟩⟩
    have x9:=x8.trans h9
    have hni:InR .i64 n:=by
      rcases hn with ⟨_,a,b,_⟩|⟨h,_⟩
      · exact i64 (by omega)
      · omega
    have fin:∀ {w2:World} {v2:Value},NR O B db w K (zIV R K.st n) v2 w2->∃ t3:Int,v2=.int .i64 t3/\∀ w4,Ext w2 w4->FnP Tryz.prog zbV #[.int .i64 t3] w4 fun v5 w5=>Ext w4 w5/\∃ t6:Value,v5=t6/\∀ w7,Ext w5 w7 ->
        ∃ t10:ByteArray,∃ t11:Value,Value.tuple #[.string (⟨#[111,107]⟩:ByteArray),t6]=.tuple #[.string t10,t11]/\∀ w12,Ext w7 w12->CR O B db w K (zpb R (ws.getD 1 ⟨#[]⟩) K.st) (.tuple #[.string t10,t11]) w12:=fun {w2 v2} hN=>by
      obtain ⟨e,K',rfl,hX,hF,hG,hR⟩:=hN
      refine ⟨e,rfl,fun w4 h4=>(zpw e w4).mono fun v w5 ⟨e5,hE⟩=>⟨e5,v,rfl,fun w7 h7=>⟨_,v,rfl,fun w12 h12=>?_⟩⟩⟩
      have hx:=((h4.trans e5).trans h7).trans h12
      exact ⟨_,v,e,K',rfl,hE,hX.ext hx,hF.tr (zac hx),hG,n,c,hn,.inr ⟨hc,rfl,hR⟩⟩
    have ne:=zaF db
    refine zf3 n (some pb) (some p3) w9 _ ⟨_,zfX ((Cst.of_ext x9).cell hpb),ne,ne,?_⟩
    rcases K.cases with hK|⟨fb,P,F,hK⟩
    · refine ⟨none,(x.ext x9).nofp hK,fun _ w2 h2=>fin (zr2 x (x9.trans h2) ?_),fun h=>absurd rfl h⟩
      rw [Kt.st_shut hK]
      exact ⟨rfl,rfl⟩
    · refine ⟨ptr fb,(x.ext x9).fbp hK,fun h=>absurd h (zaF fb),fun _=>⟨_,zfX ((Cst.of_ext x9).cell c3),fun w3 h3=>⟨f,#[.pointer (some pb)],rfl,(hf n (x9.trans h3) hni hK).mono fun v w4 hN=>?_⟩⟩⟩
      have hN':=zr1 (x9.trans h3) hN
      obtain ⟨e,K',rfl,hX,hF,hG,hR⟩:=hN'
      refine ⟨e,rfl,fun w6 h6=>fin ⟨e,K',rfl,hX.ext h6,hF.tr (zac h6),hG,?_⟩⟩
      rw [Kt.st_opn hK]; exact hR
end
theorem FXO.low' {O:Nat->Prop} {B B' fb:Nat} {w:World} {P:Pl} {F:Fm} (x:FXO O B w fb P F) (h:B'<=B):FXO O B' w fb P F:=⟨x.slot.weak h,x.arr.weak h,x.map,x.hs,x.js,x.ap,x.hO,x.jO,x.olt,x.odis⟩
def zAi:Pol:=⟨10,2,100,3⟩
theorem okdp:zoO zAi:=by unfold zoO okP zAi; decide
def zuq (σ:DS) (c:Int) (s:ByteArray) (σ':DS):Prop:=match σ with
  |.shut L => c=0/\s=⟨#[111,107]⟩/\σ'=.opn (zrV L zAi)
  |.opn F => c=9/\σ'=.opn F
section
variable {O:Nat->Prop} {B db:Nat} {w:World} {K:Kt}
theorem open_c (x:KX O B w db K) (hB:B<=w.heap.size) (a1:Option Addr) (n1 c1:Nat):FnP Tryz.prog zhE #[.pointer (ptr db),.slice a1 n1 c1] w (CR O B db w K fun s c σ'=>zuq K.st c s σ'):=by
  have ne:=zaF db
  refine zl5 (ptr db) a1 n1 c1 w _ ⟨ne,ne,?_⟩
  rcases K.cases with hK|⟨fb,P,F,hK⟩
  · refine ⟨none,x.nofp hK,fun h=>absurd rfl h,fun _=>⟨ne,ne,_,_,_,x.cell (i:=0) rfl,fun w4 x4=>?_⟩⟩
    obtain ⟨hn,_,hok,hO⟩:=x.shut hK
    rw [hn]
    have h30:=hok.1
    refine (fNew_k K.hp K.hc K.L (by omega) (fun h hh=>(hO h hh).1) zAi w4 (x.hs hK x4)).mono fun v w5 ⟨e5,q,e,hv,hiff,hno,hyes⟩=>⟨e5,q,e,hv,fun hne=>?_,fun hz=>⟨ne,ne,?_⟩⟩
    · have:zzK K.L zAi:=⟨hok,fun h hh=>(hO h hh).2,okdp⟩
      exact absurd (hiff.2 this) hne
    obtain ⟨fb,P,rfl,fx⟩:=hyes hz
    have x5:=x4.trans e5
    have y5:=x.ext x5
    have hdb4:db<w4.heap.size:=by have:=(x.slot.lt _ rfl).2; have:=x4.size; exact Nat.lt_of_lt_of_le (x.slot.lt _ rfl).2 x4.size
    refine zb7 (off:=1) y5.slot (by simp) rfl (by simp) fun w8 o8 g8 w9 h9=>?_
    have f8:Fr (fun b=>b=db) w5 w8:=zaO g8 fun a ha=>by cases ha; rfl
    have fx9:FXO (dO O db) B w9 fb P (zrV K.L zAi):=by
      refine FXO.low' (((fx.fr f8 fun b hb=>?_).ext h9).less fun b hb=>?_) (Nat.le_trans hB x4.size)
      · show b<w4.heap.size
        have hb:b=db:=hb
        omega
      · show b<w4.heap.size
        rcases hb with hb|hb
        · have:=x.olt b hb; have:=x4.size; omega
        · omega
    have hft:∀ b,ft fb P.jp b->w4.heap.size<=b:=fun b hb=>(fx.foot hb).1
    refine ⟨_,_,0,{ K with farm:=some (fb,P,zrV K.L zAi) },rfl,ev0,⟨?_,fun e=>(by cases e),fun fb' P1 F1 e=>?_,fun b hb=>Nat.lt_of_lt_of_le (x.olt b hb) ?_,x.odis⟩,?_,fun b hb=>?_,?_⟩
    · have:dcs { K with farm:=some (fb,P,zrV K.L zAi) }=(dcs K).set 1 (.pointer (ptr fb)):=by simp [dcs,Kt.fp]
      rw [this]; exact o8.ext h9
    · injection e with e
      obtain ⟨rfl,rfl,rfl⟩:fb=fb'/\P=P1/\zrV K.L zAi=F1:=by simpa using e
      exact ⟨fx9,zIW ⟨hok,fun h hh=>(hO h hh).2,okdp⟩,fun s hs=>by cases hs⟩
    · exact Nat.le_trans (Nat.le_trans x5.size f8.size) h9.size
    · exact ((zac x5).tr (f8.mono fun b hb=>.inl hb)).tr (zac h9)
    · rcases hb with rfl|⟨fb',P1,F1,e,h⟩
      · exact .inl (.inl rfl)
      · injection e with e
        obtain ⟨rfl,rfl,rfl⟩:fb=fb'/\P=P1/\zrV K.L zAi=F1:=by simpa using e
        have:=hft b h
        have:=x4.size
        exact .inr (by omega)
    · rw [Kt.st_shut hK]
      exact ⟨rfl,rfl,rfl⟩
  · refine ⟨_,x.fbp hK,fun _ w1 x1=>ztX ⟨Ext.refl _,_,rfl,fun w4 h4=>zcg x (x1.trans h4) (zEO (by decide)) ?_⟩,fun h=>absurd h (zaF fb)⟩
    rw [Kt.st_opn hK]
    exact ⟨rfl,rfl⟩
def zzW (word:ByteArray) (σ:DS) (c:Int) (s:ByteArray) (σ':DS):Prop:=σ'=σ/\∃ n c1,zFn word n c1/\((c1≠0/\c=c1)\/(c1=0/\match σ with
  |.shut _ => c=9
  |.opn F => (inJ F n/\c=0/\s=zqb.getD (zaf F (n-1).toNat).what.toNat ⟨#[]⟩)\/(¬ inJ F n/\c=5)))
theorem zJm (x:KX O B w db K) {fb:Nat} {P:Pl} {F:Fm} (hK:K.farm=some (fb,P,F)) (g:GD w) (n:Int) (hn:InR .i64 n):FnP Tryz.prog zeq #[.pointer (ptr db),.int .i64 n] w fun v w'=>Ext w w'/\∃ s ev c,v=.tuple #[.string s,ev]/\EV ev c /\
    ((inJ F n/\c=0/\s=zqb.getD (zaf F (n-1).toNat).what.toNat ⟨#[]⟩)\/(¬ inJ F n/\c=5)):=by
  have ne:=zaF db
  refine zl7 (ptr db) n w _ ⟨ne,ne,_,x.fbp hK,fun w1 x1=>?_⟩
  obtain ⟨fx,I,W⟩:=(x.ext x1).opn fb P F hK
  refine (Jobs_k fx).mono fun v w2 ⟨e2,p,c,R,hv,hR,hJ⟩=>⟨e2,p,_,c,hv,?_⟩
  have hl:R.length=F.jobs.length:=by have:=congrArg List.length hR; simpa using this
  rw [hl]
  have x2:=x1.trans e2
  refine ⟨fun hor w6 h6=>ztX ⟨Ext.refl _,_,rfl,fun w9 h9=>⟨(x2.trans h6).trans h9,_,_,5,rfl,zEO (by decide),.inr ⟨fun h=>by have:=h.1; have:=h.2; omega,rfl⟩⟩⟩,fun ⟨h1,h2⟩=>⟨i64 (by have:=zg7 hn; omega),?_⟩⟩
  obtain ⟨r,hr,hp,hp16,hcs,_⟩:=hJ.st (k:=n-1) (by omega) (by omega)
  have hj:zaf F (n-1).toNat=r.s:=by
    unfold zaf
    rw [List.getD_eq_getElem?_getD,<- hR,List.getElem?_map,hr]; rfl
  have hm:r.s∈F.jobs:=by rw [<- hR]; exact List.mem_map_of_mem (List.mem_of_getElem? hr)
  obtain ⟨w1',w5'⟩:=W r.s hm
  have g2:=g.ext x2
  have hwh:Go.Sx.cell w2 (pIdx (some (⟨4,0,none⟩:Addr)) r.s.what 1) 0=some (.string (zqb.getD r.s.what.toNat ⟨#[]⟩)):=by
    rw [zad]
    refine g2.whats _ _ ?_
    have hlt:r.s.what.toNat<zqb.length:=by show r.s.what.toNat<6; omega
    simp only [List.getElem?_map,Nat.mul_one,Nat.add_zero]
    rw [getElem?_getD zqb ⟨#[]⟩ hlt]; rfl
  refine ⟨hp,by omega,by omega,hp16,r.s.what,by rw [zal]; exact hcs 11 _ rfl,by simp,by omega,by omega,_,hwh,fun w8 h8=>⟨x2.trans h8,_,_,0,rfl,ev0,.inl ⟨⟨h1,h2⟩,rfl,by rw [hj]⟩⟩⟩
theorem show_c (x:KX O B w db K) {pb:Addr} {v:Value} (hv:zmN pb v w) (hpb:w.cell? pb=some (.pointer (ptr db))) (g:GD w)
    (wp:Option Addr) (wc:Nat) (ws:List ByteArray) (h1:1<ws.length) (hs:(ws.getD 1 ⟨#[]⟩).size<=281474976710656) (hw:zat w wp (ws.map Value.string)) :
    ∃ f' cap,v=.func (.func f') #[] cap/\FnP Tryz.prog f' (#[.slice wp ws.length wc]++cap) w (CR O B db w K fun s c σ'=>zzW (ws.getD 1 ⟨#[]⟩) K.st c s σ'):=by
  obtain ⟨p2,rfl,c2⟩:=hv
  refine ⟨_,_,rfl,zfM wp ws.length wc (some p2) w _ fun w0 x0=>(zoM wp wc ws h1 hs w0 (hw.ext x0) (g.gb.ext x0)).mono fun v w1 ⟨e1,n,ev,c,hv,he,hn⟩=>⟨e1,n,ev,hv,fun w4 h4=>neE he fun b hb=>⟨Ext.refl _,b,rfl,fun hbt w7 h7=>?_,fun hbf=>?_⟩⟩⟩
  · have hc:c≠0:=fun h=>by rw [hb.2 h] at hbt; cases hbt
    exact zcg x ((x0.trans e1).trans h7) he ⟨rfl,n,c,hn,.inl ⟨hc,rfl⟩⟩
  have hc:c=0:=hb.1 hbf
  have x1:=x0.trans e1
  have hni:InR .i64 n:=by
    rcases hn with ⟨_,a,b,_⟩|⟨h,_⟩
    · exact i64 (by omega)
    · omega
  refine ⟨_,zfX ((Cst.of_ext x1).cell c2),fun w8 h8=>⟨218,#[.pointer (some pb)],rfl,zhg n (some pb) w8 _ fun w9 h9=>zbt (by simp [Value.oneCell']) fun w10 o10 e10=>?_⟩⟩
  have x10:=((x1.trans h8).trans h9).trans e10
  have cn:∀ {w':World},Ext w10 w'->Go.Sx.cell w' (some ⟨w9.heap.size,0,none⟩) 0=some (.int .i64 n):=fun e=>(((o10 _ (Nat.le_refl _)).cells).ext e) 0 _ rfl
  have cpb:∀ {w':World},Ext w w'->Go.Sx.cell w' (some pb) 0=some (.pointer (ptr db)):=fun e=>zfX ((Cst.of_ext e).cell hpb)
  have ne:=zaF db
  refine ⟨_,cpb x10,ne,ne,?_⟩
  rcases K.cases with hK|⟨fb,P,F,hK⟩
  · refine ⟨none,(x.ext x10).nofp hK,fun w11 h11=>zjt true _ w11 _ ⟨fun _ w12 h12=>ztX ⟨Ext.refl _,_,rfl,fun w13 h13=>⟨h12.trans h13,_,_,rfl,fun w14 h14=>⟨_,_,rfl,fun w15 h15=>?_⟩⟩⟩,fun h=>(by cases h)⟩⟩
    refine zcg x ((((((x10.trans h11).trans h12).trans h13).trans h14)).trans h15) (zEO (c:=9) (by decide)) ⟨rfl,n,c,hn,.inr ⟨hc,?_⟩⟩
    rw [Kt.st_shut hK]
  · refine ⟨ptr fb,(x.ext x10).fbp hK,fun w11 h11=>zjt false _ w11 _ ⟨fun h=>(by cases h),fun _ w12 h12=>⟨220,_,rfl,?_⟩⟩⟩
    have x12:=(x10.trans h11).trans h12
    refine zf4 (some pb) (some ⟨w9.heap.size,0,none⟩) w12 _ ⟨_,cpb x12,_,cn (h11.trans h12),fun w13 h13=>?_⟩
    refine (zJm (x.ext (x12.trans h13)) hK (g.ext (x12.trans h13)) n hni).mono fun v w14 ⟨e14,s,ev',c',hv,hE,hcs⟩=>⟨e14,s,ev',hv,fun w15 h15=>⟨(h13.trans e14).trans h15,s,ev',rfl,fun w16 h16=>⟨(h12.trans ((h13.trans e14).trans h15)).trans h16,s,ev',rfl,fun w17 h17=>⟨s,ev',rfl,fun w18 h18=>?_⟩⟩⟩⟩
    refine zcg x ((((((((x12.trans h13).trans e14).trans h15).trans h16).trans h17)).trans h18)) hE ⟨rfl,n,c,hn,.inr ⟨hc,?_⟩⟩
    rw [Kt.st_opn hK]
    exact hcs
end
theorem zAs (L:List ByteArray) (c:UInt8) (p:Option Addr) (d:Nat) (hd:L.length<=d) (w:World) (hw:zat w p (L.map Value.string)) (hlen:(Lib.join (L.map (·.data.toList)) [c]).length<=140737488355327) (hL:L.length<=140737488355328) :
    FnP Tryz.prog za5 #[.slice p L.length d,.string (one c)] w fun v w'=>Ext w w'/\v=.string (ofL (Lib.join (L.map (·.data.toList)) [c])):=by
  refine ⟨fun args w=>Tryz.call173 args w,?_⟩
  cases L with
  |nil =>
    refine (Tryz.strings_Join_none p d (one c) w).mono fun e w' ⟨he,hw'⟩=>⟨_,he,by rw [hw']; exact Ext.refl w,rfl⟩
  |cons x r =>
    have h0:=hw 0 (.string x) rfl
    obtain ⟨a,rfl,hb,hc⟩:=zdn h0
    have hsp:a.spot=none:=by
      unfold World.cell? at hc
      cases hq:w.heap[(a.add 0).block]? with
      |none => simp [hq] at hc
      |some o =>
        cases o with
        |cells cs t f =>
          rw [hq] at hc
          simp only at hc
          by_cases hs:(a.add 0).spot.isSome=true
          · rw [if_pos hs] at hc; cases hc
          · have:(a.add 0).spot=a.spot:=rfl
            rw [this] at hs
            simpa using hs
        |_ => simp [hq] at hc
    obtain ⟨bk,off,sp⟩:=a
    have hsp:sp=none:=hsp
    subst hsp
    have hbk:bk<w.heap.size:=hb
    refine (Tryz.strings_Join bk off d (x::r) (one c) w (fun j y hy=>?_) hbk hL hd (by show (Lib.join ((x::r).map (·.data.toList)) [c]).length<=_; omega)).mono fun e w' ⟨he,hw'⟩=>⟨_,he,hw',rfl⟩
    have hcell:=hw j (.string y) (by rw [List.getElem?_map,hy]; rfl)
    simp only [cell,Option.bind_some] at hcell
    have ha:(Addr.add ⟨bk,off,none⟩ j)=⟨bk,off+j,none⟩:=by simp [Addr.add]
    rwa [ha] at hcell
def zgD (L:List Ht) (o:Int×Int):List UInt8:=Lib.itoa o.1++64::(L.getD o.2.toNat default).name.data.toList
def zsv (G:Fm) (outs:List (Int×Int)):List UInt8:=Lib.join (outs.map (zgD G.hosts)) [32]
theorem zCB {F G:Fm} {ids:List Int} {outs:List (Int×Int)} (h:zpE F ids G outs):(∀ o∈outs,o.1∈ids/\0<=o.2/\o.2<F.hosts.length)/\G.hosts.length=F.hosts.length:=by
  induction h with
  |nil F => exact ⟨fun o ho => by simp at ho,rfl⟩
  |skip _ _ ih => exact ⟨fun o ho => ⟨List.mem_cons_of_mem _ (ih.1 o ho).1,(ih.1 o ho).2⟩,ih.2⟩
  |@run F F' id k ids out hb _ ih =>
    have e:(zsX F (id-1).toNat k).hosts.length=F.hosts.length:=by rw [zpa]; unfold zld; simp
    obtain ⟨b0,b1,_⟩:=ztb hb
    refine ⟨fun o ho=>?_,by rw [ih.2,e]⟩
    rcases List.mem_cons.1 ho with rfl|ho
    · exact ⟨List.mem_cons_self,b0,b1⟩
    · have:=ih.1 o ho
      rw [e] at this
      exact ⟨List.mem_cons_of_mem _ this.1,this.2⟩
theorem zuB {F G:Fm} {outs:List (Int×Int)} (h:zfU F G outs):(∀ o∈outs,inJ F o.1/\0<=o.2/\o.2<F.hosts.length)/\G.hosts.length=F.hosts.length:=by
  obtain ⟨T,h1,h2⟩:=h
  obtain ⟨a,b⟩:=zCB h2
  exact ⟨fun o ho=>⟨(zus h1 _ (a o ho).1).1,(a o ho).2⟩,b⟩
def zuz (σ:DS) (c:Int) (s:ByteArray) (σ':DS):Prop:=match σ with
  |.shut _ => False
  |.opn F => c=0/\∃ G outs,zfU F G outs/\s=ofL (zsv G outs)/\σ'=.opn G
section
variable {O:Nat->Prop} {B db:Nat} {w:World} {K:Kt}
theorem plan_c (x:KX O B w db K) {fb:Nat} {P:Pl} {F:Fm} (hK:K.farm=some (fb,P,F)) (g:GD w) (hB:11<=B) (a1:Option Addr) (n1 c1:Nat) :
    FnP Tryz.prog zhF #[.pointer (ptr db),.slice a1 n1 c1] w (CR O B db w K fun s c σ'=>zuz K.st c s σ'):=by
  have ne:=zaF db
  refine zl6 (ptr db) a1 n1 c1 w _ ⟨ne,ne,_,x.fbp hK,fun w1 x1=>?_⟩
  have y1:=x.ext x1
  obtain ⟨fx,I,W⟩:=y1.opn fb P F hK
  refine (zGV fx I.i0.pre.aft I.i0.hs).mono fun v w2 ⟨G,outs,out,outc,P',hv,hpl,hGh,hjobs,hjp,fx',f2,oO,h60⟩=>⟨out,_,outc,0,hv,ne,ne,?_⟩
  obtain ⟨po1,po2⟩:=zuB hpl
  obtain ⟨y2,f2',g2'⟩:=y1.turn hK fx' f2 (fun b hb=>.inl (by rw [hjp] at hb; exact hb)) (zyp hpl I) (W.plan hpl)
  generalize hK':({ K with farm:=some (fb,P',G) }:Kt)=K' at y2 g2'
  have hK2:K'.farm=some (fb,P',G):=by rw [<- hK']
  have gd2:GD w2:=(g.ext x1).fr f2' fun b hb=>Nat.le_trans hB (y1.foot hb).1
  refine ⟨_,y2.fbp hK2,fun w8 x8=>?_⟩
  have y8:=y2.ext x8
  obtain ⟨fx8,I8,W8⟩:=y8.opn fb P' G hK2
  refine (zAq fx8 hGh).mono fun v w9 ⟨e9,hp,hc,hv,_,hS⟩=>⟨e9,hp,_,hc,hv,?_⟩
  have x9:=x8.trans e9
  have cO:zgm 2 encO w9 out outs:=(oO.ext x9).recs fun _ _=>rfl
  have hH:=hS.at
  refine ⟨fun p n c k w'=>Ext w9 w'/\0<=k/\k<=outs.length/\n=k/\Own w9.heap.size w' zar 1 p n c ((outs.take k.toNat).map fun o=>Value.string (ofL (zgD G.hosts o))),fun _ _ _ k _=>(outs.length-k).toNat,⟨Ext.refl _,by omega,by omega,by simp,Own.nil⟩,?_⟩
  rintro p n c k w16 ⟨x16,hk0,hk1,hnk,o16⟩
  refine ⟨fun hlt=>?_,fun hge w17 h17=>?_⟩
  · obtain ⟨o,ho⟩:∃ o,outs[k.toNat]?=some o:=⟨_,List.getElem?_eq_getElem (by omega)⟩
    obtain ⟨⟨i1,i2⟩,q1,q2⟩:=po1 o (List.mem_of_getElem? ho)
    rw [<- po2] at q2
    have hj60:=fx.jO.1
    have r0:Go.Sx.cell w16 (pIdx out k 2) 0=some (.int .i64 o.1):=by
      refine zaG x16 ?_
      exact cO.at hk0 ho rfl
    have r1:Go.Sx.cell w16 (pIdx out k 2) 1=some (.int .i64 o.2):=by
      refine zaG x16 ?_
      exact cO.at hk0 ho rfl
    obtain ⟨hq,hd,np,np8,hcs,_⟩:=(hH.ext x16).at q1 q2
    have hname:Go.Sx.cell w16 (pAdd (pIdx hp o.2 8) 0) 0=some (.string (G.hosts.getD o.2.toNat default).name):=by
      rw [zal]; exact hcs 0 _ rfl
    have hmem:=zap G.hosts default (i:=o.2.toNat) (by omega)
    have hsz:=(zcD (hGh.2.1 _ hmem).1).2
    refine ⟨fun hq=>zak r0 (zah.2 hq),hk0,hlt,zak r0,_,r0,_,r1,fun b19 hb19=>⟨np,q1,q2,np8,_,hname,fun w21 h21=>?_⟩⟩
    refine (zmO o.1 (by omega) w21 (((gd2.ext x9).ext x16).ext h21).gb).mono fun v w22 ⟨e22,hv⟩=>⟨e22,_,hv,?_⟩
    have hil:=Lib.itoa_length_le o.1 (by omega) (by omega)
    have e1:(ofL (Lib.itoa o.1)++(⟨#[64]⟩:ByteArray))++(G.hosts.getD o.2.toNat default).name=ofL (zgD G.hosts o):=by
      unfold zgD
      have:(⟨#[64]⟩:ByteArray)=ofL [64]:=rfl
      rw [this,zwm]
      have e2:(G.hosts.getD o.2.toNat default).name=ofL (G.hosts.getD o.2.toNat default).name.data.toList:=(zbM _).symm
      rw [e2,zwm,zb4]
      simp
    refine ⟨?_,?_,?_⟩
    · unfold zcY
      rw [zas]
      show _+1<=_
      omega
    · unfold zcY
      rw [show (⟨#[64]⟩:ByteArray)=ofL [64] from rfl,zwm,zas,List.length_append]
      show _+1+_<=_
      omega
    rw [e1]
    refine zo4 za7 (by omega) o16 x16.size (fun b hb y hy=>by simp at hb; subst hb; have:=(o16.lt y hy).2; omega) rfl (by intro u hu; simp [Value.cells] at hu; subst hu; rfl) (by omega) (by omega) (by omega) fun p' c' w' o' g' np _=>⟨i64 (by omega),⟨g'.ext x16 o16,by omega,by omega,by omega,?_⟩,by simp only []; omega⟩
    rw [show (k+1).toNat=k.toNat+1 by omega,List.take_add_one,ho]
    simpa [Value.cells] using o'
  · have hk:k=outs.length:=by omega
    subst hk
    have htake:outs.take ((outs.length:Int)).toNat=outs:=by simp
    rw [htake] at o16
    have hn:n=outs.length:=by omega
    subst hn
    have hmap:(outs.map fun o=>Value.string (ofL (zgD G.hosts o)))=(outs.map fun o=>ofL (zgD G.hosts o)).map Value.string:=by simp
    rw [hmap] at o16
    have hlen2:((outs.map fun o=>ofL (zgD G.hosts o)).map (·.data.toList))=outs.map (zgD G.hosts):=by
      rw [List.map_map]; rfl
    have hcap:=o16.le
    have hj:=zAs (outs.map fun o=>ofL (zgD G.hosts o)) 32 p c (by simpa using hcap.1) w17 (o16.ext h17).cells (by
      rw [hlen2]
      have:=zg9 (c:=32) (m:=100) (outs.map (zgD G.hosts)) (fun y hy=>by
        obtain ⟨o,ho,rfl⟩:=List.mem_map.1 hy
        obtain ⟨⟨i1,i2⟩,q1,q2⟩:=po1 o ho
        have hj60:=fx.jO.1
        have hil:=Lib.itoa_length_le o.1 (by omega) (by omega)
        rw [<- po2] at q2
        have hmem:=zap G.hosts default (i:=o.2.toNat) (by omega)
        have hsz:=(zcD (hGh.2.1 _ hmem).1).2
        unfold zgD
        rw [List.length_append,List.length_cons,zg0]
        omega)
      rw [List.length_map] at this
      omega) (by simp; omega)
    rw [List.length_map,hlen2] at hj
    refine hj.mono fun v w18 ⟨e18,hv⟩=>⟨e18,_,hv,fun w20 h20=>(zpw 0 w20).mono fun v w21 ⟨e21,hE⟩=>⟨e21,v,rfl,fun w23 h23=>?_⟩⟩
    have hx:=((x9.trans x16).trans h20).trans (e21.trans h23)
    refine ⟨_,v,0,K',rfl,hE,y2.ext hx,?_,?_,?_⟩
    · exact ((zac x1).tr f2').tr (zac hx)
    · intro b hb
      refine (g2' b hb).imp id fun h=>Nat.le_trans x1.size h
    · rw [Kt.st_opn hK,Kt.st_opn hK2]
      exact ⟨rfl,G,outs,hpl,rfl,rfl⟩
end
def zDW (w:World) (s:ByteArray) (v:Value) (w':World):Prop:=Ext w w'/\∃ j pa ca pf cf e,v=.tuple #[jv j pa ca pf cf,.int .i64 e]/\WfJ j/\(∀ S:Nat->Prop,(∀ b,S b->b<w.heap.size)->∀ w'',Fr S w' w''->IsJ w'' j pa ca pf) /\
  ((e≠0/\j=zc7/\pa=none/\ca=0/\pf=none/\cf=0)\/(e=0/\okJ j/\nod j.ask<=60/\s=ofL (jtx j)/\(txt j.ask).length<=2000))/\(3000<s.size->e=2)/\(s.size<=3000->e=0\/e=3)/\(∀ j0,JT s j0->s.size<=3000->e=0/\j=j0)
theorem zgr {w w':World} {s:ByteArray} (x:Ext w w') {e:Int} (he:e≠0) (hno:∀ j0,JT s j0->s.size<=3000->False) (hE:(3000<s.size->e=2)/\(s.size<=3000->e=3):=by refine ⟨fun h=>?_,fun h=>?_⟩<;>omega):zDW w s (.tuple #[jv zc7 none 0 none 0,.int .i64 e]) w' :=
  ⟨x,zc7,none,0,none,0,e,rfl,zhA,fun _ _ _ _=>znT _,.inl ⟨he,rfl,rfl,rfl,rfl,rfl⟩,hE.1,fun h=>.inr (hE.2 h),fun j0 h hs=>(hno j0 h hs).elim⟩
theorem zFa (s:ByteArray) (hs63:s.size<=9223372036854775807) (w:World) (g:GB w):FnP Tryz.prog zgi #[.string s] w (zDW w s):=by
  refine zoZ s w _ fun b0 hb0=>⟨fun hbig w1 h1=>zgr h1 (by decide) fun j0 _ h=>by omega,fun hsm w1 x1=>?_⟩
  have h1:=zaa x1
  have hb01:b0<w1.heap.size:=x1.lt b0 (by simp)
  refine (zew 32 s (by omega) w1 (g.ext h1)).mono fun v w2 ⟨e2,hv,hc2,hlt2⟩=>⟨e2,_,_,_,hv,fun hne w6 x6=>?_,fun h5=>?_⟩
  · refine zgr (zau x6 (h1.trans e2) (by intro d hd; simp at hd; omega)) (by decide) fun j0 hj _=>hne ?_
    rw [(zfO hj).1]; rfl
  have hw2:Ext w w2:=h1.trans e2
  have hcnt:Lib.countB s (one 32)=4:=by omega
  rw [hcnt] at hc2
  have hlen:=zej (c:=32) 4 s hcnt
  have hsz:∀ i q,(Lib.splitB (one 32) 0 4 s)[i]?=some q->q.size+i<=s.size:=fun i q h=>zcc _ s i q h
  have hjt:∀ j0,JT s j0->Lib.splitB (one 32) 0 4 s=(jps j0).map ofL:=fun j0 hj=>(zfO hj).2
  generalize Lib.splitB (one 32) 0 4 s=Ps at hc2 hlen hsz hjt
  have spn:(some (⟨w1.heap.size,0,none⟩:Addr))≠none:=by simp
  have spb:∀ a,(some (⟨w1.heap.size,0,none⟩:Addr))=some a->a.block<w2.heap.size:=fun a ha=>by obtain rfl:=Option.some.inj ha; exact hlt2
  generalize (some (⟨w1.heap.size,0,none⟩:Addr))=sp at hc2 spn spb ⊢
  obtain ⟨P0,P1,P2,P3,P4,rfl⟩:∃ a b c d e,Ps=[a,b,c,d,e]:=by
    match Ps,hlen with
    |[a,b,c,d,e],_ => exact ⟨a,b,c,d,e,rfl⟩
  have cellP:∀ {w':World} (i:Nat) (q:ByteArray),Ext w2 w'->([P0,P1,P2,P3,P4]:List ByteArray)[i]?=some q->Go.Sx.cell w' (pIdx sp (i:Int) 1) 0=some (.string q):=fun {w'} i q hx hq=>by
    rw [zad]
    have:=hc2.ext hx i (.string q) (by rw [List.getElem?_map,hq]; rfl)
    simpa using this
  have s0:=hsz 0 P0 rfl
  have s1:=hsz 1 P1 rfl
  have s2:=hsz 2 P2 rfl
  have s3:=hsz 3 P3 rfl
  have s4:=hsz 4 P4 rfl
  refine ⟨spn,by omega,by omega,P0,cellP 0 P0 (Ext.refl _) rfl,fun b7 hb7=>⟨spn,by omega,by omega,P1,cellP 1 P1 (Ext.refl _) rfl,fun w9 x9=>?_⟩⟩
  have hfree:∀ i:Int,zvg [b7] (pIdx sp i 1):=fun i b hb a ha=>by
    simp at hb; subst hb
    cases sp with
    |none => exact absurd rfl spn
    |some x =>
      have:=spb x rfl
      simp [pIdx] at ha
      rw [<- ha,zaM]; omega
  have h9:=zaa x9
  have hw9:=hw2.trans h9
  refine (zqx P1 (by omega) w9 (g.ext hw9)).mono fun v w10 ⟨e10,n1,ev,hv,hcase⟩=>⟨e10,n1,ev,hv,spn,by omega,by omega,P2,⟨cellP 2 P2 (h9.trans e10) rfl,hfree 2⟩,fun w14 x14=>?_⟩
  have hw10:=hw9.trans e10
  have h210:Ext w2 w10:=h9.trans e10
  have hb7w:w.heap.size<=b7:=Nat.le_trans hw2.size hb7
  have hw14:Ext w w14:=zau x14 hw10 (by intro d hd; simp at hd; omega)
  refine (zCa P2 (by omega) w14 (g.ext hw14)).mono fun v w15 ⟨e15,nd,en,hv,hnz,hnok,hncomp⟩=>⟨e15,nd.c,nd.m,nd.g,en,hv,spn,by omega,by omega,P4,⟨cellP 4 P4 h210 rfl,hfree 4⟩,fun w21 x21=>?_⟩
  have hw21:Ext w w21:=zau x21 hw10 (by intro d hd; simp at hd; omega)
  have h221:Ext w2 w21:=zau x21 h210 (by intro d hd; simp at hd; omega)
  have hb0_21:b0<w21.heap.size:=x21.lt b0 (by simp)
  have hb7_21:b7<w21.heap.size:=x21.lt b7 (by simp)
  refine (zvv P4 w21 (g.ext hw21)).mono fun v w22 ⟨e22,t,pa,ca,ea,hv,hWt,hTt,horA,hcompA⟩=>⟨e22,t.k,t.key,t.val,t.n,pa,t.xs.length,ca,ea,hv,fun w31 x31=>?_⟩
  have hw22:Ext w w22:=hw21.trans e22
  have h222:Ext w2 w22:=h221.trans e22
  have hn1:InR .i64 n1\/ev≠.nilIface:=by
    rcases hcase with ⟨_,h⟩|⟨⟨a,b,h⟩,_⟩
    · exact .inl (zgy h)
    · exact .inr (by rw [h]; simp)
  have parts:∀ j0,JT s j0->P0=j0.user/\P1=ofL (Lib.itoa j0.prio)/\P2=ofL (zbc j0.nd)/\P3=ofL (zpz j0.aft)/\P4=ofL (txt j0.ask):=fun j0 hj=>by
    have:=hjt j0 hj
    simp only [jps,List.map_cons,List.map_nil,List.cons.injEq,and_true] at this
    rw [zbM] at this
    exact this
  have good0:∀ j0,JT s j0->s.size<=3000->ev=.nilIface/\n1=j0.prio/\en=0/\nd=j0.nd/\ea=0/\t=j0.ask:=fun j0 hj hs=>by
    obtain ⟨q0,q1,q2,q3,q4⟩:=parts j0 hj
    have hp:=zgx (n:=j0.prio) (by have:=hj.ok.prio; omega)
    have ha:=hcompA j0.ask hj.ok.ask hj.nod q4 (by rw [q4,zas]; exact hj.ask)
    have hd:=hncomp j0.nd hj.ok.nd q2
    rcases hcase with ⟨h,h'⟩|⟨_,h'⟩
    · rw [q1,zb4,hp] at h'
      cases h'
      exact ⟨h,rfl,hd.1,hd.2,ha.1,ha.2⟩
    · rw [q1,zb4] at h'
      exact absurd hp (h' _)
  refine zit (by kernel_rfl) (hcase.elim (fun h=>.inl h.1) fun h=>.inr h.1) fun tb htb=>⟨Ext.refl _,tb,rfl,fun hbad w34 x34=>?_,fun hgd=>?_⟩
  · refine zgr (zau x34 hw22 (by intro d hd; simp at hd; omega)) (by decide) fun j0 hj hs=>?_
    obtain ⟨a1,_,a3,_,a5,_⟩:=good0 j0 hj hs
    rcases hbad with (h|h)|h
    · rw [htb.2 a1] at h; cases h
    · exact h a3
    · exact h a5
  have hev:ev=.nilIface:=htb.1 hgd.1.1
  have hn1:InR .i64 n1:=hn1.resolve_right fun h=>h hev
  have hnd:=hnok hgd.1.2
  obtain ⟨htC,htn,htx,_⟩:zlt t=0/\nod t<=60/\P4=ofL (txt t)/\P4.size<=2000:=by
    rcases horA with ⟨h,_⟩|⟨_,h⟩
    · exact absurd hgd.2 h
    · exact h
  have htl:(txt t).length<=2000:=by rw [<- zas,<- htx]; assumption
  have tail:∀ (xs:List Int) (pf:Option Addr) (cf:Nat) (wt:World),Ext w wt->Fr (fun b=>b=b7) w22 wt->Own w21.heap.size wt zgX 1 pf xs.length cf (xs.map (.int .i64))->(∀ x∈xs,InR .i64 x)->xs.length<=9223372036854775807->(∀ j0,JT s j0->s.size<=3000->xs=j0.aft) ->
      ∀ w55,zag [b7] [] wt w55->FnP Tryz.prog zdM #[jv ⟨P0,n1,nd,t,xs⟩ pa ca pf cf] w55 fun v56 w56=>Ext w55 w56/\∃ t57:ByteArray,∃ t58:Int,v56=(.tuple #[(.string t57),(.int .i64 t58)]) /\
        (((t58≠0)\/(t57≠s))->∀ w59,zag [b0,b7] [] wt w59->zDW w s (.tuple #[jv zc7 none 0 none 0,.int .i64 3]) w59) /\
        (((t58=0)/\(t57=s))->∀ w59,zag [b0,b7] [] wt w59->zDW w s (.tuple #[jv ⟨P0,n1,nd,t,xs⟩ pa ca pf cf,.int .i64 0]) w59):=by
    intro xs pf cf wt hwt ft o hxr hxl hcx w55 x55
    have hW:WfJ ⟨P0,n1,nd,t,xs⟩:=⟨by show P0.size<=_; omega,hn1,hnd.1.rng,hWt,hxl,hxr⟩
    have key:∀ (S:Nat->Prop),(∀ b,S b->b<w21.heap.size)->∀ w'',Fr S wt w''->IsJ w'' ⟨P0,n1,nd,t,xs⟩ pa ca pf:=fun S hS w'' fw=>by
      refine ⟨hTt (fun b=>b=b7\/S b) (fun b hb=>by rcases hb with rfl|hb; (· exact hb7_21); exact hS b hb) w'' ((ft.mono fun b hb=>.inl hb).tr (fw.mono fun b hb=>.inr hb)),?_⟩
      exact (Own.fr o fw fun a ha hb=>by have:=(o.lt a ha).1; have:=hS _ hb; omega).cells
    have f55:Fr (fun b=>b=b7) wt w55:=zbB x55 (by intro d hd; simp at hd; exact .inl hd)
    have hw55:Ext w w55:=zau x55 hwt (by intro d hd; simp at hd; omega)
    refine (zwf ⟨P0,n1,nd,t,xs⟩ pa ca pf cf w55 (key (fun b=>b=b7) (fun b hb=>by omega) w55 f55) hW (by show nod t<=_; omega) (g.ext hw55)).mono fun v w56 ⟨e56,tt,e,hv,heq,hem,htt⟩=>⟨e56,tt,e,hv,fun hbad w59 x59=>?_,fun hgood w59 x59=>?_⟩
    · refine zgr (zau x59 hwt (by intro d hd; simp at hd; omega)) (by decide) fun j0 hj hs=>?_
      obtain ⟨q0,_⟩:=parts j0 hj
      obtain ⟨_,a2,_,a4,_,a6⟩:=good0 j0 hj hs
      have hxa:=hcx j0 hj hs
      have hj0:(⟨P0,n1,nd,t,xs⟩:Jb)=j0:=by rw [q0,a2,a4,a6,hxa]
      have he0:e=0:=heq.2 (by rw [hj0]; exact hj.ok)
      rcases hbad with h|h
      · exact h he0
      · exact h (by rw [htt he0,hj0]; exact hj.is.symm)
    · refine ⟨zau x59 hwt (by intro d hd; simp at hd; omega),⟨P0,n1,nd,t,xs⟩,pa,ca,pf,cf,0,rfl,hW,fun S hS w'' fw=>?_,.inr ⟨rfl,heq.1 hgood.1,htn,by rw [<- hgood.2]; exact htt hgood.1,htl⟩,fun h=>by omega,fun _=>.inl rfl,fun j0 hj hs=>⟨rfl,?_⟩⟩
      · refine key (fun b=>S b\/b=b0\/b=b7) (fun b hb=>?_) w'' ((zbB x59 (by intro d hd; simp at hd; exact .inl (.inr hd))).tr (fw.mono fun b hb=>.inl hb))
        have:=hw21.size
        rcases hb with hb|rfl|rfl
        · have:=hS b hb; omega
        · exact hb0_21
        · exact hb7_21
      · obtain ⟨q0,_⟩:=parts j0 hj
        obtain ⟨_,a2,_,a4,_,a6⟩:=good0 j0 hj hs
        rw [q0,a2,a4,a6,hcx j0 hj hs]
  refine ⟨spn,by omega,by omega,P3,⟨cellP 3 P3 h222 rfl,hfree 3⟩,fun hne3=>⟨spn,by omega,by omega,P3,⟨cellP 3 P3 h222 rfl,hfree 3⟩,fun w36 x36=>?_⟩,fun heq3 w35 x35=>?_⟩
  rotate_left
  · refine tail [] none 0 w22 hw22 (Fr.refl _ _) Own.nil (fun x hx=>by cases hx) (by simp) (fun j0 hj hs=>?_) w35 x35
    obtain ⟨_,_,_,q3,_⟩:=parts j0 hj
    have:zpz j0.aft=[45]:=zlZ (q3.symm.trans heq3)
    rcases zxu this with h|⟨x,h,hx⟩
    · exact h.symm
    · have hup:=zf8 hj.ok.up x (by rw [h]; simp)
      rw [zdr (by omega)] at hx
      have:=zcC x.toNat 45 (by rw [hx]; simp)
      exact absurd this (by decide)
  have f36:Fr (fun b=>b=b7) w22 w36:=zbB x36 (by intro d hd; simp at hd; exact .inl hd)
  have hw36:Ext w w36:=zau x36 hw22 (by intro d hd; simp at hd; omega)
  have hb0_36:b0<w36.heap.size:=x36.lt b0 (by simp)
  have hb7_36:b7<w36.heap.size:=x36.lt b7 (by simp)
  refine (zew 44 P3 (by omega) w36 (g.ext hw36)).mono fun v w37 ⟨e37,hv,hc37,hlt37⟩=>⟨e37,_,_,_,hv,?_⟩
  have zFz:=zej (c:=44) _ P3 rfl
  have qsz:∀ i q,(Lib.splitB (one 44) 0 (Lib.countB P3 (one 44)) P3)[i]?=some q->q.size+i<=P3.size:=fun i q h=>zcc _ P3 i q h
  have qjt:∀ j0,JT s j0->Lib.countB P3 (one 44)+1=j0.aft.length/\Lib.splitB (one 44) 0 (Lib.countB P3 (one 44)) P3=(j0.aft.map Lib.itoa).map ofL:=fun j0 hj=>by
    obtain ⟨_,_,_,q3,_⟩:=parts j0 hj
    have hne:j0.aft≠[]:=fun h=>hne3 (by rw [q3,h]; rfl)
    rw [q3]
    exact zpf hne
  generalize Lib.splitB (one 44) 0 (Lib.countB P3 (one 44)) P3=Qs at hc37 zFz qsz qjt
  generalize Lib.countB P3 (one 44)=m at zFz qjt ⊢
  have qpn:(some (⟨w36.heap.size,0,none⟩:Addr))≠none:=by simp
  have qpb:∀ a,(some (⟨w36.heap.size,0,none⟩:Addr))=some a->a.block≠b7:=fun a ha=>by obtain rfl:=Option.some.inj ha; show w36.heap.size≠b7; omega
  generalize (some (⟨w36.heap.size,0,none⟩:Addr))=qp at hc37 qpn qpb ⊢
  have hw37:Ext w w37:=hw36.trans e37
  have hb37:b0<w37.heap.size/\b7<w37.heap.size:=by have:=e37.size; omega
  refine ⟨fun k c43 c44 c45 c46 c47 c48 c49 c50 c51 c52 cl52 cc52 c53 cl53 cc53 w'=>(c43=P0/\c44=n1/\c45=nd.c/\c46=nd.m/\c47=nd.g/\c48=t.k/\c49=t.key/\c50=t.val/\c51=t.n/\c52=pa/\cl52=t.xs.length/\cc52=ca)/\0<=k/\k<=(m+1:Nat)/\Ext w w'/\Fr (fun b=>b=b7) w37 w' /\
      ∃ xs:List Int,cl53=xs.length/\xs.length=k.toNat/\Own w37.heap.size w' zgX 1 c53 cl53 cc53 (xs.map (.int .i64))/\∀ (i:Nat) x,xs[i]?=some x->∃ q,Qs[i]?=some q/\Lib.parseIntB 64 q.data.toList=.ok x,fun k _ _ _ _ _ _ _ _ _ _ _ _ _ _ _ _=>(m+1-k).toNat,
    ⟨⟨rfl,rfl,rfl,rfl,rfl,rfl,rfl,rfl,rfl,rfl,rfl,rfl⟩,by omega,by omega,hw37,Fr.refl _ _,[],rfl,rfl,Own.nil,fun i x h=>by simp at h⟩,?_⟩
  rintro k c43 c44 c45 c46 c47 c48 c49 c50 c51 c52 cl52 cc52 c53 cl53 cc53 w54 ⟨⟨rfl,rfl,rfl,rfl,rfl,rfl,rfl,rfl,rfl,rfl,rfl,rfl⟩,hk0,hk1,hw54,f54,xs,rfl,hxk,o54,hxs⟩
  have c54:zat w54 qp (Qs.map Value.string):=hc37.fr f54 fun a ha=>qpb a ha
  refine ⟨fun hlt=>?_,fun hge=>?_⟩
  rotate_left
  · have f22:Fr (fun b=>b=b7) w22 w54:=(f36.tr (zac e37)).tr f54
    have sz:w21.heap.size<=w37.heap.size:=by have:=e22.size; have:=f36.size; have:=e37.size; omega
    refine tail xs c53 cc53 w54 hw54 f22 (o54.weak sz) (fun x hx=>?_) ?_ fun j0 hj hs=>?_
    · obtain ⟨i,hi⟩:=List.getElem?_of_mem hx
      obtain ⟨q,_,hq⟩:=hxs i x hi
      exact zgy hq
    · have:=o54.le; omega
    · obtain ⟨h1,h2⟩:=qjt j0 hj
      have hkl:xs.length=j0.aft.length:=by omega
      refine List.ext_getElem? fun i=>?_
      rcases Nat.lt_or_ge i xs.length with hi|hi
      · obtain ⟨q,hq,hp⟩:=hxs i xs[i] (List.getElem?_eq_getElem hi)
        rw [h2,List.map_map,List.getElem?_map,List.getElem?_eq_getElem (by omega:i<j0.aft.length)] at hq
        simp only [Option.map_some,Option.some.injEq] at hq
        have hup:=zf8 hj.ok.up (j0.aft[i]'(by omega)) (List.getElem_mem _)
        rw [<- hq] at hp
        have hp2:=zgx (n:=j0.aft[i]'(by omega)) (by omega)
        have hp3:Lib.parseIntB 64 (Lib.itoa (j0.aft[i]'(by omega)))=.ok xs[i]:=hp
        rw [hp2] at hp3
        injection hp3 with h3
        rw [List.getElem?_eq_getElem hi,List.getElem?_eq_getElem (by omega:i<j0.aft.length),h3]
      · rw [List.getElem?_eq_none hi,List.getElem?_eq_none (by omega)]
  obtain ⟨pc,hpc⟩:∃ pc,Qs[k.toNat]?=some pc:=⟨_,List.getElem?_eq_getElem (by omega)⟩
  have hcell:Go.Sx.cell w54 (pIdx qp k 1) 0=some (.string pc):=by
    rw [zad]
    exact c54 _ _ (by simp [hpc])
  have hpsz:=qsz _ _ hpc
  have hqfree:zvg [b7] (pIdx qp k 1):=fun b hb a ha=>by
    simp at hb; subst hb
    cases qp with
    |none => exact absurd rfl qpn
    |some x =>
      simp [pIdx] at ha
      rw [<- ha,zaM]; exact qpb x rfl
  refine ⟨qpn,hk0,hlt,pc,⟨hcell,hqfree⟩,fun w56 x56=>?_⟩
  have hw56:Ext w w56:=zau x56 hw54 (by intro d hd; simp at hd; omega)
  have f56:Fr (fun b=>b=b7) w37 w56:=f54.tr (zbB x56 (by intro d hd; simp at hd; exact .inl hd))
  refine (zqx pc (by omega) w56 (g.ext hw56)).mono fun v w57 ⟨e57,x,ev2,hv,hcase2⟩=>⟨e57,x,ev2,hv,fun w60 h60=>?_⟩
  have hw57:=hw56.trans e57
  refine zit (by kernel_rfl) (hcase2.elim (fun h=>.inl h.1) fun h=>.inr h.1) fun tb2 htb2=>⟨Ext.refl _,tb2,rfl,fun hbad w63 x63=>?_,fun hok=>?_⟩
  · refine zgr (zau x63 hw57 (by intro d hd; simp at hd; omega)) (by decide) fun j0 hj hs=>?_
    obtain ⟨h1,h2⟩:=qjt j0 hj
    rw [h2,List.map_map,List.getElem?_map,List.getElem?_eq_getElem (by omega:k.toNat<j0.aft.length)] at hpc
    simp only [Option.map_some,Option.some.injEq] at hpc
    have hup:=zf8 hj.ok.up (j0.aft[k.toNat]'(by omega)) (List.getElem_mem _)
    have hp2:=zgx (n:=j0.aft[k.toNat]'(by omega)) (by omega)
    rcases hcase2 with ⟨h,_⟩|⟨_,h⟩
    · rw [htb2.2 h] at hbad; cases hbad
    · rw [<- hpc] at h
      exact h _ hp2
  · have hx:Lib.parseIntB 64 pc.data.toList=.ok x:=by
      have:=htb2.1 hok
      rcases hcase2 with ⟨_,h⟩|⟨⟨a,b,h⟩,_⟩
      · exact h
      · rw [this] at h; cases h
    have f57:Fr (fun b=>b=b7) w37 w57:=f56.tr (zac e57)
    have o57:Own w37.heap.size w57 zgX 1 c53 xs.length cc53 (xs.map (.int .i64)):=Own.ext (Own.fr o54 (zbB x56 (by intro d hd; simp at hd; exact .inl hd):Fr (fun b=>b=b7) w54 w56) fun a ha hb=>by have:=(o54.lt a ha).1; omega) e57
    refine zgz ze8 o57 f57.size (fun b hb y hy=>by have:=(o57.lt y hy).1; simp at hb; rcases hb with rfl|rfl<;>omega) (by omega) (by omega) fun p' c' w' o' g' _ _=>⟨i64 (by omega),⟨⟨rfl,rfl,rfl,rfl,rfl,rfl,rfl,rfl,rfl,rfl,rfl,rfl⟩,by omega,by omega,?_,?_,xs++[x],by simp,by simp; omega,o',fun i y hy=>?_⟩,by simp only []; omega⟩
    · have hsz37:=hw37.size
      exact g'.ext hw57 (o57.weak hsz37)
    · have hB:Below w37.heap.size w57 w':=⟨g'.by_.os,g'.by_.tape,g'.by_.output,g'.by_.size,fun b hb=>g'.by_.block b (by have:=f57.size; omega) fun h=>by
        cases hp:c53 with
        |none => rw [hp] at h; simp [blk] at h
        |some a => rw [hp] at h; simp [blk] at h; have:=(o57.lt a hp).1; omega⟩
      exact ⟨hB.os.trans f57.os,hB.tape.trans f57.tape,hB.output.trans f57.output,Nat.le_trans f57.size hB.size,fun b hb hn=>(hB.block b hb).trans (f57.block b hb hn)⟩
    · rcases Nat.lt_or_ge i xs.length with hi|hi
      · rw [List.getElem?_append_left hi] at hy
        exact hxs i y hy
      · rw [List.getElem?_append_right hi] at hy
        obtain ⟨hi2,hy2⟩:=List.getElem?_eq_some_iff.1 hy
        simp at hi2 hy2
        obtain rfl:i=k.toNat:=by omega
        exact ⟨pc,hpc,by rw [<- hy2]; exact hx⟩
section
variable {O:Nat->Prop} {B fb:Nat} {w:World} {P:Pl} {F:Fm}
theorem zC2 (x:FXO O B w fb P F) (j:Jb) (pa:Option Addr) (ca:Nat) (pf:Option Addr) (cf:Nat) (hJ:IsJ w j pa ca pf) (hW:WfJ j) (hB:B<=w.heap.size) :
    FnP Tryz.prog zbE #[.pointer (ptr fb),jv j pa ca pf cf] w fun v w'=>∃ id e:Int,v=.tuple #[.int .i64 id,.int .i64 e]/\((e=0↔zzL F j)/\zHj F j e)/\((e≠0/\Ext w w'/\id=0)\/(e=0/\id=F.jobs.length+1/\∃ P',FXO O B w' fb P' (zsY F j)/\Fr (ft fb P.jp) w w'/\zE1 w fb P.jp P'.jp)):=by
  have ne:=zaF fb
  have hl0:=x.jO.1
  refine zfc (ptr fb) j.user j.prio j.nd.c j.nd.m j.nd.g j.ask.k j.ask.key j.ask.val j.ask.n pa j.ask.xs.length ca pf j.aft.length cf w _ fun b0 hb0 w1 h1=>?_
  refine (zBS j pa ca pf cf w1 (hJ.ext h1) hW).mono fun v w2 ⟨e2,hv⟩=>⟨e2,zsV j,hv,fun hne w4 h4=>⟨0,zsV j,rfl,⟨⟨fun h=>absurd h hne,fun h=>absurd (zik.2 h.1) hne⟩,.inl ⟨hne,rfl⟩⟩,.inl ⟨hne,h4,rfl⟩⟩,fun hz=>?_⟩
  have hok:=zik.1 hz
  have hlen:=hok.len
  have hup:=zf8 hok.up
  refine ⟨ne,ne,_,_,_,x.cell (i:=6) rfl,fun h60 w7 h7=>⟨0,7,rfl,⟨⟨fun h=>(by cases h),fun h=>absurd (by have:=x.len; omega) h.2.1⟩,.inr ⟨hz,.inl ⟨by have:=x.len; omega,rfl⟩⟩⟩,.inl ⟨by decide,h7,rfl⟩⟩,fun h60=>?_⟩
  refine ⟨fun k w'=>Ext w w'/\0<=k/\k<=j.aft.length/\∀ i:Nat,(i:Int)<k->j.aft.getD i 0<=F.jobs.length,fun k _=>(j.aft.length-k).toNat,⟨Ext.refl _,by omega,by omega,fun i hi=>by omega⟩,?_⟩
  rintro k w9 ⟨x9,hk0,hk1,hrng⟩
  have gmem:∀ {k:Int},0<=k->k<j.aft.length->j.aft.getD k.toNat 0∈j.aft:=fun h0 h1=>zap j.aft 0 (by omega)
  refine ⟨fun hlt=>?_,fun hge=>?_⟩
  · have g:=zd4.idx (hJ.2.ext x9) hk0 hlt
    have hy:=hup _ (gmem hk0 hlt)
    refine ⟨fun h=>zak g (zah.2 h),hk0,hlt,_,g,fun w11 x11=>?_⟩
    have h11:=x9.trans (zaa x11)
    refine (zEc (x.ext h11) _ (i64 (by omega))).mono fun v w12 ⟨e12,hv⟩=>⟨e12,?_⟩
    rcases hv with ⟨hno,rfl⟩|⟨_,hin,rfl⟩
    · exact ⟨_,rfl,fun _ w14 h14=>⟨0,5,rfl,⟨⟨fun h=>(by cases h),fun h=>absurd ⟨hy.1,(h.2.2 _ (gmem hk0 hlt)).1⟩ hno⟩,.inr ⟨hz,.inr ⟨by have:=x.len; omega,.inl ⟨⟨_,gmem hk0 hlt,hno⟩,rfl⟩⟩⟩⟩,.inl ⟨by decide,(h11.trans e12).trans h14,rfl⟩⟩,fun h=>absurd rfl h⟩
    · obtain ⟨q,hq,hne,_⟩:=zlF x ⟨hy.1,hin⟩ (h11.trans e12)
      refine ⟨_,rfl,fun h=>absurd (hq.symm.trans h) hne,fun _=>⟨i64 (by omega),⟨h11.trans e12,by omega,by omega,fun i hi=>?_⟩,by simp only []; omega⟩⟩
      by_cases hik:(i:Int)<k
      · exact hrng i hik
      · obtain rfl:i=k.toNat:=by omega
        exact hin
  have hall:∀ y∈j.aft,y<=F.jobs.length:=fun y hy=>by
    obtain ⟨i,hi,rfl⟩:=List.mem_iff_getElem.1 hy
    have:=hrng i (by omega)
    simpa [List.getD_eq_getElem?_getD,hi] using this
  refine ⟨fun k w'=>Ext w w'/\0<=k/\k<=j.aft.length/\∀ i:Nat,(i:Int)<k->zaU F (j.aft.getD i 0)≠4/\zaU F (j.aft.getD i 0)≠5,fun k _=>(j.aft.length-k).toNat,⟨x9,by omega,by omega,fun i hi=>by omega⟩,?_⟩
  clear hrng hge hk0 hk1
  rintro k w12 ⟨x12,hk0,hk1,hrng⟩
  refine ⟨fun hlt=>?_,fun hge=>?_⟩
  · have g:=zd4.idx (hJ.2.ext x12) hk0 hlt
    have hy:=hup _ (gmem hk0 hlt)
    have hy2:=hall _ (gmem hk0 hlt)
    refine ⟨fun h=>zak g (zah.2 h),hk0,hlt,_,g,fun w14 x14=>?_⟩
    have h14:=x12.trans (zaa x14)
    refine (zEc (x.ext h14) _ (i64 (by omega))).mono fun v w15 ⟨e15,hv⟩=>⟨e15,?_⟩
    rcases hv with ⟨hno,_⟩|⟨_,hin,rfl⟩
    · exact absurd ⟨hy.1,hy2⟩ hno
    · obtain ⟨q,hq,hne,hg⟩:=zlF x ⟨hy.1,hin⟩ (h14.trans e15)
      refine ⟨_,rfl,by rw [hq]; exact hne,by rw [hq]; exact hne,_,by rw [hq]; exact hg,fun hbad w18 h18=>⟨0,9,rfl,⟨⟨fun h=>(by cases h),fun h=>?_⟩,.inr ⟨hz,.inr ⟨by have:=x.len; omega,.inr ⟨fun y hy=>⟨(hup y hy).1,hall y hy⟩,.inl ⟨⟨_,gmem hk0 hlt,hbad⟩,rfl⟩⟩⟩⟩⟩,.inl ⟨by decide,(h14.trans e15).trans h18,rfl⟩⟩,fun hgd=>⟨i64 (by omega),⟨h14.trans e15,by omega,by omega,fun i hi=>?_⟩,by simp only []; omega⟩⟩
      · have:=(h.2.2 _ (gmem hk0 hlt)).2
        rcases hbad with h|h
        · exact absurd h this.1
        · exact absurd h this.2
      · by_cases hik:(i:Int)<k
        · exact hrng i hik
        · obtain rfl:i=k.toNat:=by omega
          exact hgd
  have hall2:∀ y∈j.aft,zaU F y≠4/\zaU F y≠5:=fun y hy=>by
    obtain ⟨i,hi,rfl⟩:=List.mem_iff_getElem.1 hy
    have:=hrng i (by omega)
    simpa [List.getD_eq_getElem?_getD,hi] using this
  have hoks:zzL F j:=⟨hok,by have:=x.len; omega,fun y hy=>⟨hall y hy,hall2 y hy⟩⟩
  have x12':=x.ext x12
  refine ⟨ne,ne,_,_,_,x12'.cell (i:=6) rfl,fun w16 x16=>?_⟩
  have h16:=x12.trans (zaa x16)
  have hE:zey j.ask=0:=by
    have:=hok.ask
    unfold zlt at this
    split at this
    · cases this
    · exact this
  refine (zCq ⟨ztZ j,pa,ca,pf,cf⟩ w16 (hJ.ext h16) hE hok.len).mono fun v w17 ⟨e17,r,hv,hrs,hF⟩=>⟨e17,r.s.job.user,r.s.job.prio,r.s.job.nd.c,r.s.job.nd.m,r.s.job.nd.g,r.s.job.ask.k,r.s.job.ask.key,r.s.job.ask.val,r.s.job.ask.n,r.pa,r.s.job.ask.xs.length,r.ca,r.pf,r.s.job.aft.length,r.cf,r.s.what,r.s.host,r.s.since,r.s.again,r.s.tries,hv,?_⟩
  have h17:=h16.trans e17
  have x17:=x.ext h17
  have hlR:=x.len
  have hn60:F.jobs.length≠60:=hoks.2.1
  have hbj:∀ b∈[b0],∀ y,P.jp=some y->y.block≠b:=fun b hb y hy=>by simp at hb; subst hb; have:=(x.arr.lt y hy).2; omega
  refine zo4 (v:=sv r) zg3 (by omega) x17.arr (Nat.le_trans hB h17.size) hbj rfl (zxR r) (by omega) (by omega) (by omega) fun p' c' w44 o44 g44 hp' hb44=>⟨ne,ne,?_⟩
  have apF:zbz (ptr fb) P.jp:=fun u y hu hy=>by cases hu; exact fun h=>x.ap y hy h.symm
  have s44:=x17.slot.st apF g44
  have hfb:=(x.slot.lt _ rfl).2
  have apP:∀ a,p'=some a->a.block≠fb:=fun a ha he=>by
    rcases g44.new with hn|hn
    · rw [ha] at hn
      cases hj:P.jp with
      |none => rw [hj] at hn; simp [blk] at hn
      |some y => rw [hj] at hn; simp [blk] at hn; exact x.ap y hj (hn▸he)
    · have h1:=hn a ha
      have h2:=h17.size
      have h3:fb<w.heap.size:=hfb
      omega
  refine zaR (off:=6) s44 rfl (by simp) (by simp) (by intro u hu; simp at hu; subst hu; rfl) (fun b hb y hy he=>by cases hy; simp at hb; subst hb; have h3:fb<w.heap.size:=hfb; have he:fb=b:=he; omega) fun w48 o48 g48=>?_
  have f48:Fr (ft fb P.jp) w17 w48:=(zaO g44 fun a ha=>.inr ⟨a,ha,rfl⟩).tr (zaO g48 fun a ha=>by cases ha; exact .inl rfl)
  have hft:∀ b,ft fb p' b->ft fb P.jp b\/w17.heap.size<=b:=fun b hb=>by
    rcases hb with h|⟨a,ha,rfl⟩
    · exact .inl (.inl h)
    · rcases g44.new with hn|hn
      · left
        rw [ha] at hn
        cases hj:P.jp with
        |none => rw [hj] at hn; simp [blk] at hn
        |some y => rw [hj] at hn; simp [blk] at hn; exact .inr ⟨y,rfl,hn.symm⟩
      · exact .inr (hn a ha)
  have step:∀ {w'' w0:World},Ext w0 w17->Fr (ftO O fb p') w48 w''->Fr (ftO O fb P.jp) w0 w'':=fun h0 kf=>((zac h0).tr (f48.mono fun b hb=>.inr hb)).trans kf fun b hb=>by
    rcases hb with hb|hb
    · exact .inl (.inl hb)
    · rcases hft b hb with h|h
      · exact .inl (.inr h)
      · exact .inr (Nat.le_trans h0.size h)
  have y48:FXO O B w48 fb ⟨P.hp,P.hc,p',c',P.R++[r]⟩ (zsY F j):=by
    refine ⟨?_,?_,?_,fun w'' kf=>x.hs w'' (step h17 kf),fun r' hr' w'' kf=>?_,apP,x.hO,?_,fun b hb=>by have:=x.olt b hb; have:=h17.size; have:=f48.size; omega,fun b hb hf=>(hft b hf).elim (x.odis b hb) fun h=>by have:=x.olt b hb; have:=h17.size; omega⟩
    · show Own B w48 zc3 7 (ptr fb) 1 1 [_,_,_,_,_,_,.slice p' (P.R++[r]).length c']
      rw [List.length_append]
      exact o48
    · show Own B w48 zjG 16 p' (P.R++[r]).length c' ((P.R++[r]).flatMap ztl)
      rw [List.length_append,List.flatMap_append]
      have:=o44.st (fun u v hu hv=>by cases hv; exact apP u hu) g48
      simpa [Value.cells] using this
    · show (P.R++[r]).map (·.s)=F.jobs++[ztZ j]
      rw [List.map_append,x.map]; simp [hrs]
    · have hr':r'∈P.R++[r]:=hr'
      rcases List.mem_append.1 hr' with hr'|hr'
      · exact x.js r' hr' w'' (step h17 kf)
      · simp at hr'; subst hr'
        have:=hF (ftO O fb P.jp) (fun b hb=>by
          rcases hb with hb|hb
          · have:=x.olt b hb; have:=h16.size; omega
          · have:=(x.foot hb).2; have:=h16.size; omega) w'' (step (Ext.refl _) kf)
        rw [hrs]
        exact this
    · refine ⟨by show (F.jobs++[ztZ j]).length<=60; rw [List.length_append]; simp; omega,fun s hs=>?_⟩
      have hs:s∈F.jobs++[ztZ j]:=hs
      rcases List.mem_append.1 hs with hs|hs
      · exact x.jO.2 s hs
      · simp at hs; subst hs; exact ⟨hok,hW⟩
  refine ⟨ne,ne,_,_,_,y48.cell (i:=6) rfl,fun w52 h52=>⟨_,0,rfl,⟨⟨fun _=>hoks,fun _=>rfl⟩,.inr ⟨hz,.inr ⟨hn60,.inr ⟨fun y hy=>⟨(hup y hy).1,hall y hy⟩,.inr ⟨hall2,rfl⟩⟩⟩⟩⟩,.inr ⟨rfl,?_,_,y48.ext h52,((zac h17).tr f48).tr (zac h52),fun b hb=>?_⟩⟩⟩
  · simp; omega
  · rcases hft b hb with h|h
    · exact .inl h
    · exact .inr (Nat.le_trans h17.size h)
end
theorem zA8 {w:World} {p:Option Addr} {c:Nat} {ws:List ByteArray} (k:Nat) (hk:k<ws.length) (hc:ws.length<=c) (h:zat w p (ws.map Value.string)):zat w (pCut p c (k:Int) 1) ((ws.drop k).map Value.string):=by
  have e:pCut p c (k:Int) 1=p.map (·.add k):=by
    unfold pCut
    rw [if_neg (by simp; omega)]
    simp
  rw [e]
  intro i v hv
  have h2:=h (k+i) v (by rw [List.getElem?_map,List.getElem?_drop] at hv; rw [List.getElem?_map]; exact hv)
  cases p with
  |none => simp [cell] at h2
  |some a =>
    simp only [Option.map_some,cell,Option.bind_some] at h2 ⊢
    have:(a.add k).add i=a.add (k+i):=by
      by_cases h0:k=0
      · subst h0; simp [Addr.add]
      · by_cases hi:i=0
        · subst hi; simp [Addr.add,h0]
        · simp [Addr.add,h0,hi,Nat.add_assoc]
    rw [this]; exact h2
def znj (ws:List ByteArray) (k:Nat):ByteArray:=ofL (Lib.join ((ws.drop k).map (·.data.toList)) [32])
theorem zGX {wp:Option Addr} {wc:Nat} {ws:List ByteArray} {w:World} (k:Nat) (hk:k<ws.length) (hc:ws.length<=wc) (h10:ws.length<=10) (hsz:∀ x∈ws,x.size<=4294967281) (hw:zat w wp (ws.map Value.string)) :
    FnP Tryz.prog za5 #[.slice (pCut wp wc (k:Int) 1) ((ws.length:Int)-(k:Int)).toNat (wc-((k:Int)).toNat),.string (one 32)] w fun v w'=>Ext w w'/\v=.string (znj ws k)/\(znj ws k).size<=42949672820:=by
  have hb:(Lib.join ((ws.drop k).map (·.data.toList)) [32]).length<=42949672820:=by
    have:=zg9 (c:=32) (m:=4294967281) ((ws.drop k).map (·.data.toList)) (fun y hy=>by
      obtain ⟨x,hx,rfl⟩:=List.mem_map.1 hy
      have:=hsz x (List.mem_of_mem_drop hx)
      rw [zg0]; exact this)
    rw [List.length_map,List.length_drop] at this
    omega
  have e:((ws.length:Int)-(k:Int)).toNat=(ws.drop k).length:=by rw [List.length_drop]; omega
  rw [e]
  exact (zAs (ws.drop k) 32 _ _ (by rw [List.length_drop]; simp; omega) w (zA8 k hk hc hw) (by omega) (by rw [List.length_drop]; omega)).mono fun v w' ⟨h1,h2⟩=>⟨h1,h2,by unfold znj; rw [zas]; exact hb⟩
def zFB (t:ByteArray) (e:Int) (j:Jb):Prop:=(3000<t.size->e=2)/\(t.size<=3000->e=0\/e=3)/\(e=0->JT t j)/\(∀ j0,JT t j0->t.size<=3000->e=0/\j=j0)
def zhp (t:ByteArray) (σ:DS) (c:Int) (s:ByteArray) (σ':DS):Prop:=match σ with
  |.shut _ => False
  |.opn F => ∃ e j,zFB t e j/\((e≠0/\c=e/\σ'=.opn F)\/(e=0/\zHj F j c/\((c≠0/\σ'=.opn F)\/(c=0/\s=ofL (Lib.itoa (F.jobs.length+1))/\σ'=.opn (zsY F j)))))
section
variable {O:Nat->Prop} {B db:Nat} {w:World} {K:Kt}
theorem zF0 (x:KX O B w db K) {fb:Nat} {P:Pl} {F:Fm} (hK:K.farm=some (fb,P,F)) (g:GD w) (hB:11<=B) (hBw:B<=w.heap.size) (wp:Option Addr) (wc:Nat) (ws:List ByteArray) (h1:1<ws.length) (hc:ws.length<=wc) (h10:ws.length<=10)
    (hsz:∀ x∈ws,x.size<=4294967281) (hw:zat w wp (ws.map Value.string)) :
    FnP Tryz.prog zfy #[.pointer (ptr db),.slice wp ws.length wc] w (CR O B db w K fun s c σ'=>zhp (znj ws 1) K.st c s σ'):=by
  have ne:=zaF db
  refine zjY (ptr db) wp ws.length wc w _ ⟨by omega,by omega,by omega,fun w0 x0=>(zGX 1 h1 hc h10 hsz (hw.ext x0)).mono fun v w1 ⟨e1,hv,hs⟩=>⟨e1,_,hv,fun w3 x3=>?_⟩⟩
  generalize znj ws 1=t at hs ⊢
  refine (zFa t (by omega) w3 (g.gb.ext x3)).mono fun v w4 ⟨e4,j,pa,ca,pf,cf,e,hv,hW,hJ,hor,hb2,hb3,hcomp⟩=>⟨e4,j.user,j.prio,j.nd.c,j.nd.m,j.nd.g,j.ask.k,j.ask.key,j.ask.val,j.ask.n,pa,j.ask.xs.length,ca,pf,j.aft.length,cf,e,hv,fun b21 hb21=>?_⟩
  have x4:=x3.trans e4
  have hread:zFB t e j:=⟨hb2,hb3,fun h=>by
    rcases hor with ⟨h',_⟩|⟨_,q1,q2,q3,q4⟩
    · exact absurd h h'
    · exact ⟨q1,by omega,q3,q4⟩,hcomp⟩
  refine ⟨fun hne w22 x22=>ztX ⟨Ext.refl _,_,rfl,rfl,fun w25 x25=>zzE ⟨Ext.refl _,_,rfl,fun w28 h28=>?_⟩⟩,fun hz=>⟨ne,ne,_,(x.ext x4).fbp hK,fun w23 x23=>?_⟩⟩
  · refine zcg x (((x4.trans (zaa x22)).trans (zaa x25)).trans h28) (zzm hne) ?_
    rw [Kt.st_opn hK]
    exact ⟨e,j,hread,.inl ⟨hne,rfl,rfl⟩⟩
  have h23:=x4.trans (zaa x23)
  have y:=x.ext h23
  obtain ⟨fx,I,W⟩:=y.opn fb P F hK
  have hb21':=x23.lt b21 (by simp)
  have hft:∀ b,KF db K b->b≠b21:=fun b hb he=>by
    have:=((x.ext x4).foot hb).2
    omega
  refine (zC2 fx j pa ca pf cf (hJ (fun _=>False) (fun _ h=>h.elim) w23 (zac (zaa x23))) hW (Nat.le_trans hBw h23.size)).mono fun v w24 ⟨id,e',hv,⟨hiff,hE⟩,hres⟩=>⟨?_,id,e',hv,fun w27 h27=>?_⟩
  · rcases hres with ⟨_,h,_⟩|⟨_,_,P',_,f,_⟩
    · exact (zac (S:=fun _=>False) h).kept fun b hb=>by simp at hb; subst hb; exact ⟨hb21',fun h=>h⟩
    · exact f.kept fun b hb=>by
        simp at hb; subst hb
        exact ⟨hb21',fun h=>hft _ (.inr ⟨fb,P,F,hK,h⟩) rfl⟩
  have hR:∃ K',KX O B w24 db K'/\Fr (KF db K) w23 w24/\ztK w23 db K K'/\(InR .i64 id)/\∀ s:ByteArray,s=ofL (Lib.itoa id)->zhp t K.st e' s K'.st:=by
    rcases hres with ⟨hne,h,rfl⟩|⟨he0,hid,P',fx',f,hg⟩
    · refine ⟨K,y.ext h,zac h,fun b hb=>.inl hb,i64 (by omega),fun s _=>?_⟩
      rw [Kt.st_opn hK]
      exact ⟨e,j,hread,.inr ⟨hz,hE,.inl ⟨hne,rfl⟩⟩⟩
    · have hok:=hiff.1 he0
      obtain ⟨a1,a2,a3⟩:=y.turn hK fx' f hg (zC0 I hok) (W.sub j)
      refine ⟨_,a1,a2,a3,?_,fun s hs=>?_⟩
      · have:=fx.jO.1; exact i64 (by omega)
      · rw [Kt.st_opn hK]
        exact ⟨e,j,hread,.inr ⟨hz,hE,.inr ⟨he0,by rw [hs,hid],rfl⟩⟩⟩
  obtain ⟨K',y',f',g',hid,hRR⟩:=hR
  have gd24:GD w24:=(g.ext h23).fr f' fun b hb=>Nat.le_trans hB (y.foot hb).1
  refine (zmO id (zg7 hid) w27 (gd24.ext h27).gb).mono fun v w28 ⟨e28,hv⟩=>⟨e28,_,hv,fun w30 x30=>(zpw e' w30).mono fun v w31 ⟨e31,hE'⟩=>⟨e31,v,rfl,fun w33 h33=>?_⟩⟩
  have hx:=((zaa x30).trans e31).trans h33
  refine ⟨_,v,e',K',rfl,hE',y'.ext hx,((zac h23).tr f').tr (zac hx),fun b hb=>(g' b hb).imp (fun h=>h) fun h=>Nat.le_trans h23.size h,hRR _ rfl⟩
end
instance decMem (x:ByteArray) (l:List ByteArray):Decidable (x∈l):=decidable_of_iff (l.any (fun y=>decide (y=x))=true) (by simp)
def lbE (seen:List ByteArray):List Lb->Int
  |[] => 0
  |x::r => if lbB x.key=true/\lbB x.val=true then (if x.key∈seen then 6 else lbE (seen++[x.key]) r) else 3
def hE (seen:List ByteArray) (h:Ht):Int :=
  if lbB h.name=false then 3 else if h.name∈seen then 6 else if 8<h.labels.length then 2 else if lbE [] h.labels≠0 then lbE [] h.labels
  else if zxV h.has≠0 then 4 else if zxV h.used≠0 then 4 else if zjn h.used h.has then 0 else 10
def hsE (seen:List ByteArray):List Ht->Int
  |[] => 0
  |h::r => if hE seen h≠0 then hE seen h else hsE (seen++[h.name]) r
def zky (L:List Ht):Int:=if 30<L.length then 2 else hsE [] L
theorem zGI:∀ (l:List Lb) (seen:List ByteArray),lbE seen l=0↔(∀ x∈l,lbB x.key=true/\lbB x.val=true)/\(l.map (·.key)).Nodup/\∀ x∈l,x.key∉seen
  |[],seen => by simp [lbE]
  |x::r,seen => by
    rw [lbE]
    have ih:=zGI r (seen++[x.key])
    by_cases h1:lbB x.key=true/\lbB x.val=true
    · rw [if_pos h1]
      by_cases h2:x.key∈seen
      · rw [if_pos h2]
        exact ⟨fun h=>by omega,fun h=>absurd h2 (h.2.2 x List.mem_cons_self)⟩
      · rw [if_neg h2,ih,List.map_cons,List.nodup_cons]
        constructor
        · rintro ⟨a,b,c⟩
          refine ⟨fun y hy=>?_,⟨fun hm=>?_,b⟩,fun y hy=>?_⟩
          · rcases List.mem_cons.1 hy with rfl|hy
            · exact h1
            · exact a y hy
          · obtain ⟨y,hy,he⟩:=List.mem_map.1 hm
            exact c y hy (by rw [he]; simp)
          · rcases List.mem_cons.1 hy with rfl|hy
            · exact h2
            · exact fun hs=>c y hy (List.mem_append_left _ hs)
        · rintro ⟨a,⟨b1,b2⟩,c⟩
          refine ⟨fun y hy=>a y (List.mem_cons_of_mem _ hy),b2,fun y hy hs=>?_⟩
          rcases List.mem_append.1 hs with hs|hs
          · exact c y (List.mem_cons_of_mem _ hy) hs
          · simp at hs
            exact b1 (List.mem_map.2 ⟨y,hy,hs⟩)
    · rw [if_neg h1]
      exact ⟨fun h=>by omega,fun h=>absurd (h.1 x List.mem_cons_self) h1⟩
theorem hE_ok {seen:List ByteArray} {h:Ht}:hE seen h=0↔zFq h/\h.name∉seen:=by
  have hl:=zGI h.labels []
  unfold hE zFq okLb
  by_cases h1:lbB h.name=false
  · rw [if_pos h1]; simp [h1]
  have h1':lbB h.name=true:=by simpa using h1
  rw [if_neg h1]
  by_cases h2:h.name∈seen
  · rw [if_pos h2]; simp [h2]
  rw [if_neg h2]
  by_cases h3:8<h.labels.length
  · rw [if_pos h3]; exact ⟨fun h=>by omega,fun h=>by have:=h.1.2.1; omega⟩
  rw [if_neg h3]
  by_cases h4:lbE [] h.labels=0
  · rw [if_neg (by simpa using h4)]
    obtain ⟨a,b,_⟩:=hl.1 h4
    by_cases h5:zxV h.has=0
    · rw [if_neg (by simpa using h5)]
      by_cases h6:zxV h.used=0
      · rw [if_neg (by simpa using h6)]
        by_cases h7:zjn h.used h.has
        · rw [if_pos h7]
          exact ⟨fun _=>⟨⟨h1',by omega,⟨a,b⟩,za3.1 h5,za3.1 h6,h7⟩,h2⟩,fun _=>rfl⟩
        · rw [if_neg h7]
          exact ⟨fun h=>by omega,fun h=>absurd h.1.2.2.2.2.2 h7⟩
      · rw [if_pos h6]
        exact ⟨fun h=>by omega,fun h=>absurd (za3.2 h.1.2.2.2.2.1) h6⟩
    · rw [if_pos h5]
      exact ⟨fun h=>by omega,fun h=>absurd (za3.2 h.1.2.2.2.1) h5⟩
  · rw [if_pos (by simpa using h4)]
    exact ⟨fun h=>absurd h h4,fun h=>absurd (hl.2 ⟨h.1.2.2.1.1,h.1.2.2.1.2,by simp⟩) h4⟩
theorem zGE:∀ (L:List Ht) (seen:List ByteArray),hsE seen L=0↔(∀ h∈L,zFq h)/\(L.map (·.name)).Nodup/\∀ h∈L,h.name∉seen
  |[],seen => by simp [hsE]
  |x::r,seen => by
    rw [hsE]
    have ih:=zGE r (seen++[x.name])
    have hx:=hE_ok (seen:=seen) (h:=x)
    by_cases h1:hE seen x=0
    · rw [if_neg (by simpa using h1),ih,List.map_cons,List.nodup_cons]
      obtain ⟨q1,q2⟩:=hx.1 h1
      constructor
      · rintro ⟨a,b,c⟩
        refine ⟨fun y hy=>?_,⟨fun hm=>?_,b⟩,fun y hy=>?_⟩
        · rcases List.mem_cons.1 hy with rfl|hy
          · exact q1
          · exact a y hy
        · obtain ⟨y,hy,he⟩:=List.mem_map.1 hm
          exact c y hy (by rw [he]; simp)
        · rcases List.mem_cons.1 hy with rfl|hy
          · exact q2
          · exact fun hs=>c y hy (List.mem_append_left _ hs)
      · rintro ⟨a,⟨b1,b2⟩,c⟩
        refine ⟨fun y hy=>a y (List.mem_cons_of_mem _ hy),b2,fun y hy hs=>?_⟩
        rcases List.mem_append.1 hs with hs|hs
        · exact c y (List.mem_cons_of_mem _ hy) hs
        · simp at hs
          exact b1 (List.mem_map.2 ⟨y,hy,hs⟩)
    · rw [if_pos (by simpa using h1)]
      exact ⟨fun h=>absurd h h1,fun h=>absurd (hx.2 ⟨h.1 x List.mem_cons_self,h.2.2 x List.mem_cons_self⟩) h1⟩
theorem zxT {L:List Ht}:zky L=0↔zjW L:=by
  unfold zky zjW
  by_cases h:30<L.length
  · rw [if_pos h]; exact ⟨fun h=>by omega,fun h=>by have:=h.1; omega⟩
  · rw [if_neg h,zGE]
    exact ⟨fun ⟨a,b,_⟩=>⟨by omega,a,b⟩,fun ⟨_,a,b⟩=>⟨a,b,by simp⟩⟩
theorem zoh {α:Type} {L:List α} (d:α) {k:Nat} (h:k<L.length):L.drop k=L.getD k d::L.drop (k+1):=by
  rw [List.drop_eq_getElem_cons h]
  simp [List.getD_eq_getElem?_getD,h]
theorem ztz (p:Option Addr) (c:Nat) (L:List Ht) (h63:(L.length:Int)<=9223372036854775807) (hO:∀ h∈L,zvh h) (w:World) (hL:zi8 w p L) :
    FnP Tryz.prog zbW #[.slice p L.length c] w fun v w'=>Ext w w'/\v=.int .i64 (zky L):=by
  refine zk1 p L.length c w _ ⟨fun hgt w0 h0=>⟨h0,by unfold zky; rw [if_pos (by omega)]⟩,fun hle w0 h0=>?_⟩
  have hEH:zky L=hsE [] L:=by unfold zky; rw [if_neg (by omega)]
  rw [hEH]
  refine zyD fun w1 S1 e1=>⟨e1,_,rfl,?_⟩
  generalize hr1:w0.heap.size=r1 at S1
  have x1:=h0.trans e1
  have hw1:w.heap.size<=r1:=by have:=h0.size; omega
  refine ⟨fun k w'=>Ext w w'/\0<=k/\k<=L.length/\zhR w' r1 ((L.take k.toNat).map (·.name))/\hsE [] L=hsE ((L.take k.toNat).map (·.name)) (L.drop k.toNat),fun k _=>(L.length-k).toNat,⟨x1,by omega,by omega,S1,rfl⟩,?_⟩
  rintro k w5 ⟨x5,hk0,hk1,S5,hE5⟩
  have fin:∀ {e:Int} {w':World},Ext w w'->hsE [] L=e->Ext w w'/\Value.int .i64 e=.int .i64 (hsE [] L):=fun hx h1=>⟨hx,by rw [h1]⟩
  refine ⟨fun hlt=>?_,fun hge w6 h6=>fin (x5.trans h6) ?_⟩
  rotate_left
  · rw [hE5,List.drop_eq_nil_of_le (by omega)]; rfl
  obtain ⟨q,d,hp,hp8,g',hLb⟩:=hL.at hk0 hlt
  have hm:=zap L default (i:=k.toNat) (by omega)
  have hOk:=hO _ hm
  rw [zoh default (by omega:k.toNat<L.length),hsE] at hE5
  generalize hHd:L.getD k.toNat default=H at g' hLb hm hOk hE5
  generalize hseen:(L.take k.toNat).map (·.name)=seen at S5 hE5
  have bad:∀ {e:Int},e≠0->hE seen H=e->hsE [] L=e:=fun hne he=>by rw [hE5,he,if_pos hne]
  have g:∀ (j:Nat) u,(zDH H q d)[j]?=some u->Go.Sx.cell w5 (pIdx p k 8) j=some u:=fun j u hu=>zaG x5 (g' j u hu)
  obtain ⟨ho1,ho2,ho3⟩:=hOk
  refine ⟨hp,hk0,hlt,hp8,_,g 0 _ rfl,_,_,_,g 1 _ rfl,_,g 2 _ rfl,_,g 3 _ rfl,_,g 4 _ rfl,_,g 5 _ rfl,_,g 6 _ rfl,_,g 7 _ rfl,fun b16 hb16=>?_⟩
  refine ⟨fun w'=>w'=w5/\lbB H.name=true/\H.name∉seen/\H.labels.length<=8,fun w19 h19=>?_,?_⟩
  · refine (zfT H.name ho1 w19).mono fun v w20 ⟨e20,hv⟩=>⟨e20,_,hv,fun hf w22 h22=>fin (x5.trans h22) (bad (by decide) ?_),fun hn w22 h22=>?_⟩
    · unfold hE; rw [if_pos hf]
    have hn':¬ lbB H.name=false:=by rw [hn]; decide
    refine znN (S5.ext h22) H.name fun b hb=>⟨Ext.refl _,b,rfl,fun hin w25 h25=>fin (x5.trans h25) (bad (by decide) ?_),fun hnin=>?_⟩
    · unfold hE; rw [if_neg hn',if_pos (hb.1 hin)]
    have hns:H.name∉seen:=fun hm=>by rw [hb.2 hm] at hnin; cases hnin
    refine ⟨fun h8 w25 h25=>fin (x5.trans h25) (bad (by decide) ?_),fun h8=>⟨rfl,hn,hns,by omega⟩⟩
    unfold hE; rw [if_neg hn',if_neg hns,if_pos (by omega)]
  rintro w5 ⟨rfl,hn,hnin,h8⟩ w19 x19
  have hn':¬ lbB H.name=false:=by rw [hn]; decide
  have h19:=zaa x19
  have hb19:b16<w19.heap.size:=x19.lt b16 (by simp)
  have hr5:=S5.lt
  refine zss (S5.ext h19) H.name fun w20 S20 g20=>⟨fun b hb=>?_,fun w21 x21=>?_⟩
  · simp at hb; subst hb
    refine g20.by_.block b hb19 fun he=>?_
    simp [blk] at he; omega
  have x20:Ext w w20:=g20.below (x5.trans h19) (x5.trans h19).size (fun a ha=>by obtain rfl:=Option.some.inj ha; exact hw1)
  have h21:=zaa x21
  refine zyD fun w22 S22 e22=>⟨e22,_,rfl,?_⟩
  have hr21:r1<w21.heap.size:=by have:=S20.lt; have:=h21.size; omega
  generalize hr2:w21.heap.size=r2 at S22 hr21
  have x22:=(x20.trans h21).trans e22
  have hb16r:b16<r2:=by have:=g20.size; have:=h21.size; omega
  refine ⟨fun j w'=>Ext w w'/\0<=j/\j<=H.labels.length/\zhR w' r1 (seen++[H.name])/\zhR w' r2 ((H.labels.take j.toNat).map (·.key))/\lbE [] H.labels=lbE ((H.labels.take j.toNat).map (·.key)) (H.labels.drop j.toNat),fun j _=>(H.labels.length-j).toNat,⟨x22,by omega,by omega,(S20.ext h21).ext e22,S22,rfl⟩,?_⟩
  rintro j w26 ⟨x26,hj0,hj1,Sa,Sb,hlE⟩
  have badL:∀ {e:Int},e≠0->lbE [] H.labels=e->hsE [] L=e:=fun hne he=>bad hne (by unfold hE; rw [if_neg hn',if_neg hnin,if_neg (by omega),if_pos (by rw [he]; exact hne),he])
  refine ⟨fun hjl=>?_,fun hjg w27 h27=>?_⟩
  · have hLb6:=hLb.ext x26
    have l0:=hLb6.idx default hj0 hjl (j:=0) rfl
    have l1:=hLb6.idx default hj0 hjl (j:=1) rfl
    have hlm:=zap H.labels default (i:=j.toNat) (by omega)
    have hls:=ho3 _ hlm
    rw [zoh default (by omega:j.toNat<H.labels.length),lbE] at hlE
    generalize hld:H.labels.getD j.toNat default=lb at l0 l1 hlm hls hlE
    generalize hkeys:(H.labels.take j.toNat).map (·.key)=keys at Sb hlE
    refine ⟨fun hq=>zak l0 (zah.2 hq),hj0,hjl,zak l0,_,l0,_,l1,fun b29 hb29=>?_⟩
    refine ⟨fun w'=>w'=w26/\lbE [] H.labels=lbE (keys++[lb.key]) (H.labels.drop (j.toNat+1)),fun w32 h32=>?_,?_⟩
    · refine (zfT lb.key hls.1 w32).mono fun v w33 ⟨e33,hv⟩=>⟨e33,_,hv,fun hf w35 h35=>fin (x26.trans h35) (badL (by decide) (by rw [hlE,if_neg (by rw [hf]; simp)])),fun hkt w35 h35=>?_⟩
      refine (zfT lb.val hls.2 w35).mono fun v w36 ⟨e36,hv⟩=>⟨e36,_,hv,fun hf w38 h38=>fin (x26.trans h38) (badL (by decide) (by rw [hlE,if_neg (by rw [hf]; simp)])),fun hvt w38 h38=>?_⟩
      rw [if_pos ⟨hkt,hvt⟩] at hlE
      refine znN (Sb.ext h38) lb.key fun b hb=>⟨Ext.refl _,b,rfl,fun hin w41 h41=>fin (x26.trans h41) (badL (by decide) (by rw [hlE,if_pos (hb.1 hin)])),fun hnin=>⟨rfl,?_⟩⟩
      rw [hlE,if_neg (fun hm=>by rw [hb.2 hm] at hnin; cases hnin)]
    rintro w26 ⟨rfl,hlE'⟩ w32 x32
    have h32:=zaa x32
    refine zss (Sb.ext h32) lb.key fun w33 S33 g33=>⟨fun b hb=>?_,i64 (by omega),⟨?_,by omega,by omega,?_,?_,?_⟩,by simp only []; omega⟩
    · have hlt':=x32.lt b hb
      refine g33.by_.block b hlt' fun he=>?_
      simp [blk] at he
      simp at hb
      have:=Sb.lt
      rcases hb with rfl|rfl<;>omega
    · exact g33.below (x26.trans h32) (x26.trans h32).size (fun a ha=>by obtain rfl:=Option.some.inj ha; show w.heap.size<=r2; omega)
    · exact (Sa.ext h32).grew (by omega) g33
    · rw [show (j+1).toNat=j.toNat+1 by omega,zcE (fun x:Lb=>x.key) default (by omega),hld,hkeys]; exact S33
    · rw [show (j+1).toNat=j.toNat+1 by omega,zcE (fun x:Lb=>x.key) default (by omega),hld,hkeys]; exact hlE'
  · have hl0:lbE [] H.labels=0:=by rw [hlE,List.drop_eq_nil_of_le (by omega)]; rfl
    have hEe:hE seen H=if zxV H.has≠0 then 4 else if zxV H.used≠0 then 4 else if zjn H.used H.has then 0 else 10:=by
      unfold hE; rw [if_neg hn',if_neg hnin,if_neg (by omega),if_neg (by rw [hl0]; simp)]
    refine (zwi H.used H.has w27).mono fun v w28 ⟨e28,t,e,hv,ht⟩=>⟨e28,_,_,hv,fun w31 h31=>?_⟩
    refine (zd6 H.has w31).mono fun v w32 ⟨e32,hv⟩=>⟨e32,_,hv,?_⟩
    refine ⟨fun w'=>w'=w26/\hE seen H=0,⟨fun hne w36 h36=>?_,fun he0=>⟨fun hne w36 h36=>?_,fun he=>⟨fun hf w36 h36=>?_,fun htt=>?_⟩⟩⟩,?_⟩
    · have hno:¬ okN H.has:=fun h=>hne (za3.2 h)
      rw [zlN hno]
      exact fin (x26.trans h36) (bad (by decide) (by rw [hEe,if_pos hne]))
    · rcases ht with ⟨_,_,rfl,_⟩|⟨hno,rfl,_⟩
      · exact absurd rfl hne
      · have hu:¬ okN H.used:=fun h=>hno ⟨h,za3.1 he0⟩
        exact fin (x26.trans h36) (bad (by decide) (by rw [hEe,if_neg (by simpa using he0),if_pos (by rw [zlN hu]; decide)]))
    · rcases ht with ⟨a1,a2,_,rfl⟩|⟨_,rfl,_⟩
      · refine fin (x26.trans h36) (bad (by decide) ?_)
        rw [hEe,if_neg (by simpa using he0),if_neg (by have:=za3.2 a1; simpa using this),if_neg (by simpa using hf)]
      · omega
    · rcases ht with ⟨a1,a2,_,rfl⟩|⟨_,rfl,_⟩
      · refine ⟨rfl,?_⟩
        rw [hEe,if_neg (by simpa using he0),if_neg (by have:=za3.2 a1; simpa using this),if_pos (by simpa using htt)]
      · omega
    · rintro w26 ⟨rfl,hz⟩
      rw [hz,if_neg (by simp)] at hE5
      refine ⟨i64 (by omega),⟨x26,by omega,by omega,?_,?_⟩,by simp only []; omega⟩
      · rw [show (k+1).toNat=k.toNat+1 by omega,zcE (fun x:Ht=>x.name) default (by omega),hHd,hseen]; exact Sa
      · rw [show (k+1).toNat=k.toNat+1 by omega,zcE (fun x:Ht=>x.name) default (by omega),hHd,hseen]; exact hE5
def zwI (x:Nd):Prop:=∀ i,i<3->0<=zb3 x i/\zb3 x i<=9223372036854775807
theorem zwI.rng {x:Nd} (h:zwI x):rng x:=fun i hi=>by have:=h i hi; omega
theorem okN.pos {x:Nd} (h:okN x):zwI x:=fun i hi=>by have:=zoN.1 h i hi; omega
theorem zCx {x:Nd} (hx:zwI x) {i:Nat} (hi:i<3):(44:UInt8)∉zfg x i:=fun hm=>by
  have h0:=(hx i hi).1
  unfold zfg at hm
  rcases List.mem_append.1 hm with h|h
  · exact (zFw hi).2 h
  · rcases List.mem_cons.1 h with h|h
    · exact absurd h (by decide)
    · exact zio h0 (by decide) h
theorem zwW {x:Nd} (hx:zwI x) (hne:zbc x≠[45]):Lib.countB (ofL (zbc x)) (one 44)+1=(idx x 3).length/\Lib.splitB (one 44) 0 (Lib.countB (ofL (zbc x)) (one 44)) (ofL (zbc x))=(pcs x 3).map ofL:=by
  have hp:pcs x 3≠[]:=fun h=>hne (by unfold zbc; rw [if_pos h])
  have ht:zbc x=Lib.join (pcs x 3) [44]:=by unfold zbc; rw [if_neg hp]
  rw [ht]
  cases hl:pcs x 3 with
  |nil => exact absurd hl hp
  |cons a l =>
    obtain ⟨h1,h2⟩:=zdb (c:=44) l a fun y hy=>by
      rw [<- hl] at hy
      obtain ⟨i,hi,rfl⟩:=List.mem_map.1 hy
      exact zCx hx (zox hi).1
    have hlen:(idx x 3).length=l.length+1:=by
      have:=congrArg List.length hl
      unfold pcs at this
      rw [List.length_map] at this
      simpa using this
    rw [h1,h2]
    exact ⟨by omega,rfl⟩
def zzQ (s:ByteArray) (a:Nd) (e:Int):Prop:=(e≠0->a=zbd)/\(e=0->okN a/\s=ofL (zbc a))/\(∀ x,zwI x->s=ofL (zbc x)->(okN x->e=0/\a=x)/\(¬ okN x->e=4))/\(e≠0->e≠4->e=3)/\(e=4->∃ x,zwI x/\s=ofL (zbc x)/\¬ okN x)
theorem zzQ.one {s:ByteArray} {a b:Nd} {e f:Int} (h:zzQ s a e) (g:zzQ s b f):a=b/\e=f:=by
  obtain ⟨h1,h2,h3,h4,h5⟩:=h
  obtain ⟨g1,g2,g3,g4,g5⟩:=g
  by_cases e0:e=0
  · obtain ⟨q1,q2⟩:=h2 e0
    obtain ⟨q3,q4⟩:=(g3 a q1.pos q2).1 q1
    exact ⟨q4.symm,by omega⟩
  · by_cases f0:f=0
    · obtain ⟨q1,q2⟩:=g2 f0
      obtain ⟨q3,q4⟩:=(h3 b q1.pos q2).1 q1
      exact absurd q3 e0
    · refine ⟨(h1 e0).trans (g1 f0).symm,?_⟩
      by_cases e4:e=4
      · obtain ⟨x,q1,q2,q3⟩:=h5 e4
        rw [e4]; exact ((g3 x q1 q2).2 q3).symm
      · by_cases f4:f=4
        · obtain ⟨x,q1,q2,q3⟩:=g5 f4
          exact absurd ((h3 x q1 q2).2 q3) e4
        · rw [h4 e0 e4,g4 f0 f4]
abbrev RQE (w:World) (s:ByteArray) (v:Value) (w':World):Prop:=Ext w w'/\∃ (a:Nd) (e:Int),v=.tuple #[nv a,.int .i64 e]/\zzQ s a e
theorem zGZ {w w':World} {s:ByteArray} (x:Ext w w') (hno:∀ x,zwI x->s=ofL (zbc x)->False):RQE w s (.tuple #[nv zbd,.int .i64 3]) w' :=
  ⟨x,zbd,3,rfl,fun _=>rfl,fun h=>(by cases h),fun x hx hs=>(hno x hx hs).elim,fun _ _=>rfl,fun h=>(by cases h)⟩
theorem zuF {w w10:World} {s:ByteArray} {p2:Option Addr} {b0:Nat} {cur:Nd} (x10:Ext w w10) (hb0:w.heap.size<=b0) (c10:zAv w10 p2 cur) (hp:p2≠none) (hr:zwI cur) (g:GB w)
    (hgood:∀ x,zwI x->s=ofL (zbc x)->cur=x):rtail s p2 b0 w10 (RQE w s):=by
  have k0:=c10 0 _ rfl
  have k1:=c10 1 _ rfl
  have k2:=c10 2 _ rfl
  have bx:∀ {w':World},zag [b0] [] w10 w'->Ext w w':=fun h=>zau h x10 (by intro d hd; simp at hd; omega)
  refine ⟨hp,_,k0,_,k1,_,k2,fun w14 h14=>(zwl cur hr.rng w14 (g.ext (x10.trans h14))).mono fun v w15 ⟨e15,hv⟩=>⟨e15,_,hv,fun hne w17 x17=>zGZ (bx x17) fun x hx hs=>?_,fun heq=>⟨hp,_,k0,_,k1,_,k2,fun w20 h20=>(zd6 cur w20).mono fun v w21 ⟨e21,hv⟩=>⟨e21,_,hv,fun hne w23 x23=>?_,fun hz=>⟨hp,_,k0,_,k1,_,k2,fun w26 x26=>⟨bx x26,cur,0,rfl,fun h=>absurd rfl h,fun _=>⟨za3.1 hz,heq.symm⟩,fun x hx hs=>?_,fun h=>absurd rfl h,fun h=>(by cases h)⟩⟩⟩⟩⟩⟩
  · exact hne (by rw [hgood x hx hs]; exact hs.symm)
  · have hno:¬ okN cur:=fun h=>hne (za3.2 h)
    rw [zlN hno]
    refine ⟨bx x23,zbd,4,rfl,fun _=>rfl,fun h=>(by cases h),fun x hx hs=>⟨fun h=>absurd (by rw [hgood x hx hs]; exact h) hno,fun _=>rfl⟩,fun _ h=>absurd rfl h,fun _=>⟨cur,hr,heq.symm,hno⟩⟩
  · have hcx:=hgood x hx hs
    exact ⟨fun _=>⟨rfl,hcx⟩,fun h=>absurd (by rw [<- hcx]; exact za3.1 hz) h⟩
theorem zFi (s:ByteArray) (hs:s.size<4294967281) (w:World) (g:GB w):FnP Tryz.prog ze0 #[.string s] w (RQE w s):=by
  refine zmZ s w _ fun b0 hb0 w1 x1=>zbt (by simp [Value.oneCell']) fun w2 o2 e2=>?_
  have h1:=zaa x1
  have l0:=x1.lt b0 (by simp)
  have o2:=o2 w.heap.size h1.size
  have np:(some (⟨w1.heap.size,0,none⟩:Addr))≠none:=by simp
  have h2:=h1.trans e2
  have rz:zwI zbd:=fun i hi=>by
    match i,hi with
    |0,_ => simp [zb3,zbd]
    |1,_ => simp [zb3,zbd]
    |2,_ => simp [zb3,zbd]
  have hpb:∀ y,(some (⟨w1.heap.size,0,none⟩:Addr))=some y->y.block≠b0:=fun y hy=>by obtain rfl:=Option.some.inj hy; show w1.heap.size≠b0; omega
  have hpl:∀ y,(some (⟨w1.heap.size,0,none⟩:Addr))=some y->y.block<w2.heap.size:=fun y hy=>(o2.lt y hy).2
  generalize hpp:(some (⟨w1.heap.size,0,none⟩:Addr))=p at o2 np hpb hpl ⊢
  refine ⟨fun hne w3 x3=>?_,fun heq=>?_⟩
  rotate_left
  · refine zuF (cur:=zbd) h2 hb0 o2.cells np rz g fun x hx hs=>?_
    have hl:zbc x=[45]:=zlZ (hs.symm.trans heq)
    by_cases hp:pcs x 3=[]
    · refine zny ?_
      have:idx x 3=[]:=by simpa [pcs] using hp
      intro i hi
      rw [this]
      exact ziW i hi
    · exfalso
      unfold zbc at hl
      rw [if_neg hp] at hl
      cases hc:pcs x 3 with
      |nil => exact hp hc
      |cons a l =>
        rw [hc,Lib.join_cons] at hl
        have ha:a∈pcs x 3:=by rw [hc]; exact List.mem_cons_self ..
        obtain ⟨i,_,rfl⟩:=List.mem_map.1 ha
        have:=congrArg List.length hl
        unfold zfg at this
        have h3:(pn i).data.toList.length=3:=zyq i
        rw [List.length_append,List.length_append,h3] at this
        simp at this
        omega
  have h3:=h2.trans (zaa x3)
  have g3:=g.ext h3
  refine (zew 44 s hs w3 g3).mono fun v w4 ⟨e4,hv,hc4,_⟩=>⟨e4,_,_,_,hv,?_⟩
  have spn:(some (⟨w3.heap.size,0,none⟩:Addr))≠none:=by simp
  have apsp:zbz (some (⟨w3.heap.size,0,none⟩:Addr)) p:=fun a b ha hb he=>by
    obtain rfl:=Option.some.inj ha
    have h5:=hpl b hb
    have h6:=(zaa x3).size
    have h7:w3.heap.size=b.block:=he
    omega
  generalize (some (⟨w3.heap.size,0,none⟩:Addr))=sp at hc4 spn apsp ⊢
  have slen:=zej (c:=44) _ s rfl
  have ssz:∀ i q,(Lib.splitB (one 44) 0 (Lib.countB s (one 44)) s)[i]?=some q->q.size+i<=s.size:=fun i q h=>zcc _ s i q h
  have sgood:∀ x,zwI x->s=ofL (zbc x)->Lib.countB s (one 44)+1=(idx x 3).length/\Lib.splitB (one 44) 0 (Lib.countB s (one 44)) s=(pcs x 3).map ofL:=fun x hx hsx=>by
    have:=zwW hx fun h=>hne (by rw [hsx,h]; rfl)
    rwa [<- hsx] at this
  generalize Lib.splitB (one 44) 0 (Lib.countB s (one 44)) s=S at hc4 slen ssz sgood
  generalize Lib.countB s (one 44)=n at slen sgood ⊢
  refine ⟨fun k w'=>Ext w w'/\0<=k/\k<=(n+1:Nat)/\zat w' sp (S.map Value.string)/\∃ cur,Own w.heap.size w' zhG 3 p 1 1 (zvn cur)/\zwI cur/\∀ x,zwI x->s=ofL (zbc x)->good x cur k.toNat,fun k _=>(n+1-k).toNat,
    ⟨h3.trans e4,by omega,by omega,hc4,zbd,(o2.ext (zaa x3)).ext e4,rz,fun x _ _=>ziW⟩,?_⟩
  rintro k w10 ⟨x10,hk0,hk1,c10,cur,o10,hr,hgd⟩
  refine ⟨fun hlt=>?_,fun hge=>?_⟩
  rotate_left
  · refine zuF (cur:=cur) x10 hb0 o10.cells np hr g fun x hx hsx=>zny ?_
    have:=hgd x hx hsx
    rwa [show k.toNat=(idx x 3).length by have:=(sgood x hx hsx).1; omega] at this
  obtain ⟨pc,hpc⟩:∃ pc,S[k.toNat]?=some pc:=⟨_,List.getElem?_eq_getElem (by omega)⟩
  have hcell:Go.Sx.cell w10 (pIdx sp k 1) 0=some (.string pc):=by
    rw [zad]
    exact c10 _ _ (by simp [hpc])
  have hpsz:=ssz _ _ hpc
  refine ⟨spn,hk0,hlt,_,hcell,fun w12 h12=>(zvr 61 pc (by omega) w12 ((g.ext x10).ext h12)).mono fun v w13 ⟨e13,hv⟩=>⟨e13,_,_,_,hv,fun w17 x17=>?_⟩⟩
  have hx17:=x10.trans (zaa x17)
  have hcsz:(Lib.cut pc.data.toList [61]).2.1.length<=pc.size:=by have:=zg2 pc.data.toList 61; rwa [zg0] at this
  have hthis:∀ x,zwI x->s=ofL (zbc x)->∃ i,(idx x 3)[k.toNat]?=some i/\i<3/\0<zb3 x i/\ofL (Lib.cut pc.data.toList [61]).1=pn i/\Lib.parseIntB 64 (ofL (Lib.cut pc.data.toList [61]).2.1).data.toList=.ok (zb3 x i):=fun x hx hsx=>by
    have hS:=(sgood x hx hsx).2
    rw [hS,List.getElem?_map] at hpc
    unfold pcs at hpc
    rw [List.getElem?_map,Option.map_map,Option.map_eq_some_iff] at hpc
    obtain ⟨i,hi,rfl⟩:=hpc
    have hm:=zox (List.mem_of_getElem? hi)
    have hb:=hx i hm.1
    have hcut:Lib.cut (ofL (zfg x i)).data.toList [61]=((pn i).data.toList,Lib.itoa (zb3 x i),true):=zvN _ (zFw hm.1).1
    have hcut':Lib.cut ((ofL∘zfg x) i).data.toList [61]=((pn i).data.toList,Lib.itoa (zb3 x i),true):=hcut
    rw [hcut']
    exact ⟨i,hi,hm.1,by omega,zbM _,zff hb.1 hb.2⟩
  generalize (ofL (Lib.cut pc.data.toList [61]).1)=name at hthis ⊢
  have hnsz:(ofL (Lib.cut pc.data.toList [61]).2.1).size<=281474976710656:=by rw [zas]; omega
  generalize (ofL (Lib.cut pc.data.toList [61]).2.1)=num at hthis hnsz ⊢
  refine (ziS num hnsz w17 (g.ext hx17)).mono fun v w18 ⟨e18,vn,ev,hv,hcase⟩=>⟨e18,vn,ev,hv,fun w21 h21=>?_⟩
  have hx18:=hx17.trans e18
  refine zit (by kernel_rfl) (hcase.elim (fun h=>.inl h.1) fun h=>.inr h.1) fun t ht=>⟨Ext.refl _,t,rfl,fun hbad w24 x24=>zGZ (zau x24 hx18 (by intro d hd; simp at hd; omega)) fun x hx hsx=>?_,fun hok w24 x24=>?_⟩
  · exfalso
    obtain ⟨i,_,_,hpos,_,hpar⟩:=hthis x hx hsx
    rcases hcase with ⟨h1,h2⟩|⟨_,h2⟩
    · rw [hpar] at h2
      injection h2 with h2
      rcases hbad with h|h
      · rw [ht.2 h1] at h; cases h
      · omega
    · exact h2 _ hpar
  have hx24:=hx18.trans (zaa x24)
  obtain ⟨hev,hpar⟩:ev=.nilIface/\Lib.parseIntB 64 num.data.toList=.ok vn:=by
    rcases hcase with h|⟨⟨a,b,h⟩,_⟩
    · exact h
    · have:=ht.1 hok.1
      rw [h] at this; cases this
  have o24:Own w.heap.size w24 zhG 3 p 1 1 (zvn cur):=(((o10.ext (zaa x17)).ext e18).ext (zaa x24))
  have c24:zat w24 sp (S.map Value.string):=(((c10.ext (zaa x17)).ext e18).ext (zaa x24))
  refine (zsj p np w24).mono fun v w25 ⟨e25,q,hv,hq,hqb⟩=>⟨e25,q,3,3,hv,?_⟩
  have apq:zbz q p:=fun a b ha hb he=>by
    have h5:=hqb a ha
    have h6:=(o24.lt b hb).2
    omega
  refine ⟨fun k30 w'=>Ext w w'/\0<=k30/\k30<=3/\zat w' sp (S.map Value.string)/\zat w' q (zuy p)/\Own w.heap.size w' zhG 3 p 1 1 (zvn (upN cur name vn k30.toNat)),fun k30 _=>(3-k30).toNat,
    ⟨hx24.trans e25,by omega,by omega,c24.ext e25,hq,by rw [show (0:Int).toNat=0 from rfl,zyR]; exact o24.ext e25⟩,?_⟩
  rintro k30 w31 ⟨x31,hj0,hj3,c31,q31,o31⟩
  refine ⟨fun hjlt=>?_,fun hjge=>?_⟩
  · obtain ⟨d1,d2⟩:=zsi q31 hj0 hjlt
    have hj:k30.toNat<3:=by omega
    refine ⟨fun hq=>zak d1 (zah.2 hq),hj0,hjlt,zak d1,_,d1,_,d2,fun b34 hb34=>⟨fun heq=>⟨fun h=>np (zcV.1 h),?_⟩,fun hne=>⟨i64 (by omega),⟨x31,by omega,by omega,c31,q31,?_⟩,by simp only []; omega⟩⟩⟩
    · refine zb7 o31 (by simpa using hj) rfl (fun b hb y hy=>?_) fun w35 o35 g35=>⟨i64 (by omega),⟨g35.ext x31 o31,by omega,by omega,c31.grew apsp g35,q31.grew apq g35,?_⟩,by simp only []; omega⟩
      · simp only [List.mem_cons,List.mem_singleton,List.mem_nil_iff,or_false] at hb
        rcases hb with rfl|rfl
        · exact hpb y hy
        · have:=(o31.lt y hy).2; omega
      · rw [show (k30+1).toNat=k30.toNat+1 by omega,<- zDi hj heq]
        exact o35
    · rw [show (k30+1).toNat=k30.toNat+1 by omega,zyQ hj hne]
      exact o31
  · obtain rfl:k30=3:=by omega
    refine ⟨i64 (by omega),⟨x31,by omega,by omega,c31,upN cur name vn 3,o31,fun i hi=>?_,fun x hx hsx=>?_⟩,by simp only []; omega⟩
    · rw [zDh hi]
      split
      · have:=zuv hpar hok.2
        omega
      · exact hr i hi
    · obtain ⟨i,hi,hi3,_,hname,hp2⟩:=hthis x hx hsx
      rw [hpar] at hp2
      injection hp2 with hp2
      rw [hp2,hname,show (k+1).toNat=k.toNat+1 by omega]
      exact zty (hgd x hx hsx) hi
theorem zBe (s:List UInt8) (c:UInt8):(Lib.cut s [c]).1.length<=s.length:=by
  unfold Lib.cut
  split
  · simp only [List.length_take]; omega
  · exact Nat.le_refl _
def zDF (x:ByteArray):List UInt8×List UInt8×Bool:=Lib.cut x.data.toList [61]
def zJS (x:ByteArray):Lb:=⟨ofL (zDF x).1,ofL (zDF x).2.1⟩
def zan (c:UInt8) (s:ByteArray):List ByteArray:=Lib.splitB (one c) 0 (Lib.countB s (one c)) s
theorem zi1 (c:UInt8) (s:ByteArray):(zan c s).length=Lib.countB s (one c)+1:=zej _ s rfl
theorem zhi {c:UInt8} {s:ByteArray} {i:Nat} {q:ByteArray} (h:(zan c s)[i]?=some q):q.size+i<=s.size:=zcc _ s i q h
def zDJ (s:ByteArray):Option (List Lb):=if s=⟨#[45]⟩ then some [] else if (zan 44 s).all (fun x=>(zDF x).2.2) then some ((zan 44 s).map zJS) else none
theorem zFe (s:ByteArray) (hs:s.size<4294967281) (w:World) (g:GB w):FnP Tryz.prog zgL #[.string s] w fun v w'=>Ext w w'/\∃ (p:Option Addr) (n c:Nat) (ev:Value),v=.tuple #[.slice p n c,ev] /\
    ((zDJ s=none/\EV ev 3)\/(∃ l,zDJ s=some l/\EV ev 0/\n=l.length/\Own w.heap.size w' zlB 2 p n c (l.flatMap zrv)/\l.length<=4294967281/\∀ x∈l,x.key.size<=4294967281/\x.val.size<=4294967281)):=by
  refine zpU s w _ ⟨fun h w0 h0=>⟨h0,none,0,0,_,rfl,.inr ⟨[],by unfold zDJ; rw [if_pos h],ev0,rfl,Own.nil,by simp,by simp⟩⟩,fun hne w0 h0=>?_⟩
  refine (zew 44 s hs w0 (g.ext h0)).mono fun v w1 ⟨e1,hv,hc1,hlt1⟩=>⟨e1,_,_,_,hv,?_⟩
  have hlen:=zi1 44 s
  have hsz:=fun i q=>@zhi 44 s i q
  have hF:zDJ s=if (zan 44 s).all (fun x=>(zDF x).2.2) then some ((zan 44 s).map zJS) else none:=by unfold zDJ; rw [if_neg hne]
  rw [hF]
  change zat w1 _ ((zan 44 s).map Value.string) at hc1
  have hcnt:Lib.countB s (one 44)+1=(zan 44 s).length:=hlen.symm
  rw [hcnt]
  have spn:(some (⟨w0.heap.size,0,none⟩:Addr))≠none:=by simp
  generalize (some (⟨w0.heap.size,0,none⟩:Addr))=sp at hc1 spn ⊢
  have hlen2:(zan 44 s).length<=4294967281:=by
    obtain ⟨q,hq⟩:∃ q,(zan 44 s)[(zan 44 s).length-1]?=some q:=⟨_,List.getElem?_eq_getElem (by omega)⟩
    have:=hsz _ _ hq
    omega
  generalize zan 44 s=S at hc1 hsz hlen2 ⊢
  have x1:=h0.trans e1
  have cb:∀ x:ByteArray,(ofL (zDF x).1).size<=x.size/\(ofL (zDF x).2.1).size<=x.size:=fun x=>by
    have h1:=zg2 x.data.toList 61
    have h2:=zBe x.data.toList 61
    rw [zg0] at h1 h2
    exact ⟨by rw [zas]; exact h2,by rw [zas]; exact h1⟩
  refine ⟨fun p n c k w'=>Ext w1 w'/\0<=k/\k<=S.length/\n=k/\Own w1.heap.size w' zlB 2 p n c (((S.take k.toNat).map zJS).flatMap zrv)/\∀ x∈S.take k.toNat,(zDF x).2.2=true,fun _ _ _ k _=>(S.length-k).toNat,⟨Ext.refl _,by omega,by omega,by simp,Own.nil,by simp⟩,?_⟩
  rintro p n c k w8 ⟨x8,hk0,hk1,hnk,o8,hall⟩
  refine ⟨fun hlt=>?_,fun hge w9 h9=>?_⟩
  · obtain ⟨q,hq⟩:∃ q,S[k.toNat]?=some q:=⟨_,List.getElem?_eq_getElem (by omega)⟩
    have hqs:=hsz _ _ hq
    have hcell:Go.Sx.cell w8 (pIdx sp k 1) 0=some (.string q):=by
      rw [zad]
      refine (hc1.ext x8) _ _ ?_
      simp [hq]
    refine ⟨spn,hk0,hlt,_,hcell,fun w10 h10=>(zvr 61 q (by omega) w10 ((g.ext (x1.trans x8)).ext h10)).mono fun v w11 ⟨e11,hv⟩=>⟨e11,_,_,_,hv,fun hf w15 h15=>?_,fun ht=>?_⟩⟩
    · refine ztX ⟨Ext.refl _,_,rfl,rfl,fun w18 h18=>zzE ⟨Ext.refl _,_,rfl,fun w21 h21=>⟨(((x1.trans x8).trans h15).trans h18).trans h21,none,0,0,_,rfl,.inl ⟨?_,zzm (by decide)⟩⟩⟩⟩
      rw [if_neg]
      intro h
      have:=List.all_eq_true.1 h q (List.mem_of_getElem? hq)
      unfold zDF at this
      rw [hf] at this; cases this
    · refine push (v:=.agg #[.string (zJS q).key,.string (zJS q).val]) zku (by omega) o8 x8.size rfl (by intro u hu; simp [Value.cells] at hu; rcases hu with rfl|rfl<;>rfl) (by omega) (by omega) (by omega) fun p' c' w' o' g' np=>⟨i64 (by omega),⟨g'.ext x8 o8,by omega,by omega,by omega,?_,?_⟩,by simp only []; omega⟩
      · rw [show (k+1).toNat=k.toNat+1 by omega,List.take_add_one,hq]
        simpa [Value.cells] using o'
      · rw [show (k+1).toNat=k.toNat+1 by omega,List.take_add_one,hq]
        intro x hx
        rcases List.mem_append.1 hx with hx|hx
        · exact hall x hx
        · simp at hx; subst hx; exact ht
  · have hk:k=S.length:=by omega
    subst hk
    have htake:S.take ((S.length:Int)).toNat=S:=by simp
    rw [htake] at o8 hall
    have hx9:=(x1.trans x8).trans h9
    refine ⟨hx9,p,n,c,_,rfl,.inr ⟨S.map zJS,?_,ev0,by simp; omega,(o8.ext h9).weak (by have:=x1.size; omega),by simpa using hlen2,fun x hx=>?_⟩⟩
    · rw [if_pos (List.all_eq_true.2 fun x hx=>hall x hx)]
    · obtain ⟨y,hy,rfl⟩:=List.mem_map.1 hx
      obtain ⟨i,hi⟩:=List.mem_iff_getElem?.1 hy
      have:=hsz i y hi
      have:=cb y
      show (ofL (zDF y).1).size<=_/\(ofL (zDF y).2.1).size<=_
      omega
theorem zxw {B:Nat} {w:World} {p q:Option Addr} {n c d b7:Nat} {xs:List Value} {m:Hm} (o:Own B w ze3 8 p n c xs) (hB:B<=w.heap.size) (hl:zat w q (ziV m)) (hq:q≠none) (hb7:b7<w.heap.size) (hns:∀ x,p=some x->x.block≠b7) (hn:n<=1000)
    {J:Option Addr->Nat->Nat->World->Prop} (hk:∀ p' c' w',Own B w' ze3 8 p' (n+1) c' (xs++ziV m)->zb5 w w' p p'->J p' (n+1) c' w') :
    Run Tryz.prog (.append #[34,34] 34 [.slice p n c,.slice q 1 d]) w fun v w'=>zcf [b7] w w'/\∃ q':Option Addr,∃ m':Nat,∃ d':Nat,v=.slice q' m' d'/\J q' m' d' w' :=
  zmk zfF (by omega) o hB hq (news:=ziV m) (by simp) hl (zxO m) (by omega) (by omega) fun p' c' w4 h2 h3 h4=>⟨fun b hb=>by
    simp at hb; subst hb
    refine h3.by_.block b hb7 fun he=>?_
    cases p with
    |none => cases he
    |some y => simp [blk] at he; exact hns y rfl he.symm,_,_,_,rfl,hk p' c' w4 h2 h3⟩
def znE (name:ByteArray) (l:List Lb) (nd:Nd):Ht:=⟨name,l,nd,zbd⟩
def zv9 (name w2 w3:ByteArray) (σ:DS) (c:Int) (s:ByteArray) (σ':DS):Prop:=∃ nd e,zzQ w2 nd e/\((e≠0/\c=e/\σ'=σ)\/(e=0/\match zDJ w3 with
  |none => c=3/\σ'=σ
  |some l => match σ with
    |.opn _ => c=9/\σ'=σ
    |.shut L => c=zky (L++[znE name l nd])/\((c≠0/\σ'=σ)\/(c=0/\s=⟨#[111,107]⟩/\σ'=.shut (L++[znE name l nd])))))
section
variable {O:Nat->Prop} {B db:Nat} {w:World} {K:Kt}
theorem host_c (x:KX O B w db K) (g:GD w) (hBw:B<=w.heap.size) (wp:Option Addr) (wc:Nat) (ws:List ByteArray) (h4:ws.length=4)
    (hsz:∀ x∈ws,x.size<4294967281) (hw:zat w wp (ws.map Value.string)) :
    FnP Tryz.prog zep #[.pointer (ptr db),.slice wp ws.length wc] w (CR O B db w K fun s c σ'=>zv9 (ws.getD 1 ⟨#[]⟩) (ws.getD 2 ⟨#[]⟩) (ws.getD 3 ⟨#[]⟩) K.st c s σ'):=by
  have ne:=zaF db
  obtain ⟨s0,s1,s2,s3,rfl⟩:∃ a b c d,ws=[a,b,c,d]:=by
    match ws,h4 with
    |[a,b,c,d],_ => exact ⟨a,b,c,d,rfl⟩
  have cell_:∀ {w':World} (i:Nat) (q:ByteArray),Ext w w'->([s0,s1,s2,s3]:List ByteArray)[i]?=some q->Go.Sx.cell w' (pIdx wp (i:Int) 1) 0=some (.string q):=fun {w'} i q hx hq=>by
    rw [zad]
    have:=hw.ext hx i (.string q) (by rw [List.getElem?_map,hq]; rfl)
    simpa using this
  have np:wp≠none:=fun h=>zak (cell_ 1 s1 (Ext.refl w) rfl) (zah.2 h)
  have z1:=hsz s1 (by simp)
  have z2:=hsz s2 (by simp)
  have z3:=hsz s3 (by simp)
  show FnP Tryz.prog zep #[.pointer (ptr db),.slice wp 4 wc] w (CR O B db w K fun s c σ'=>zv9 s1 s2 s3 K.st c s σ')
  refine zl3 (ptr db) wp 4 wc w _ ⟨np,by omega,by omega,_,cell_ 2 s2 (Ext.refl w) rfl,fun w1 x1=>(zFi s2 z2 w1 (g.gb.ext x1)).mono fun v w2 ⟨e2,nd,e,hv,hrd⟩=>⟨e2,nd.c,nd.m,nd.g,e,hv,fun b7 hb7=>⟨fun hne w8 x8=>ztX ⟨Ext.refl _,_,rfl,rfl,fun w11 x11=>zzE ⟨Ext.refl _,_,rfl,fun w14 h14=>?_⟩⟩,fun hz=>⟨np,by omega,by omega,_,cell_ 3 s3 (Ext.refl w) rfl,fun w9 x9=>?_⟩⟩⟩⟩
  · exact zcg x (((zaa x8).trans (zaa x11)).trans h14) (zzm hne) ⟨nd,e,hrd,.inl ⟨hne,rfl,rfl⟩⟩
  have h9:=zaa x9
  have hb9:=x9.lt b7 (by simp)
  refine (zFe s3 z3 w9 (g.gb.ext h9)).mono fun v w10 ⟨e10,lp,ln,lc,ev,hv,hor⟩=>⟨e10,lp,ln,lc,ev,hv,fun w15 h15=>?_⟩
  have h10:=h9.trans e10
  rcases hor with ⟨hno,hE⟩|⟨l,hl,hE,rfl,oL,hll,hls⟩
  · refine neE hE fun b hb=>⟨Ext.refl _,b,rfl,fun hbt w18 h18=>?_,fun hbf=>absurd (hb.1 hbf) (by decide)⟩
    exact zcg x (h10.trans h18) hE ⟨nd,e,hrd,.inr ⟨hz,by rw [hno]; exact ⟨rfl,rfl⟩⟩⟩
  refine neE hE fun b hb=>⟨Ext.refl _,b,rfl,fun hbt=>absurd (hb.2 rfl) (by rw [hbt]; decide),fun _=>⟨ne,ne,?_⟩⟩
  have y10:=x.ext h10
  rcases K.cases with hK|⟨fb,P,F,hK⟩
  rotate_left
  · refine ⟨_,y10.fbp hK,fun _ w19 x19=>ztX ⟨Ext.refl _,_,rfl,fun w22 h22=>?_⟩,fun h=>absurd h (zaF fb)⟩
    refine zcg x ((h10.trans (zaa x19)).trans h22) (zEO (c:=9) (by decide)) ⟨nd,e,hrd,.inr ⟨hz,?_⟩⟩
    rw [hl,Kt.st_opn hK]
    exact ⟨rfl,rfl⟩
  obtain ⟨hn,⟨M,hM,hst⟩,hok,hO⟩:=x.shut hK
  have h30:=hok.1
  have hMl:M.length=K.L.length:=by rw [<- hM]; simp
  refine ⟨none,y10.nofp hK,fun h=>absurd rfl h,fun _=>?_⟩
  have hm:ziV ⟨znE s1 l nd,lp,lc⟩=[.string s1,.slice lp l.length lc,.int .i64 nd.c,.int .i64 nd.m,.int .i64 nd.g,.int .i64 0,.int .i64 0,.int .i64 0]:=rfl
  generalize hmm:(⟨znE s1 l nd,lp,lc⟩:Hm)=m at hm
  have hmv:(Value.agg #[.string s1,.slice lp l.length lc,.int .i64 nd.c,.int .i64 nd.m,.int .i64 nd.g,.int .i64 0,.int .i64 0,.int .i64 0]).cells.toList=ziV m:=by rw [hm]; rfl
  have lit:∀ {w26:World} {R:Value->World->Prop},(∀ q w27,q≠none->zat w27 q (ziV m)->Ext w26 w27->R (.slice q 1 1) w27)->Run Tryz.prog (.buildSlice 34 1 [(0,(.agg #[.string s1,.slice lp l.length lc,.int .i64 nd.c,.int .i64 nd.m,.int .i64 nd.g,.int .i64 0,.int .i64 0,.int .i64 0]))]) w26 R:=fun {w26 R} h =>
    zci zfF [.agg #[.string s1,.slice lp l.length lc,.int .i64 nd.c,.int .i64 nd.m,.int .i64 nd.g,.int .i64 0,.int .i64 0,.int .i64 0]] rfl rfl (fun u hu=>by simp at hu; subst hu; rfl) (by omega) (by omega) fun w27 o27 e27=>h _ w27 (by simp) (by
      have:=(o27 w26.heap.size (Nat.le_refl _)).cells
      simp only [List.flatMap_cons,List.flatMap_nil,List.append_nil,hmv] at this
      exact this) e27
  have rec_:∀ {w':World},Ext w w'->zgm 8 ziV w' K.hp M:=fun e=>(hst _ (zac e)).1
  have clone:∀ {w26:World},Ext w w26->FnP Tryz.prog zai #[.slice K.hp K.hn K.hc] w26 fun v w'=>Ext w26 w'/\∃ q' c',v=.slice q' M.length c'/\Own w26.heap.size w' ze3 8 q' M.length c' (M.flatMap ziV):=fun e=>by
    rw [hn,<- hMl]
    exact zrd K.hp K.hc M (by omega) _ (rec_ e)
  have c10:Go.Sx.cell w10 (pAdd (ptr db) 0) 0=some (.slice K.hp K.hn K.hc):=y10.cell (i:=0) rfl
  refine ⟨fun all n c w21=>Ext w10 w21/\n=M.length+1/\Own w10.heap.size w21 ze3 8 all n c (M.flatMap ziV++ziV m),⟨ne,ne,_,_,_,c10,np,by omega,by omega,_,cell_ 1 s1 h10 rfl,fun w26 x26=>?_,fun w26 x26=>?_⟩,?_⟩
  · have h26:=zaa x26
    have hb26:=x26.lt b7 (by simp)
    refine (clone (h10.trans h26)).mono fun v w27 ⟨e27,q',c',hv,o27⟩=>⟨e27,q',M.length,c',hv,fun w31 x31=>lit fun q w32 hq hcq e32=>⟨e32,q,1,1,rfl,fun w36 x36=>?_⟩⟩
    have h36:=(((h26.trans e27).trans (zaa x31)).trans e32).trans (zaa x36)
    have o36:=(((o27.ext (zaa x31)).ext e32).ext (zaa x36)).weak h26.size
    refine zxw o36 h36.size (hcq.ext (zaa x36)) hq (x36.lt b7 (by simp)) (fun a ha he=>?_) (by omega) fun p' c'' w' o' g'=>⟨g'.ext h36 o36,rfl,o'⟩
    have:=(o27.lt a ha).1
    omega
  · have h26:=zaa x26
    have hb26:=x26.lt b7 (by simp)
    refine lit fun q w27 hq hcq e27=>⟨e27,q,1,1,rfl,fun w31 x31=>?_⟩
    have h31:=(h26.trans e27).trans (zaa x31)
    refine (clone (h10.trans h31)).mono fun v w32 ⟨e32,q',c',hv,o32⟩=>⟨e32,q',M.length,c',hv,fun w36 x36=>?_⟩
    have h36:=(h31.trans e32).trans (zaa x36)
    have o36:=(o32.ext (zaa x36)).weak h31.size
    refine zxw o36 h36.size (((hcq.ext (zaa x31)).ext e32).ext (zaa x36)) hq (x36.lt b7 (by simp)) (fun a ha he=>?_) (by omega) fun p' c'' w' o' g'=>⟨g'.ext h36 o36,rfl,o'⟩
    have:=(o32.lt a ha).1
    have:=x31.lt b7 (by simp)
    omega
  rintro all n c w21 ⟨x21,rfl,oA⟩ w22 h22
  have h21:=h10.trans x21
  have hflat:M.flatMap ziV++ziV m=(M++[m]).flatMap ziV:=by simp
  rw [hflat] at oA
  have hL':(M++[m]).map (·.h)=K.L++[znE s1 l nd]:=by rw [List.map_append,hM,<- hmm]; rfl
  have hAl:∀ a,all=some a->w10.heap.size<=a.block:=fun a ha=>(oA.lt a ha).1
  have hdb:db<w.heap.size:=(x.slot.lt _ rfl).2
  have keep:∀ {w1 w2:World} {S:Nat->Prop},Ext w21 w1->Fr S w1 w2->(∀ b,S b->dO O db b)->zgm 8 ziV w2 all (M++[m])/\∀ m'∈M++[m],Lbs w2 m'.q m'.h.labels:=fun {w1 w2 S} e1 f hS=>by
    have hSlt:∀ b,S b->b<w.heap.size:=fun b hb=>by
      rcases hS b hb with h|h
      · exact x.olt b h
      · rw [h]; exact hdb
    refine ⟨((oA.ext e1).fr f fun a ha hs=>?_).recs fun _ _=>rfl,fun m' hm'=>?_⟩
    · have:=hAl a ha; have:=hSlt _ hs; have:=h10.size; omega
    · rcases List.mem_append.1 hm' with hm'|hm'
      · exact (hst w2 ((zac (h21.trans e1)).tr (f.mono hS))).2 m' hm'
      · simp at hm'; subst hm'
        rw [<- hmm]
        refine (((oL.ext x21).ext e1).fr f fun a ha hs=>?_).recs fun _ _=>rfl
        have:=(oL.lt a ha).1; have:=hSlt _ hs; have:=h9.size; omega
  have hsH:zi8 w22 all (K.L++[znE s1 l nd]):=by
    rw [<- hL']
    obtain ⟨q1,q2⟩:=keep h22 (Fr.refl (fun _=>False) w22) (fun _ h=>h.elim)
    exact hs_of q1 q2
  have hlen':M.length+1=(K.L++[znE s1 l nd]).length:=by simp [hMl]
  have hOk':∀ h∈K.L++[znE s1 l nd],zvh h/\h.used=zbd:=fun h hh=>by
    rcases List.mem_append.1 hh with hh|hh
    · exact hO h hh
    · simp at hh; subst hh
      refine ⟨⟨by show s1.size<=_; omega,by show l.length<=_; omega,fun y hy=>?_⟩,rfl⟩
      have:=hls y hy
      omega
  rw [hlen']
  refine (ztz all c (K.L++[znE s1 l nd]) (by rw [<- hlen']; omega) (fun h hh=>(hOk' h hh).1) w22 hsH).mono fun v w23 ⟨e23,hv⟩=>⟨e23,_,hv,fun hne w25 x25=>ztX ⟨Ext.refl _,_,rfl,fun w28 h28=>?_⟩,fun hz2=>⟨ne,ne,?_⟩⟩
  · refine zcg x ((h21.trans (zaa x25)).trans h28) (zEO hne) ⟨nd,e,hrd,.inr ⟨hz,?_⟩⟩
    rw [hl,Kt.st_shut hK]
    exact ⟨rfl,.inl ⟨hne,rfl⟩⟩
  have y21:=x.ext h21
  refine zb7 (off:=0) y21.slot (by simp) rfl (fun b hb y hy=>by simp at hb; subst hb; cases hy; show db≠b; omega) fun w25 o25 g25 w26 h26=>?_
  have f25:Fr (fun b=>b=db) w21 w25:=zaO g25 fun a ha=>by cases ha; rfl
  refine ⟨_,_,0,⟨all,(K.L++[znE s1 l nd]).length,c,K.L++[znE s1 l nd],none⟩,rfl,ev0,⟨?_,fun _=>⟨rfl,⟨M++[m],hL',fun w'' k=>?_⟩,zxT.1 hz2,hOk'⟩,fun fb P F e=>(by cases e),fun b hb=>?_,x.odis⟩,?_,fun b hb=>?_,⟨nd,e,hrd,.inr ⟨hz,?_⟩⟩⟩
  · have:dcs ⟨all,(K.L++[znE s1 l nd]).length,c,K.L++[znE s1 l nd],none⟩=(dcs K).set 0 (.slice all (K.L++[znE s1 l nd]).length c):=by simp [dcs,Kt.fp,hK]
    rw [this]; exact o25.ext h26
  · exact keep (Ext.refl _) ((f25.mono fun b hb=>.inr hb).tr ((zac h26).tr k)) (fun b hb=>hb)
  · have:=x.olt b hb; have:=h21.size; have:=f25.size; have:=h26.size; omega
  · exact ((zac h21).tr (f25.mono fun b hb=>.inl hb)).tr (zac h26)
  · rcases hb with rfl|⟨fb',P1,F1,e,h⟩
    · exact .inl (.inl rfl)
    · cases e
  · rw [hl,Kt.st_shut hK]
    exact ⟨hz2.symm,.inr ⟨rfl,rfl,rfl⟩⟩
end
def sig:Nat->Nat×Bool
  |3 => (4,false)
  |7 => (1,false)
  |11 => (7,false)
  |15 => (6,true)
  |22 => (2,false)
  |26 => (1,true)
  |33 => (2,false)
  |40 => (2,false)
  |47 => (2,false)
  |51 => (2,false)
  |_ => (2,true)
theorem pv_cmd {db pb:Addr} {v:Value} {w:World}:∀ x∈KL,PV db pb x.2.2 v w->∃ f bd cap,v=.agg #[.int .i64 (sig x.2.2).1,.bool (sig x.2.2).2,.func f bd cap]:=by
  intro x hx
  simp only [KL,List.mem_cons,List.not_mem_nil,or_false] at hx
  rcases hx with rfl|rfl|rfl|rfl|rfl|rfl|rfl|rfl|rfl|rfl|rfl <;>
    (rintro ⟨f,bd,cap,e,_⟩; exact ⟨f,bd,cap,e⟩)
def zfp (k:ByteArray):Option Nat:=(KL.find? (fun x=>decide (x.1=k))).map (·.2.2)
def zs0 (db:Nat) (w:World) (k:ByteArray) (t0:Int) (t1:Bool) (t2:Value) (ok:Bool):Prop :=
  (ok=false/\zfp k=none)\/(ok=true/\∃ (pb:Addr) (b:Nat),zfp k=some b/\w.cell? pb=some (.pointer (ptr db))/\PV ⟨db,0,none⟩ pb b (.agg #[.int .i64 t0,.bool t1,t2]) w/\t0=(sig b).1/\t1=(sig b).2/\t2.oneCell'=true)
theorem zs0.ext {db:Nat} {w w':World} {k:ByteArray} {t0:Int} {t1:Bool} {t2:Value} {ok:Bool} (h:zs0 db w k t0 t1 t2 ok) (e:Ext w w'):zs0 db w' k t0 t1 t2 ok:=by
  rcases h with h|⟨h1,pb,b,h2,h3,h4,h5⟩
  · exact .inl h
  · exact .inr ⟨h1,pb,b,h2,(Cst.of_ext e).cell h3,zjk _ _ _ _ _ _ (Cst.of_ext e) h4,h5⟩
def zAH (db:Nat) (w:World) (v:Value):Prop:=∃ pb mb M,v=.map (some mb)/\w.cell? pb=some (.pointer (ptr db))/\zcO Value.string w mb M/\∀ k,Tab ⟨db,0,none⟩ pb w k (zhT M k)
theorem zAH.ext {db:Nat} {w w':World} {v:Value} (h:zAH db w v) (e:Ext w w'):zAH db w' v:=by
  obtain ⟨pb,mb,M,h1,h2,h3,h4⟩:=h
  refine ⟨pb,mb,M,h1,(Cst.of_ext e).cell h2,h3.ext e,fun k=>?_⟩
  have:=h4 k
  unfold Tab at this ⊢
  split at this
  · obtain ⟨v,q1,q2⟩:=this
    exact ⟨v,q1,zjk _ _ _ _ _ _ (Cst.of_ext e) q2⟩
  · exact this
theorem zJB:(Tryz.prog.info? 252).map (·.zero)=some (some (.agg #[.int .i64 0,.bool false,.nilFunc])):=by kernel_rfl
theorem zoE {db:Nat} {w:World} {v:Value} (h:zAH db w v) (k:ByteArray) {K:Value->World->Prop}
    (hk:∀ t0 t1 t2 ok,zs0 db w k t0 t1 t2 ok->t2.oneCell'=true->K (.tuple #[.agg #[.int .i64 t0,.bool t1,t2],.bool ok]) w):Run Tryz.prog (.lookup 254 v (.string k) true) w K:=by
  obtain ⟨pb,mb,M,rfl,h2,h3,h4⟩:=h
  obtain ⟨i,hi,hz⟩:∃ i,Tryz.prog.info? 252=some i/\i.zero=some (.agg #[.int .i64 0,.bool false,.nilFunc]):=by
    obtain ⟨i,h1,h2⟩:=Option.map_eq_some_iff.1 zJB
    exact ⟨i,h1,h2⟩
  refine zmm (enc:=Value.string) kstr zG6 hi hz h3 ?_
  have ht:=h4 k
  unfold Tab at ht
  split at ht
  · rename_i y j b he
    obtain ⟨u,hu,hpv⟩:=ht
    rw [hu]
    obtain ⟨f,bd,cap,rfl⟩:=pv_cmd _ (List.mem_of_find?_eq_some he) hpv
    exact hk _ _ _ true (.inr ⟨rfl,pb,b,by unfold zfp; rw [he]; rfl,h2,hpv,rfl,rfl,rfl⟩) rfl
  · rename_i he
    rw [ht]
    exact hk 0 false .nilFunc false (.inl ⟨rfl,by unfold zfp; rw [he]; rfl⟩) rfl
def DS.isShut:DS->Bool
  |.shut _ => true
  |.opn _ => false
def doW (R:Nat->List ByteArray->DS->Int->ByteArray->DS->Prop) (ws:List ByteArray) (σ:DS) (c:Int) (s:ByteArray) (σ':DS):Prop :=
  match zfp (ws.getD 0 ⟨#[]⟩) with
  |none => c=1/\σ'=σ
  |some b => if ws.length≠(sig b).1 then c=3/\σ'=σ else if (sig b).2=true/\σ.isShut=true then c=9/\σ'=σ else R b ws σ c s σ'
section
variable {O:Nat->Prop} {B db:Nat} {w:World} {K:Kt}
theorem do_k (R:Nat->List ByteArray->DS->Int->ByteArray->DS->Prop) (x:KX O B w db K) (g:GD w) (line:ByteArray) (hs:line.size<4294967281)
    (hcall:∀ (w1:World) (pb wp:Addr) (b:Nat) (wc:Nat) (t2:Value),Ext w w1->zfp ((zan 32 line).getD 0 ⟨#[]⟩)=some b->w1.cell? pb=some (.pointer (ptr db))->PV ⟨db,0,none⟩ pb b (.agg #[.int .i64 (sig b).1,.bool (sig b).2,t2]) w1 ->
      (zan 32 line).length=(sig b).1->(zan 32 line).length<=wc->((sig b).2=true->K.st.isShut=false)->zat w1 (some wp) ((zan 32 line).map Value.string)->(∀ x∈zan 32 line,x.size<4294967281) ->
      zHd Tryz.prog t2 [.slice (some wp) (zan 32 line).length wc] w1 (CR O B db w1 K fun s c σ'=>R b (zan 32 line) K.st c s σ')) :
    FnP Tryz.prog zfR #[.pointer (ptr db),.string line] w (CR O B db w K fun s c σ'=>doW R (zan 32 line) K.st c s σ'):=by
  have ne:=zaF db
  refine zoS (ptr db) line w _ fun w0 x0=>(zew 32 line hs w0 (g.gb.ext x0)).mono fun v w1 ⟨e1,hv,hc1,hlt1⟩=>⟨e1,_,_,_,hv,?_⟩
  have hlen:Lib.countB line (one 32)+1=(zan 32 line).length:=(zi1 32 line).symm
  have hszs:∀ y∈zan 32 line,y.size<4294967281:=fun y hy=>by
    obtain ⟨i,hi⟩:=List.mem_iff_getElem?.1 hy
    have:=zhi hi
    omega
  change zat w1 _ ((zan 32 line).map Value.string) at hc1
  have h0:0<(zan 32 line).length:=by omega
  rw [hlen]
  generalize zan 32 line=ws at hc1 hszs hcall h0 ⊢
  have x1:=x0.trans e1
  generalize hsp:(⟨w0.heap.size,0,none⟩:Addr)=sp at hc1
  have cw:∀ {w':World},Ext w1 w'->Go.Sx.cell w' (pIdx (some sp) 0 1) 0=some (.string (ws.getD 0 ⟨#[]⟩)):=fun e=>by
    rw [zad]
    refine (hc1.ext e) 0 _ ?_
    rw [List.getElem?_map,getElem?_getD ws ⟨#[]⟩ h0]; rfl
  have tab:∀ {w9:World},FnP Tryz.prog zaY #[.pointer (ptr db)] w9 fun v w'=>Ext w9 w'/\zAH db w' v:=fun {w9}=>(zzc ⟨db,0,none⟩ w9).mono fun v w' ⟨h1,pb,mb,M,h2,h3,h4,h5⟩=>⟨h1,pb,mb,M,h2,h3,h4,h5⟩
  have zzK:∀ v∈[Value.int .i64 0,.bool false,.nilFunc],v.oneCell'=true:=by intro v hv; simp at hv; rcases hv with rfl|rfl|rfl<;>rfl
  let J:Option Addr->Bool->World->Prop:=fun p ok w'=>Ext w1 w'/\∃ t0 t1 t2,zs0 db w' (ws.getD 0 ⟨#[]⟩) t0 t1 t2 ok/\Go.Sx.cell w' (pAdd p 0) 0=some (.int .i64 t0)/\Go.Sx.cell w' (pAdd p 1) 0=some (.bool t1)/\Go.Sx.cell w' (pAdd p 2) 0=some t2/\p≠none
  have put:∀ {w13 w14 w20:World} {p:Option Addr} {t0:Int} {t1:Bool} {t2:Value} {ok:Bool},Ext w1 w13->zyY w13 252 [.int .i64 0,.bool false,.nilFunc] p w14->Ext w14 w20->zs0 db w20 (ws.getD 0 ⟨#[]⟩) t0 t1 t2 ok->t2.oneCell'=true ->
      zam w20 p [.int .i64 t0,.bool t1,t2] [] (J p ok):=fun {w13 w14 w20 p t0 t1 t2 ok} hx hn e hf h1=>by
    have o14:Own w13.heap.size w14 252 3 p 1 1 [.int .i64 0,.bool false,.nilFunc]:=by
      rw [hn.at_]
      exact ⟨by simp,.inr ⟨w13.heap.size,1,_,rfl,Nat.le_refl _,hn.block,Nat.le_refl _,by simp [maxLen],by simp,by simp⟩⟩
    have hblk:w20.heap[w13.heap.size]?=some (.cells #[.int .i64 0,.bool false,.nilFunc] 252):=by
      rw [e.block _ (by rw [hn.size]; omega)]; exact hn.block
    have hp:p≠none:=by rw [hn.at_]; simp
    refine zaR (off:=0) (o14.ext e) (zeO p) (by simp) (by simp) (by intro u hu; simp at hu; rcases hu with rfl|rfl|rfl<;>first|rfl|exact h1) (by simp) fun w21 o21 g21=>?_
    have e20:Ext w13 w20:=hn.ext.trans e
    have e21:Ext w13 w21:=g21.ext e20 (o14.ext e)
    have hcel:zJD w20 w21:=fun q v hv hc=>by
      have hq:q.block≠w13.heap.size:=fun hq=>by
        unfold World.cell? at hc
        rw [hq,hblk] at hc
        simp only at hc
        split at hc
        · cases hc
        · have hm:=Array.mem_of_getElem? hc
          simp at hm
          rcases hm with rfl|rfl|rfl<;>exact hv
      have hlt:q.block<w20.heap.size:=by
        rcases Nat.lt_or_ge q.block w20.heap.size with h|h
        · exact h
        · unfold World.cell? at hc
          rw [Array.getElem?_eq_none h] at hc; cases hc
      rw [<- hc]
      exact World.cell?_of_block (w:=w20) (g21.by_.block q.block hlt (by rw [hn.at_]; simp [blk]; exact hq))
    have hcs:=o21.cells
    refine ⟨hx.trans e21,t0,t1,t2,?_,?_,?_,?_,hp⟩
    · rcases hf with h|⟨h1,pb,b,h2,h3,h4,h5⟩
      · exact .inl h
      · exact .inr ⟨h1,pb,b,h2,hcel _ _ trivial h3,zGh _ _ _ _ _ _ hcel h4,h5⟩
    · rw [zal]; exact hcs 0 _ rfl
    · rw [zal]; exact hcs 1 _ rfl
    · rw [zal]; exact hcs 2 _ rfl
  have new:∀ {w13:World} {T:Option Addr->World->Prop},(∀ p w14,zyY w13 252 [.int .i64 0,.bool false,.nilFunc] p w14->T p w14)->New w13 252 [.int .i64 0,.bool false,.nilFunc] T:=fun h=>⟨zzK,h⟩
  refine ⟨J,⟨by simp,by omega,by omega,fun w9 x9=>tab.mono fun v w10 ⟨e10,hT⟩=>⟨e10,v,rfl,_,cw (x9.trans e10),fun w13 x13=>?_,fun w13 x13=>?_⟩,⟨_,cw (Ext.refl _),fun w10 x10=>tab.mono fun v w11 ⟨e11,hT⟩=>⟨e11,v,rfl,fun w13 x13=>?_,fun w13 x13=>?_⟩,fun w10 x10=>?_⟩,fun w9 x9=>?_⟩,?_⟩
  · exact zoE (hT.ext x13) _ fun t0 t1 t2 ok hf h1=>⟨Ext.refl _,t0,t1,t2,ok,rfl,fun w19 x19=>new fun p w20 hn=>put (((x9.trans e10).trans x13).trans x19) hn (Ext.refl _) (hf.ext (x19.trans hn.ext)) h1⟩
  · exact new fun p w14 hn w15 x15=>zoE (hT.ext ((x13.trans hn.ext).trans x15)) _ fun t0 t1 t2 ok hf h1=>⟨Ext.refl _,t0,t1,t2,ok,rfl,put ((x9.trans e10).trans x13) hn x15 hf h1⟩
  · exact zoE (hT.ext x13) _ fun t0 t1 t2 ok hf h1=>⟨Ext.refl _,t0,t1,t2,ok,rfl,fun w19 x19=>new fun p w20 hn=>put (((x10.trans e11).trans x13).trans x19) hn (Ext.refl _) (hf.ext (x19.trans hn.ext)) h1⟩
  · exact new fun p w14 hn w15 x15=>zoE (hT.ext ((x13.trans hn.ext).trans x15)) _ fun t0 t1 t2 ok hf h1=>⟨Ext.refl _,t0,t1,t2,ok,rfl,put ((x10.trans e11).trans x13) hn x15 hf h1⟩
  · exact new fun p w11 hn w12 x12=>tab.mono fun v w13 ⟨e13,hT⟩=>⟨e13,v,rfl,fun w15 x15=>zoE (hT.ext x15) _ fun t0 t1 t2 ok hf h1=>⟨Ext.refl _,t0,t1,t2,ok,rfl,put x10 hn ((x12.trans e13).trans x15) hf h1⟩⟩
  · refine new fun p w10 hn=>⟨fun w11 x11=>tab.mono fun v w12 ⟨e12,hT⟩=>⟨e12,v,rfl,_,cw ((((x9.trans hn.ext).trans x11).trans e12)),fun w15 x15=>zoE (hT.ext x15) _ fun t0 t1 t2 ok hf h1=>⟨Ext.refl _,t0,t1,t2,ok,rfl,put x9 hn ((x11.trans e12).trans x15) hf h1⟩⟩,_,cw (x9.trans hn.ext),fun w12 x12=>tab.mono fun v w13 ⟨e13,hT⟩=>⟨e13,v,rfl,fun w15 x15=>zoE (hT.ext x15) _ fun t0 t1 t2 ok hf h1=>⟨Ext.refl _,t0,t1,t2,ok,rfl,put x9 hn ((x12.trans e13).trans x15) hf h1⟩⟩⟩
  rintro p ok w8 ⟨x8,t0,t1,t2,hf,c0,c1,c2,hp⟩
  have h8:=x1.trans x8
  refine ⟨fun hok w9 x9=>ztX ⟨Ext.refl _,_,rfl,fun w12 h12=>zcg x ((h8.trans x9).trans h12) (zEO (c:=1) (by decide)) ?_⟩,fun hok=>⟨hp,_,c0,?_⟩⟩
  · rcases hf with ⟨_,h⟩|⟨h,_⟩
    · unfold doW; rw [h]; exact ⟨rfl,rfl⟩
    · rw [hok] at h; cases h
  rcases hf with ⟨h,_⟩|⟨_,pb,b,hcm,hpb,hpv,rfl,rfl,_⟩
  · rw [hok] at h; cases h
  refine ⟨fun hne w10 x10=>ztX ⟨Ext.refl _,_,rfl,rfl,fun w13 x13=>zzE ⟨Ext.refl _,_,rfl,fun w16 h16=>zcg x (((h8.trans x10).trans x13).trans h16) (zzm (c:=3) (by decide)) ?_⟩⟩,fun heq=>⟨hp,_,c1,fun _=>ne,fun _=>ne,fun ht=>?_,fun hfl=>⟨hp,_,c2,fun w12 x12=>?_⟩⟩⟩
  · unfold doW; rw [hcm]
    simp only []
    rw [if_pos (by omega)]
    first|exact ⟨rfl,rfl⟩|simp
  · have hR:∀ (s:ByteArray) (c:Int) (σ:DS),K.st.isShut=false->R b ws K.st c s σ->doW R ws K.st c s σ:=fun s c σ hsh h=>by
      unfold doW; rw [hcm]
      simp only []
      rw [if_neg (by omega),if_neg (by rw [hsh]; simp)]
      exact h
    rcases K.cases with hK|⟨fb,P,F,hK⟩
    · refine ⟨none,(x.ext h8).nofp hK,fun _ w12 x12=>ztX ⟨Ext.refl _,_,rfl,fun w15 h15=>zcg x ((h8.trans x12).trans h15) (zEO (c:=9) (by decide)) ?_⟩,fun h=>absurd rfl h⟩
      unfold doW; rw [hcm]
      simp only []
      rw [if_neg (by omega),if_pos ⟨ht,by rw [Kt.st_shut hK]; rfl⟩]
      first|exact ⟨rfl,rfl⟩|simp
    · refine ⟨ptr fb,(x.ext h8).fbp hK,fun h=>absurd h (zaF fb),fun _=>⟨hp,_,c2,fun w13 x13=>?_⟩⟩
      have hsh:K.st.isShut=false:=by rw [Kt.st_opn hK]; rfl
      have hx:=h8.trans x13
      obtain ⟨f,bd,cap,e1,e2⟩:=hcall w13 pb sp b ws.length t2 hx hcm ((Cst.of_ext x13).cell hpb) (zjk _ _ _ _ _ _ (Cst.of_ext x13) hpv) (by omega) (Nat.le_refl _) (fun _=>hsh) (hc1.ext (x8.trans x13)) hszs
      refine ⟨f,bd,cap,e1,e2.mono fun v w14 hC=>?_⟩
      obtain ⟨s,ev,c,K',hv,q1,q2,q3,q4,q5⟩:=zvM hx hC
      exact ⟨s,ev,hv,fun w17 h17=>⟨s,ev,c,K',rfl,q1,q2.ext h17,q3.tr (zac h17),q4,hR _ _ _ hsh q5⟩⟩
  · have hx:=h8.trans x12
    obtain ⟨f,bd,cap,e1,e2⟩:=hcall w12 pb sp b ws.length t2 hx hcm ((Cst.of_ext x12).cell hpb) (zjk _ _ _ _ _ _ (Cst.of_ext x12) hpv) (by omega) (Nat.le_refl _) (fun h=>by rw [hfl] at h; cases h) (hc1.ext (x8.trans x12)) hszs
    refine ⟨f,bd,cap,e1,e2.mono fun v w14 hC=>?_⟩
    obtain ⟨s,ev,c,K',hv,q1,q2,q3,q4,q5⟩:=zvM hx hC
    refine ⟨s,ev,hv,fun w17 h17=>⟨s,ev,c,K',rfl,q1,q2.ext h17,q3.tr (zac h17),q4,?_⟩⟩
    unfold doW; rw [hcm]
    simp only []
    rw [if_neg (by omega),if_neg (by rw [hfl]; simp)]
    exact q5
end
theorem As_k {W0 w:World} {v:Value} {c:Int} (he:EV v c) (g:GD w) {t:Addr} {old:Value} (hx:Ext W0 w) (ht:W0.heap.size<=t.block) (hc:w.cell? t=some old) (hf:w.frozen? t=false) :
    FnP Tryz.prog znY #[v,.iface 196 (.pointer (some t))] w fun u w'=>Ext W0 w'/\∃ b:Bool,u=.bool b/\((c=0/\b=false)\/(c≠0/\b=true/\Go.Sx.cell w' (some t) 0=some (.int .i64 c))):=by
  refine ⟨fun args w=>Tryz.call104 args w,?_⟩
  have hg:w.cell? ⟨0,0,none⟩=some (.iface 329 (.agg #[.pointer (some ⟨11,175,none⟩)])):=zvK g.eType
  have al:∀ {w':World} (o:Obj),Ext W0 w'->Ext W0 (w'.alloc o):=fun o h=>Below.alloc h h.size o
  have lt:t.block<w.heap.size:=by
    rcases Nat.lt_or_ge t.block w.heap.size with h|h
    · exact h
    · unfold World.cell? at hc
      rw [Array.getElem?_eq_none h] at hc; cases hc
  have ca:∀ {w':World} (o:Obj),t.block<w'.heap.size->w'.cell? t=some old->(w'.alloc o).cell? t=some old/\t.block<(w'.alloc o).heap.size:=fun {w'} o h1 h2=>⟨by rw [World.cell?_alloc_lt _ _ t h1]; exact h2,by rw [zAO]; omega⟩
  have fin:∀ {w':World},Ext W0 w'->w'.cell? t=some old->Ext W0 (w'.setCell t (.int .i64 c))/\Go.Sx.cell (w'.setCell t (.int .i64 c)) (some t) 0=some (.int .i64 c):=fun {w'} h1 h2=>⟨Below.setCell h1 ht _,zfX (World.cell?_setCell_same w' t _ h2)⟩
  rcases he with ⟨h0,rfl⟩|⟨h0,rfl|⟨k,rfl⟩⟩
  · exact (as_nil _ w).mono fun e w' ⟨h1,h2⟩=>⟨_,h1,by rw [h2]; exact hx,false,rfl,.inl ⟨h0,rfl⟩⟩
  · refine (as_hit c t old w hg hc hf).mono fun e w' ⟨h1,o1,o2,o3,o4,h2⟩=>⟨_,h1,?_⟩
    obtain ⟨a1,b1⟩:=ca o1 lt hc
    obtain ⟨a2,b2⟩:=ca o2 b1 a1
    obtain ⟨a3,b3⟩:=ca o3 b2 a2
    obtain ⟨a4,b4⟩:=ca o4 b3 a3
    obtain ⟨q1,q2⟩:=fin (al o4 (al o3 (al o2 (al o1 hx)))) a4
    rw [h2]
    exact ⟨q1,true,rfl,.inr ⟨h0,rfl,q2⟩⟩
  · refine (zHI k c t old w hg hc hf).mono fun e w' ⟨h1,o1,o2,o3,o4,o5,h2⟩=>⟨_,h1,?_⟩
    obtain ⟨a1,b1⟩:=ca o1 lt hc
    obtain ⟨a2,b2⟩:=ca o2 b1 a1
    obtain ⟨a3,b3⟩:=ca o3 b2 a2
    obtain ⟨a4,b4⟩:=ca o4 b3 a3
    obtain ⟨a5,b5⟩:=ca o5 b4 a4
    obtain ⟨q1,q2⟩:=fin (al o5 (al o4 (al o3 (al o2 (al o1 hx))))) a5
    rw [h2]
    exact ⟨q1,true,rfl,.inr ⟨h0,rfl,q2⟩⟩
def zvE (c:Int) (s:ByteArray):ByteArray:=if c=0 then s else (⟨#[101,114,114,32]⟩:ByteArray)++ofL (Lib.itoa c)
abbrev zDs:=Nat->List ByteArray->DS->Int->ByteArray->DS->Prop
def doD (R:zDs) (line:ByteArray) (σ:DS) (a:ByteArray) (σ':DS):Prop:=∃ c s,doW R (zan 32 line) σ c s σ'/\a=zvE c s
def znU (R:zDs) (line:ByteArray):Prop:=∀ (O:Nat->Prop) (B db:Nat) (K:Kt) (w1:World) (pb wp:Addr) (b:Nat) (wc:Nat) (t2:Value),KX O B w1 db K->GD w1->11<=B->B<=w1.heap.size->zfp ((zan 32 line).getD 0 ⟨#[]⟩)=some b->w1.cell? pb=some (.pointer (ptr db)) ->
  PV ⟨db,0,none⟩ pb b (.agg #[.int .i64 (sig b).1,.bool (sig b).2,t2]) w1->(zan 32 line).length=(sig b).1->(zan 32 line).length<=wc->((sig b).2=true->K.st.isShut=false)->zat w1 (some wp) ((zan 32 line).map Value.string)->(∀ x∈zan 32 line,x.size<4294967281) ->
  zHd Tryz.prog t2 [.slice (some wp) (zan 32 line).length wc] w1 (CR O B db w1 K fun s c σ'=>R b (zan 32 line) K.st c s σ'/\InR .i64 c)
section
variable {O:Nat->Prop} {B db:Nat} {w:World} {K:Kt}
theorem Do_kD (R:zDs) (x:KX O B w db K) (g:GD w) (hB:11<=B) (hBw:B<=w.heap.size) (line:ByteArray) (hs:line.size<4294967281) (hcall:znU R line) :
    FnP Tryz.prog zd1 #[.pointer (ptr db),.string line] w fun v w'=>∃ (a:ByteArray) (K':Kt),v=.string a/\KX O B w' db K'/\Fr (KF db K) w w'/\ztK w db K K'/\doD R line K.st a K'.st:=by
  refine zoR (ptr db) line w _ fun w0 x0=>(do_k (fun b ws σ c s σ'=>R b ws σ c s σ'/\InR .i64 c) (x.ext x0) (g.ext x0) line hs fun w1 pb wp b wc t2 x1 a1 a2 a3 a4 a5 a6 a7 a8=>hcall O B db K w1 pb wp b wc t2 ((x.ext x0).ext x1) ((g.ext x0).ext x1) hB (Nat.le_trans hBw (Nat.le_trans x0.size x1.size)) a1 a2 a3 a4 a5 a6 a7 a8).mono fun v w1 hC=>?_
  obtain ⟨s,ev,c,K',rfl,hE,hX,hF,hG,hR⟩:=zvM x0 hC
  have hRR:doW R (zan 32 line) K.st c s K'.st/\InR .i64 c:=by
    unfold doW at hR ⊢
    split at hR
    · exact ⟨hR,by rw [hR.1]; exact i64 (by omega)⟩
    · split at hR
      · rename_i h; rw [if_pos h]; exact ⟨hR,by rw [hR.1]; exact i64 (by omega)⟩
      · rename_i h
        rw [if_neg h]
        split at hR
        · rename_i h; rw [if_pos h]; exact ⟨hR,by rw [hR.1]; exact i64 (by omega)⟩
        · rename_i h; rw [if_neg h]; exact hR
  have g1:GD w1:=g.fr hF fun b hb=>Nat.le_trans hB (x.foot hb).1
  refine ⟨s,ev,rfl,fun w4 x4=>⟨by simp [Value.oneCell'],fun p w5 hn w6 x6=>zfh (d:=.pointer 24) (by kernel_rfl) (by intro m hm; cases hm) ⟨Ext.refl _,_,rfl,fun w9 x9=>?_⟩⟩⟩
  obtain ⟨q,rfl,hq⟩:=zkP hn
  have hqb:q=⟨w4.heap.size,0,none⟩:=by have:=hn.at_; injection this
  have h49:Ext w4 w9:=(hn.ext.trans x6).trans x9
  have h59:Ext w5 w9:=x6.trans x9
  have h19:Ext w1 w9:=x4.trans h49
  have hfz:w9.frozen? q=false:=by
    have hb:w9.heap[w4.heap.size]?=some (.cells #[.int .i64 0] 24):=by rw [h59.block _ (by rw [hn.size]; omega)]; exact hn.block
    unfold World.frozen?
    rw [hqb]
    simp only [hb]
    rfl
  refine (As_k hE (g1.ext h19) h49 (by rw [hqb]; exact Nat.le_refl _) ((Cst.of_ext h59).cell hq) hfz).mono fun u w10 ⟨e10,b,hu,hb⟩=>⟨b,hu,fun hbt=>?_,fun hbf w12 h12=>?_⟩
  · rcases hb with ⟨_,h⟩|⟨hc,_,hcell⟩
    · rw [hbt] at h; cases h
    · refine ⟨c,hcell,fun w13 h13=>(zmO c (zg7 hRR.2) w13 (((g1.ext x4).ext e10).ext h13).gb).mono fun v w14 ⟨e14,hv⟩=>⟨e14,_,hv,?_,fun w16 h16=>?_⟩⟩
      · have:=Lib.itoa_length_le c (zg7 hRR.2).1 (zg7 hRR.2).2
        unfold zcY
        rw [zas]
        show 4+_<=_
        omega
      · have hx:=(x4.trans e10).trans h16
        exact ⟨_,K',rfl,hX.ext hx,hF.tr (zac hx),hG,c,s,hRR.1,by unfold zvE; rw [if_neg hc]⟩
  · rcases hb with ⟨hc,_⟩|⟨_,h,_⟩
    · have hx:=(x4.trans e10).trans h12
      exact ⟨s,K',rfl,hX.ext hx,hF.tr (zac hx),hG,c,s,hRR.1,by unfold zvE; rw [if_pos hc]⟩
    · rw [hbf] at h; cases h
end
inductive zcI (R:zDs):List ByteArray->DS->List ByteArray->DS->Prop
  |nil (σ:DS):zcI R [] σ [] σ
  |snoc {ls:List ByteArray} {l:ByteArray} {σ σ1 σ2:DS} {us:List ByteArray} {a:ByteArray}:zcI R ls σ us σ1->doD R l σ1 a σ2->zcI R (ls++[l]) σ (us++[a]) σ2
theorem zcI.len {R:zDs} {ls us:List ByteArray} {σ σ':DS} (h:zcI R ls σ us σ'):us.length=ls.length:=by
  induction h with
  |nil => rfl
  |snoc _ _ ih => simp [ih]
theorem zs1 (R:zDs) (lines:List ByteArray) (p:Option Addr) (c:Nat) (w:World) (g:GD w) (h6:11<=w.heap.size) (hw:zat w p (lines.map Value.string)) (h63:(lines.length:Int)<=9223372036854775807) (hs:∀ x∈lines,x.size<4294967281) (hcall:∀ x∈lines,znU R x) :
    FnP Tryz.prog zbZ #[.slice p lines.length c] w fun v w'=>Ext w w'/\((100<lines.length/\v=.tuple #[.slice none 0 0,.int .i64 2])\/(lines.length<=100/\∃ (us:List ByteArray) (σ:DS) (q:Option Addr) (d:Nat),v=.tuple #[.slice q lines.length d,.int .i64 0]/\zcI R lines (.shut []) us σ/\Own w.heap.size w' zar 1 q lines.length d (us.map Value.string))):=by
  refine zue p lines.length c w _ ⟨fun h w0 h0=>⟨h0,.inl ⟨by omega,rfl⟩⟩,fun hle w0 h0=>(zBi w0).mono fun v w1 ⟨e1,db,hv,x1⟩=>⟨e1,ptr db,hv,?_⟩⟩
  have hx1:=h0.trans e1
  refine ⟨fun q n d k w6=>Ext w0 w6/\0<=k/\k<=lines.length/\n=k/\∃ (us:List ByteArray) (K:Kt),zcI R (lines.take k.toNat) (.shut []) us K.st/\Own w0.heap.size w6 zar 1 q n d (us.map Value.string)/\KX (fun b=>b<w0.heap.size\/∃ a,q=some a/\a.block=b) w0.heap.size w6 db K,fun _ _ _ k _=>(lines.length-k).toNat,⟨e1,by omega,by omega,by simp,[],_,zcI.nil _,Own.nil,x1.go (S:=fun _=>False) (Fr.refl _ _) (fun _ h=>h.elim) fun b hb=>?_⟩,?_⟩
  · rcases hb with hb|⟨a,ha,_⟩
    · exact .inl hb
    · cases ha
  rintro q n d k w6 ⟨x6,hk0,hk1,hnk,us,K,hp,oA,hX⟩
  have hal:=hp.len
  rw [List.length_take] at hal
  refine ⟨fun hlt=>?_,fun hge w7 h7=>?_⟩
  · obtain ⟨l,hl⟩:∃ l,lines[k.toNat]?=some l:=⟨_,List.getElem?_eq_getElem (by omega)⟩
    have hm:=List.mem_of_getElem? hl
    have hcell:Go.Sx.cell w6 (pIdx p k 1) 0=some (.string l):=by
      rw [zad]
      refine (hw.ext (h0.trans x6)) _ _ ?_
      simp [hl]
    refine ⟨fun hq=>zak hcell (zah.2 hq),hk0,hlt,l,hcell,fun w8 x8=>?_⟩
    have hsz:w0.heap.size<=w8.heap.size:=(x6.trans x8).size
    refine (Do_kD R (hX.ext x8) (g.ext ((h0.trans x6).trans x8)) (Nat.le_trans h6 h0.size) hsz l (hs l hm) (hcall l hm)).mono fun v w9 ⟨a,K',hv,hX',hF,hG,hD⟩=>⟨a,hv,?_⟩
    have o9:Own w0.heap.size w9 zar 1 q n d (us.map Value.string):=(oA.ext x8).fr hF fun b hb hk=>(hX.ext x8).oft (.inr ⟨b,hb,rfl⟩) hk
    have e9:Ext w0 w9:=(hX.ext x8).keep (x6.trans x8) (Nat.le_refl _) hF
    refine push (v:=.string a) za7 (by omega) o9 e9.size rfl (by intro u hu; simp [Value.cells] at hu; subst hu; rfl) (by omega) (by omega) (by omega) fun q' d' w' o' g' np=>⟨i64 (by omega),⟨g'.ext e9 o9,by omega,by omega,by omega,us++[a],K',?_,?_,?_⟩,by simp only []; omega⟩
    · rw [show (k+1).toNat=k.toNat+1 by omega,List.take_add_one,hl]
      exact zcI.snoc hp hD
    · simpa [Value.cells] using o'
    · refine hX'.go (zaO (S:=fun b=>∃ a,q=some a/\a.block=b) g' fun a ha=>⟨a,ha,rfl⟩) (fun b hb=>.inr hb) fun b hb=>?_
      rcases hb with hb|⟨a',ha',rfl⟩
      · exact .inl (.inl hb)
      · have hlt':=(o'.lt a' ha').2
        rcases g'.new with hn|hn
        · left; right
          subst ha'
          cases q with
          |none => simp [blk] at hn
          |some z => simp [blk] at hn; exact ⟨z,rfl,hn.symm⟩
        · exact .inr ⟨hn a' ha',hlt'⟩
  · have hk:k=lines.length:=by omega
    subst hk
    have htake:lines.take ((lines.length:Int)).toNat=lines:=by simp
    rw [htake] at hp
    have hn:n=lines.length:=by omega
    subst hn
    exact ⟨(h0.trans x6).trans h7,.inr ⟨by omega,us,K.st,q,d,rfl,hp,(oA.ext h7).weak h0.size⟩⟩
abbrev zDr:=List ByteArray->DS->Int->ByteArray->DS->Prop
def zod (N Fr_:zDr):zDs
  |3,ws,σ,c,s,σ' => zv9 (ws.getD 1 ⟨#[]⟩) (ws.getD 2 ⟨#[]⟩) (ws.getD 3 ⟨#[]⟩) σ c s σ'
  |7,_,σ,c,s,σ' => zuq σ c s σ'
  |11,ws,σ,c,s,σ' => N ws σ c s σ'
  |15,ws,σ,c,s,σ' => zhp (znj ws 1) σ c s σ'
  |22,ws,σ,c,s,σ' => zpb zsy (ws.getD 1 ⟨#[]⟩) σ s c σ'
  |26,_,σ,c,s,σ' => zuz σ c s σ'
  |33,ws,σ,c,s,σ' => zpb (zvo true) (ws.getD 1 ⟨#[]⟩) σ s c σ'
  |40,ws,σ,c,s,σ' => zpb (zvo false) (ws.getD 1 ⟨#[]⟩) σ s c σ'
  |47,ws,σ,c,s,σ' => zpb zEm (ws.getD 1 ⟨#[]⟩) σ s c σ'
  |51,ws,σ,c,s,σ' => zzW (ws.getD 1 ⟨#[]⟩) σ c s σ'
  |55,ws,σ,c,s,σ' => Fr_ ws σ c s σ'
  |_,_,_,_,_,_ => False
def zax (c:Int):Prop:=0<=c/\c<=10
theorem zax.inR {c:Int} (h:zax c):InR .i64 c:=i64 (by unfold zax at h; omega)
theorem zlY {s:ByteArray} {n c:Int} (h:zFn s n c):zax c:=by rcases h with ⟨h,_⟩|⟨h,_⟩<;>(unfold zax; omega)
theorem zq5 {F:Fm} {id e:Int} (h:zsS F id e):zax e:=by rcases h with ⟨_,h⟩|⟨_,h⟩<;>(unfold zax; omega)
theorem zwJ {s:ByteArray} {a:Nd} {e:Int} (h:zzQ s a e):zax e:=by
  unfold zax
  by_cases h0:e=0
  · omega
  · by_cases h4:e=4
    · omega
    · have:=h.2.2.2.1 h0 h4; omega
theorem ztM:∀ (l:List Lb) (seen:List ByteArray),zax (lbE seen l)
  |[],seen => by unfold lbE zax; omega
  |x::r,seen => by
    rw [lbE]
    split
    · split
      · unfold zax; omega
      · exact ztM r _
    · unfold zax; omega
theorem zE2 (seen:List ByteArray) (h:Ht):zax (hE seen h):=by
  unfold hE
  split; · unfold zax; omega
  split; · unfold zax; omega
  split; · unfold zax; omega
  split; · exact ztM _ _
  split; · unfold zax; omega
  split; · unfold zax; omega
  split<;>(unfold zax; omega)
theorem ztA:∀ (L:List Ht) (seen:List ByteArray),zax (hsE seen L)
  |[],seen => by unfold hsE zax; omega
  |x::r,seen => by
    rw [hsE]
    split
    · exact zE2 _ _
    · exact ztA r _
theorem zvS (L:List Ht):zax (zky L):=by
  unfold zky
  split
  · unfold zax; omega
  · exact ztA _ _
theorem zwX {F:Fm} {n e:Int} {σ:DS} (h:zsy F n e σ):zax e:=by rcases h with ⟨h,_⟩|⟨h,_⟩<;>(unfold zax; omega)
theorem zq6 {ok:Bool} {F:Fm} {n e:Int} {σ:DS} (h:zvo ok F n e σ):zax e:=by
  rcases h with ⟨_,h,_⟩|⟨h,_⟩
  · exact zq5 h
  · unfold zax; omega
theorem zza {F:Fm} {n e:Int} {σ:DS} (h:zEm F n e σ):zax e:=by
  rcases h with ⟨_,h,_⟩|⟨h,_⟩
  · exact zq5 h
  · unfold zax; omega
theorem zhm {R:Fm->Int->Int->DS->Prop} (hR:∀ F n e σ,R F n e σ->zax e) {word:ByteArray} {σ:DS} {s:ByteArray} {c:Int} {σ':DS} (h:zpb R word σ s c σ'):zax c:=by
  obtain ⟨n,c1,hn,⟨_,rfl,_⟩|⟨_,_,h⟩⟩:=h
  · exact zlY hn
  · unfold zIV at h
    split at h
    · unfold zax; omega
    · exact hR _ _ _ _ h
theorem zwa {a b c0:ByteArray} {σ:DS} {c:Int} {s:ByteArray} {σ':DS} (h:zv9 a b c0 σ c s σ'):zax c:=by
  obtain ⟨nd,e,hr,⟨_,rfl,_⟩|⟨_,h⟩⟩:=h
  · exact zwJ hr
  · split at h
    · unfold zax; omega
    · split at h
      · unfold zax; omega
      · rw [h.1]; exact zvS _
theorem zwF {σ:DS} {c:Int} {s:ByteArray} {σ':DS} (h:zuq σ c s σ'):zax c:=by
  unfold zuq at h
  split at h<;>(unfold zax; omega)
theorem zwH {σ:DS} {c:Int} {s:ByteArray} {σ':DS} (h:zuz σ c s σ'):zax c:=by
  unfold zuz at h
  split at h
  · exact h.elim
  · unfold zax; omega
theorem zwR {word:ByteArray} {σ:DS} {c:Int} {s:ByteArray} {σ':DS} (h:zzW word σ c s σ'):zax c:=by
  obtain ⟨_,n,c1,hn,⟨_,rfl⟩|⟨_,h⟩⟩:=h
  · exact zlY hn
  · split at h
    · unfold zax; omega
    · rcases h with ⟨_,h,_⟩|⟨_,h⟩<;>(unfold zax; omega)
theorem zsw {t:ByteArray} {σ:DS} {c:Int} {s:ByteArray} {σ':DS} (h:zhp t σ c s σ'):zax c:=by
  unfold zhp at h
  split at h
  · exact h.elim
  · obtain ⟨e,j,hr,⟨h0,rfl,_⟩|⟨h0,hS,_⟩⟩:=h
    · unfold zax
      obtain ⟨r1,r2,_⟩:=hr
      by_cases hz:3000<t.size
      · have:=r1 hz; omega
      · have:=r2 (by omega); omega
    · have hj:=zik.2 (hr.2.2.1 h0).ok
      unfold zax
      rcases hS with ⟨h1,_⟩|⟨_,⟨_,h⟩|⟨_,⟨_,h⟩|⟨_,⟨_,h⟩|⟨_,h⟩⟩⟩⟩<;>omega
theorem zvD {a b c d e f:Value} (h:Value.agg #[a,b,c]=.agg #[d,e,f]):c=f:=by
  have:=congrArg Value.cells h
  simp [Value.cells] at this
  exact this.2.2
theorem zlI (N Fr_:zDr) (line:ByteArray) (h11:zfp ((zan 32 line).getD 0 ⟨#[]⟩)=some 11->False) (h55:zfp ((zan 32 line).getD 0 ⟨#[]⟩)=some 55->False):znU (zod N Fr_) line:=by
  intro O B db K w1 pb wp b wc t2 x g hB hBw hcm hpb hpv hlen hcap hsh hw hszs
  generalize zan 32 line=ws at *
  have hb:b=3\/b=7\/b=11\/b=15\/b=22\/b=26\/b=33\/b=40\/b=47\/b=51\/b=55:=by
    unfold zfp at hcm
    obtain ⟨e,he,rfl⟩:=Option.map_eq_some_iff.1 hcm
    have:=List.mem_of_find?_eq_some he
    simp only [KL,List.mem_cons,List.not_mem_nil,or_false] at this
    rcases this with rfl|rfl|rfl|rfl|rfl|rfl|rfl|rfl|rfl|rfl|rfl<;>simp
  have hsz1:(ws.getD 1 ⟨#[]⟩).size<=281474976710656:=by
    by_cases h1:1<ws.length
    · have:=hszs _ (zap ws ⟨#[]⟩ h1); omega
    · rw [List.getD_eq_getElem?_getD,List.getElem?_eq_none (by omega)]
      exact Nat.zero_le _
  have hszs':∀ y∈ws,y.size<=4294967281:=fun y hy=>by have:=hszs y hy; omega
  have opn:(sig b).2=true->∃ fb P F,K.farm=some (fb,P,F):=fun h=>by
    rcases K.cases with hK|h'
    · have:=hsh h; rw [Kt.st_shut hK] at this; cases this
    · exact h'
  have meth:∀ {F:FuncId} {Rr:ByteArray->Int->DS->Prop},(∃ f bd cap,(Value.agg #[.int .i64 (sig b).1,.bool (sig b).2,t2])=.agg #[.int .i64 (sig b).1,.bool (sig b).2,.func f bd cap]/\zbi ⟨db,0,none⟩ F (.func f bd cap)) ->
      FnP Tryz.prog F #[.pointer (ptr db),.slice (some wp) ws.length wc] w1 (CR O B db w1 K Rr)->(∀ s c σ,Rr s c σ->zod N Fr_ b ws K.st c s σ/\InR .i64 c) ->
      zHd Tryz.prog t2 [.slice (some wp) ws.length wc] w1 (CR O B db w1 K fun s c σ'=>zod N Fr_ b ws K.st c s σ'/\InR .i64 c):=fun {F Rr} h1 h2 h3=>by
    obtain ⟨f,bd,cap,e1,e2⟩:=h1
    have e3:=zvD e1
    unfold zbi at e2
    rw [<- e3] at e2
    exact ⟨F,_,_,e2,h2.mono fun v w' h=>h.mono h3⟩
  have clo:∀ {Rr:ByteArray->Int->DS->Prop},(∃ f' cap,t2=.func (.func f') #[] cap/\FnP Tryz.prog f' (#[.slice (some wp) ws.length wc]++cap) w1 (CR O B db w1 K Rr))->(∀ s c σ,Rr s c σ->zod N Fr_ b ws K.st c s σ/\InR .i64 c) ->
      zHd Tryz.prog t2 [.slice (some wp) ws.length wc] w1 (CR O B db w1 K fun s c σ'=>zod N Fr_ b ws K.st c s σ'/\InR .i64 c):=fun {Rr} h1 h3=>by
    obtain ⟨f',cap,e1,e2⟩:=h1
    exact ⟨f',#[],cap,e1,e2.mono fun v w' h=>h.mono h3⟩
  have cmd:∀ {n:Int} {fl:Bool} {R:Value->World->Prop},zdC n fl R (.agg #[.int .i64 (sig b).1,.bool (sig b).2,t2]) w1->R t2 w1:=fun {n fl R} h=>by
    obtain ⟨f,bd,cap,e1,e2⟩:=h
    have e3:=zvD e1
    rw [e3]; exact e2
  have pbc:Go.Sx.cell w1 (some pb) 0=some (.pointer (ptr db)):=zfX hpb
  rcases hb with rfl|rfl|rfl|rfl|rfl|rfl|rfl|rfl|rfl|rfl|rfl
  · have e2:zbi ⟨db,0,none⟩ 208 t2:=cmd (show zdC 4 false (fun f _=>zbi ⟨db,0,none⟩ 208 f) _ w1 from hpv)
    exact ⟨208,_,_,e2,(host_c x g hBw (some wp) wc ws hlen hszs hw).mono fun v w' h=>h.mono fun s c σ q=>⟨q,(zwa q).inR⟩⟩
  · have e2:zbi ⟨db,0,none⟩ 209 t2:=cmd (show zdC 1 false (fun f _=>zbi ⟨db,0,none⟩ 209 f) _ w1 from hpv)
    exact ⟨209,_,_,e2,(open_c x hBw (some wp) ws.length wc).mono fun v w' h=>h.mono fun s c σ q=>⟨q,(zwF q).inR⟩⟩
  · exact (h11 hcm).elim
  · have e2:zbi ⟨db,0,none⟩ 211 t2:=cmd (show zdC 6 true (fun f _=>zbi ⟨db,0,none⟩ 211 f) _ w1 from hpv)
    obtain ⟨fb,P,F,hK⟩:=opn rfl
    have hl:ws.length=6:=hlen
    exact ⟨211,_,_,e2,(zF0 x hK g hB hBw (some wp) wc ws (by omega) hcap (by omega) hszs' hw).mono fun v w' h=>h.mono fun s c σ q=>⟨q,(zsw q).inR⟩⟩
  · have e2:=cmd (show zdC 2 false (zcS pb 212) _ w1 from hpv)
    have hl:ws.length=2:=hlen
    exact clo (zyB x e2 hpb g.gb zsy (some wp) wc ws (by omega) hsz1 hw fun {w2 fb P F} n e hn hK=>tick_c (x.ext e) hK (zaG e pbc) n) fun s c σ q=>⟨q,(zhm (fun _ _ _ _=>zwX) q).inR⟩
  · have e2:zbi ⟨db,0,none⟩ 213 t2:=cmd (show zdC 1 true (fun f _=>zbi ⟨db,0,none⟩ 213 f) _ w1 from hpv)
    obtain ⟨fb,P,F,hK⟩:=opn rfl
    exact ⟨213,_,_,e2,(plan_c x hK g hB (some wp) ws.length wc).mono fun v w' h=>h.mono fun s c σ q=>⟨q,(zwH q).inR⟩⟩
  · have e2:=cmd (show zdC 2 false (zcS pb 214) _ w1 from hpv)
    have hl:ws.length=2:=hlen
    exact clo (zyB x e2 hpb g.gb (zvo true) (some wp) wc ws (by omega) hsz1 hw fun {w2 fb P F} n e hn hK=>zGC (x.ext e) hK (zaG e pbc) n hn true (.inl ⟨rfl,rfl⟩)) fun s c σ q=>⟨q,(zhm (fun _ _ _ _=>zq6) q).inR⟩
  · have e2:=cmd (show zdC 2 false (zcS pb 216) _ w1 from hpv)
    have hl:ws.length=2:=hlen
    exact clo (zyB x e2 hpb g.gb (zvo false) (some wp) wc ws (by omega) hsz1 hw fun {w2 fb P F} n e hn hK=>zGC (x.ext e) hK (zaG e pbc) n hn false (.inr ⟨rfl,rfl⟩)) fun s c σ q=>⟨q,(zhm (fun _ _ _ _=>zq6) q).inR⟩
  · have e2:=cmd (show zdC 2 false (zcS pb 217) _ w1 from hpv)
    have hl:ws.length=2:=hlen
    exact clo (zyB x e2 hpb g.gb zEm (some wp) wc ws (by omega) hsz1 hw fun {w2 fb P F} n e hn hK=>zEq (x.ext e) hK (zaG e pbc) n hn) fun s c σ q=>⟨q,(zhm (fun _ _ _ _=>zza) q).inR⟩
  · have e2:=cmd (show zdC 2 false (zmN pb) _ w1 from hpv)
    have hl:ws.length=2:=hlen
    exact clo (show_c x e2 hpb g (some wp) wc ws (by omega) hsz1 hw) fun s c σ q=>⟨q,(zwR q).inR⟩
  · exact (h55 hcm).elim
theorem zIy (h:Ht) (q:Option Addr) (d:Nat) (hok:zFq h) (hO:zvh h) (w:World) (hl:Lbs w q h.labels) :
    FnP Tryz.prog zjB #[.agg #[.string h.name,.slice q h.labels.length d,.int .i64 h.has.c,.int .i64 h.has.m,.int .i64 h.has.g,.int .i64 h.used.c,.int .i64 h.used.m,.int .i64 h.used.g]] w fun v w'=>Ext w w'/\v=.tuple #[nv (zhK h.has h.used),.int .i64 0]:=by
  refine zug h.name q h.labels.length d h.has.c h.has.m h.has.g h.used.c h.used.m h.used.g w _ fun b0 hb0 b1 hb1 w2 x2=>?_
  have h2:=zaa x2
  refine zci zfF [.agg #[.string h.name,.slice q h.labels.length d,.int .i64 h.has.c,.int .i64 h.has.m,.int .i64 h.has.g,.int .i64 h.used.c,.int .i64 h.used.m,.int .i64 h.used.g]] rfl rfl (fun u hu=>by simp at hu; subst hu; rfl) (by omega) (by omega) fun w3 o3 e3=>⟨e3,_,_,_,rfl,fun w7 h7=>?_⟩
  have x7:=(h2.trans e3).trans h7
  have hc:=((o3 w2.heap.size (Nat.le_refl _)).ext h7).cells
  have hf:(([.agg #[.string h.name,.slice q h.labels.length d,.int .i64 h.has.c,.int .i64 h.has.m,.int .i64 h.has.g,.int .i64 h.used.c,.int .i64 h.used.m,.int .i64 h.used.g]]:List Value).flatMap fun v=>v.cells.toList)=ziV ⟨h,q,d⟩:=rfl
  rw [hf] at hc
  have hs:zjW [h]:=⟨by simp,by simpa using hok,by simp⟩
  have hH:zi8 w7 (some ⟨w2.heap.size,0,none⟩) [h]:=fun i y hy=>by
    match i,hy with
    |0,hy =>
      simp at hy; subst hy
      exact ⟨q,d,fun j u hu=>by simpa using hc j u hu,hl.ext x7⟩
  refine (ztz _ 1 [h] (by simp) (by simpa using hO) w7 hH).mono fun v w8 ⟨e8,hv⟩=>⟨e8,_,hv,fun hne=>absurd (zxT.2 hs) hne,fun _ w10 h10=>?_⟩
  refine (zyI hok w10).mono fun v w11 ⟨e11,hv⟩=>⟨e11,_,_,_,_,hv,fun w16 x16=>⟨?_,rfl⟩⟩
  exact zau x16 (h2.trans e3) (by intro b hb; simp at hb; subst hb; exact hb1)
def zrT (L:List Ht) (name:ByteArray):Option Ht:=L.find? (fun h=>decide (h.name=name))
def zop:zDr:=fun ws σ c s σ'=>match σ with
  |.shut _ => False
  |.opn F => σ'=.opn F/\match zrT F.hosts (ws.getD 1 ⟨#[]⟩) with
    |none => c=5
    |some h => c=0/\s=ofL (zbc (zhK h.has h.used))
section
variable {O:Nat->Prop} {B db:Nat} {w:World} {K:Kt}
theorem zIq {L:List Ht} {name:ByteArray} {k:Nat} (hk:k<L.length) (h1:∀ j,j<k->(L.getD j default).name≠name) (h2:(L.getD k default).name=name):zrT L name=some (L.getD k default):=by
  unfold zrT
  induction L generalizing k with
  |nil => simp at hk
  |cons x r ih =>
    cases k with
    |zero => simp at h2; simp [h2]
    |succ k =>
      have hx:x.name≠name:=h1 0 (by omega)
      rw [List.find?_cons_of_neg (by simpa using hx)]
      exact ih (k:=k) (by simpa using hk) (fun j hj=>h1 (j+1) (by omega)) h2
theorem zBv {L:List Ht} {name:ByteArray} (h1:∀ j,j<L.length->(L.getD j default).name≠name):zrT L name=none:=by
  unfold zrT
  rw [List.find?_eq_none]
  intro h hh
  obtain ⟨i,hi⟩:=List.mem_iff_getElem?.1 hh
  have hlt:=(List.getElem?_eq_some_iff.1 hi).1
  have:=h1 i hlt
  rw [List.getD_eq_getElem?_getD,hi] at this
  simpa using this
theorem free_c (x:KX O B w db K) {fb:Nat} {P:Pl} {F:Fm} (hK:K.farm=some (fb,P,F)) (g:GD w) (wp:Option Addr) (wc:Nat) (ws:List ByteArray) (h2:ws.length=2) (hw:zat w wp (ws.map Value.string)) :
    FnP Tryz.prog zhC #[.pointer (ptr db),.slice wp ws.length wc] w (CR O B db w K fun s c σ'=>zop ws K.st c s σ'):=by
  have ne:=zaF db
  have h1:1<ws.length:=by omega
  have cw:∀ {w':World},Ext w w'->Go.Sx.cell w' (pIdx wp 1 1) 0=some (.string (ws.getD 1 ⟨#[]⟩)):=fun e=>by
    rw [zad]
    refine (hw.ext e) 1 _ ?_
    rw [List.getElem?_map,getElem?_getD ws ⟨#[]⟩ h1]; rfl
  have np:wp≠none:=fun h=>zak (cw (Ext.refl w)) (zah.2 h)
  refine zl2 (ptr db) wp ws.length wc w _ fun w0 x0=>⟨by simp [Value.oneCell'],fun p w1 hn=>⟨ne,ne,_,(x.ext (x0.trans hn.ext)).fbp hK,fun w3 x3=>?_⟩⟩
  obtain ⟨q,rfl,hq⟩:=zkP hn
  have x1:=x0.trans hn.ext
  have h3:=x1.trans x3
  obtain ⟨fx,I,W⟩:=(x.ext h3).opn fb P F hK
  refine (zAq fx I.i0.hs).mono fun v w4 ⟨e4,hp,hc,hv,_,hS⟩=>⟨e4,hp,_,hc,hv,fun w8 x8=>?_⟩
  have h4:=h3.trans e4
  have hH:=hS.at
  have hO:=fx.hO
  generalize hname:ws.getD 1 ⟨#[]⟩=name at cw
  have hfr:∀ (c:Int) (s:ByteArray),(match zrT F.hosts name with|none=>c=5|some h=>c=0/\s=ofL (zbc (zhK h.has h.used)))->zop ws K.st c s K.st:=fun c s h=>by
    rw [Kt.st_opn hK]
    refine ⟨rfl,?_⟩
    rw [hname]; exact h
  have idx:FnP Tryz.prog zao #[.slice hp F.hosts.length hc,.func (.func 256) #[] #[.pointer (some q)]] w8 fun v w'=>Ext w8 w'/\∃ t:Int,v=.int .i64 t/\((t=-1/\zrT F.hosts name=none)\/(0<=t/\t<F.hosts.length/\zrT F.hosts name=some (F.hosts.getD t.toNat default))):=by
    have h30:=hO.1
    refine zbj hp F.hosts.length hc _ w8 _ ⟨fun k w'=>w'=w8/\0<=k/\k<=F.hosts.length/\∀ j:Nat,(j:Int)<k->(F.hosts.getD j default).name≠name,fun k _=>(F.hosts.length-k).toNat,⟨rfl,by omega,by omega,fun j hj=>by omega⟩,?_⟩
    rintro k w ⟨rfl,hk0,hk1,hno⟩
    refine ⟨fun hlt=>?_,fun hge w3 h3=>⟨h3,-1,rfl,.inl ⟨rfl,zBv fun j hj=>hno j (by omega)⟩⟩⟩
    obtain ⟨qq,d,n1,n2,gg,_⟩:=(hH.ext x8).at hk0 hlt
    refine ⟨n1,hk0,hlt,n2,_,gg 0 _ rfl,_,_,_,gg 1 _ rfl,_,gg 2 _ rfl,_,gg 3 _ rfl,_,gg 4 _ rfl,_,gg 5 _ rfl,_,gg 6 _ rfl,_,gg 7 _ rfl,fun w13 h13=>⟨256,#[.pointer (some q)],rfl,?_⟩⟩
    have hx13:Ext w1 w13:=((x3.trans e4).trans x8).trans h13
    refine zjX _ _ _ _ _ _ _ _ _ _ (some q) w13 _ fun b0 hb0=>⟨_,_,_,zfX ((Cst.of_ext hx13).cell hq),np,by omega,by omega,_,cw (x1.trans hx13),fun w5 h5=>⟨h5,_,rfl,fun ht w16 h16=>⟨h16,k,rfl,.inr ⟨hk0,hlt,?_⟩⟩,fun hf=>⟨i64 (by omega),⟨rfl,by omega,by omega,fun j hj=>?_⟩,by simp only []; omega⟩⟩⟩
    · exact zIq (by omega) (fun j hj=>hno j (by omega)) (of_decide_eq_true ht)
    · by_cases hjk:(j:Int)<k
      · exact hno j hjk
      · obtain rfl:j=k.toNat:=by omega
        exact of_decide_eq_false hf
  refine idx.mono fun v w9 ⟨e9,t,hv,ht⟩=>⟨e9,t,hv,fun hneg w11 x11=>ztX ⟨Ext.refl _,_,rfl,fun w14 h14=>zcg x ((h4.trans x11).trans h14) (zEO (c:=5) (by decide)) (hfr _ _ ?_)⟩,fun hpos=>?_⟩
  · rcases ht with ⟨_,h⟩|⟨h,_⟩
    · rw [h]
    · omega
  rcases ht with ⟨h,_⟩|⟨_,hlt,hnm⟩
  · omega
  obtain ⟨qq,d,n1,n2,gg,hLb⟩:=hH.at hpos hlt
  have hm:=zap F.hosts default (i:=t.toNat) (by omega)
  have hok:=I.i0.hs.2.1 _ hm
  refine ⟨n1,hpos,hlt,n2,_,gg 0 _ rfl,_,_,_,gg 1 _ rfl,_,gg 2 _ rfl,_,gg 3 _ rfl,_,gg 4 _ rfl,_,gg 5 _ rfl,_,gg 6 _ rfl,_,gg 7 _ rfl,fun w21 h21=>?_⟩
  generalize hHd:F.hosts.getD t.toNat default=H at hLb hm hok hnm
  refine (zIy H qq d hok (hO.2 _ hm) w21 (hLb.ext h21)).mono fun v w22 ⟨e22,hv⟩=>⟨e22,_,_,_,_,hv,fun b27 hb27 w28 h28=>?_⟩
  refine (zCb (zhK H.has H.used) w28 ((g.ext h4).ext h28).gb).mono fun v w29 ⟨e29,s,e,hv,hi,_,hs⟩=>⟨e29,s,e,hv,fun w32 x32=>(zpw e w32).mono fun v w33 ⟨e33,hE⟩=>⟨e33,v,rfl,fun w35 h35=>?_⟩⟩
  have he:e=0:=hi.2 (zB0 hok)
  refine zcg x (((h4.trans (zaa x32)).trans e33).trans h35) hE (hfr _ _ ?_)
  rw [hnm]
  exact ⟨he,hs he⟩
end
theorem zoa {l:List UInt8} {n:Int} (h:Lib.parseIntB 64 l=.ok n):-9223372036854775808<=n/\n<=9223372036854775807:=by
  unfold Lib.parseIntB at h
  split at h
  · cases h
  · simp only at h
    split at h
    · cases h
    · cases h
    · rename_i u _
      have e:(2:Nat)^(64-1)=9223372036854775808:=by decide
      rw [e] at h
      split at h
      · cases h
      · rename_i h1
        split at h
        · cases h
        · rename_i h2
          injection h with h
          split at h
          · rename_i h3
            have:¬ 9223372036854775808<u:=fun hh=>h2 ⟨h3,hh⟩
            omega
          · rename_i h3
            have:¬ 9223372036854775808<=u:=fun hh=>h1 ⟨h3,hh⟩
            omega
theorem eq_nil {P:Program} {t:TypeId} {m:Array (String×TypeId)} (ht:P.underlying t=some (.interface m)) {v:Value} (hv:isErr v) {cx:Bool} {w:World} {K:Value->World->Prop} (hk:∀ b:Bool,(b=true↔v=.nilIface)->K (.bool b) w):Run P (.eq .eql t cx true v .nilIface) w K:=by
  have hb:∀ x:Value,∀ r:Bool,(Op.equal t x .nilIface).run P w=.ok r w->(eqGuard .eql t (opd cx) (opd true) x .nilIface).run P w=.ok () w->binOp .eql t x .nilIface=(do pure (.bool (<- Op.equal t x .nilIface)))->(MC.sem (.eq .eql t cx true x .nilIface)).run P w=.ok (.bool r) w:=fun x r h1 h2 h3=>by
    show (do eqGuard .eql t (opd cx) (opd true) x .nilIface; binOp .eql t x .nilIface:Sem Value).run P w=_
    rw [Sem.run_bind,h2,Result.andThen_ok,h3,Sem.run_bind,h1,Result.andThen_ok,Sem.run_pure]
  rcases hv with rfl|⟨a,b,rfl⟩
  · exact ⟨_,w,hb _ true (zjN 9999 ht w) (by cases cx<;>rfl) rfl,hk true (by simp)⟩
  · exact ⟨_,w,hb _ false (zjM 9999 ht a b w) (by cases cx<;>rfl) rfl,hk false (by simp)⟩
theorem zBn {P:Program} {t:TypeId} (ht:ztH P t=true) {v:Value} (hv:isErr v) {cx:Bool} {w:World} {K:Value->World->Prop} (hk:∀ b:Bool,(b=true↔v=.nilIface)->K (.bool b) w):Run P (.eq .eql t cx true v .nilIface) w K:=by
  unfold ztH at ht
  split at ht
  · rename_i m h; exact eq_nil h hv hk
  · cases ht
theorem zg1 (s:List UInt8) (c:UInt8):(Lib.cut s [c]).1.length<=s.length:=by
  unfold Lib.cut
  split
  · simp only [List.length_take]; omega
  · simp
def run (l t:Int):List UInt8:=if l<t then Lib.itoa l++45::Lib.itoa t else Lib.itoa l
theorem zGL (i:Nat):0<=zlV i/\zlV i<=zmt i/\zmt i<=59:=by
  match i with
  |0 => decide
  |1 => decide
  |2 => decide
  |3 => decide
  |n+4 => exact ⟨by simp [zlV],by simp [zlV,zmt],by simp [zmt]⟩
def zhH (c:Cr) (k:Nat) (x:Int):Cr:=match k with|0=>{ c with a:=x }|1=>{ c with b:=x }|2=>{ c with c:=x }|3=>{ c with d:=x }|_=>{ c with e:=x }
theorem znx (c:Cr) {k:Nat} (hk:k<5) (x:Int):(zJP c).set k (.int .u64 x)=zJP (zhH c k x):=by
  match k,hk with
  |0,_|1,_|2,_|3,_|4,_ => rfl
theorem zfI (c:Cr) {k i:Nat} (hk:k<5) (hi:i<5) (x:Int):fld (zhH c k x) i=if i=k then x else fld c i:=by
  match k,i,hk,hi with
  |0,0,_,_|0,1,_,_|0,2,_,_|0,3,_,_|0,4,_,_ => rfl
  |1,0,_,_|1,1,_,_|1,2,_,_|1,3,_,_|1,4,_,_ => rfl
  |2,0,_,_|2,1,_,_|2,2,_,_|2,3,_,_|2,4,_,_ => rfl
  |3,0,_,_|3,1,_,_|3,2,_,_|3,3,_,_|3,4,_,_ => rfl
  |4,0,_,_|4,1,_,_|4,2,_,_|4,3,_,_|4,4,_,_ => rfl
theorem zuJ (c:Cr) (k:Nat) (x y:Int):zhH (zhH c k x) k y=zhH c k y:=by
  match k with
  |0|1|2|3 => rfl
  |n+4 => rfl
theorem zBd {c d:Cr} (h:∀ i,i<5->fld c i=fld d i):c=d:=by
  have h0:=h 0 (by omega)
  have h1:=h 1 (by omega)
  have h2:=h 2 (by omega)
  have h3:=h 3 (by omega)
  have h4:=h 4 (by omega)
  cases c; cases d
  simp only [fld] at h0 h1 h2 h3 h4
  simp [h0,h1,h2,h3,h4]
theorem zuK {c:Cr} {k:Nat} (hk:k<5) (h:fld c k=0):zhH c k 0=c:=zBd fun i hi=>by
  rw [zfI c hk hi]
  split
  · rename_i e; subst e; exact h.symm
  · rfl
theorem zjK {c:Cr}:CrU c↔∀ i,i<5->U (fld c i):=by
  constructor
  · rintro ⟨a,b,c',d,e⟩ i hi
    match i,hi with
    |0,_ => exact a
    |1,_ => exact b
    |2,_ => exact c'
    |3,_ => exact d
    |4,_ => exact e
  · intro h
    exact ⟨h 0 (by omega),h 1 (by omega),h 2 (by omega),h 3 (by omega),h 4 (by omega)⟩
abbrev zlP (p:Option Addr):List Value:=[.pointer (pAdd p 0),.int .i64 0,.int .i64 59,.pointer (pAdd p 1),.int .i64 0,.int .i64 23,.pointer (pAdd p 2),.int .i64 1,.int .i64 31,.pointer (pAdd p 3),.int .i64 1,.int .i64 12,.pointer (pAdd p 4),.int .i64 0,.int .i64 6]
theorem zxY {w:World} {q p:Option Addr} (cs:zat w q (zlP p)):zxZ w q p:=by
  intro k h0 h1
  rcases five h0 h1 with rfl|rfl|rfl|rfl|rfl
  · exact ⟨by rw [zad]; exact cs 0 _ rfl,by rw [zad]; exact cs 1 _ rfl,by rw [zad]; exact cs 2 _ rfl⟩
  · exact ⟨by rw [zad]; exact cs 3 _ rfl,by rw [zad]; exact cs 4 _ rfl,by rw [zad]; exact cs 5 _ rfl⟩
  · exact ⟨by rw [zad]; exact cs 6 _ rfl,by rw [zad]; exact cs 7 _ rfl,by rw [zad]; exact cs 8 _ rfl⟩
  · exact ⟨by rw [zad]; exact cs 9 _ rfl,by rw [zad]; exact cs 10 _ rfl,by rw [zad]; exact cs 11 _ rfl⟩
  · exact ⟨by rw [zad]; exact cs 12 _ rfl,by rw [zad]; exact cs 13 _ rfl,by rw [zad]; exact cs 14 _ rfl⟩
theorem ztq (p:Option Addr) (hp:p≠none) (w:World):FnP Tryz.prog zdg #[.pointer p] w fun v w'=>Ext w w'/\∃ q,v=.slice q 5 5/\zat w' q (zlP p)/\∀ x,q=some x->w.heap.size<=x.block:=by
  refine zjr p w _ ⟨hp,hp,hp,hp,hp,hp,hp,hp,hp,hp,fun w0 h0=>?_⟩
  refine zci zfG [(.agg #[(.pointer (pAdd p 0)),(.int .i64 0),(.int .i64 59)]),(.agg #[(.pointer (pAdd p 1)),(.int .i64 0),(.int .i64 23)]),(.agg #[(.pointer (pAdd p 2)),(.int .i64 1),(.int .i64 31)]),(.agg #[(.pointer (pAdd p 3)),(.int .i64 1),(.int .i64 12)]),(.agg #[(.pointer (pAdd p 4)),(.int .i64 0),(.int .i64 6)])] rfl rfl (by intro v hv; simp at hv; rcases hv with rfl|rfl|rfl|rfl|rfl<;>rfl) (by omega) (by omega) fun w1 o1 e1=>⟨e1,_,_,_,rfl,fun w5 h5=>⟨(h0.trans e1).trans h5,_,rfl,?_,fun x hx=>?_⟩⟩
  · have cs:=((o1 0 (Nat.zero_le _)).ext h5).cells
    simpa [Value.cells] using cs
  · obtain rfl:=Option.some.inj hx
    exact h0.size
def zpx:Cr:=⟨0,0,0,0,0⟩
theorem zkz (i:Nat):fld zpx i=0:=by
  match i with
  |0|1|2|3 => rfl
  |n+4 => rfl
theorem u0:U 0:=by rw [zfW]; omega
def zDK (s:ByteArray) (low top:Int):Option Int:=match Lib.parseIntB 64 s.data.toList with
  |.ok n => if s.size<=2/\ofL (Lib.itoa n)=s/\low<=n/\n<=top then some n else none
  |_ => none
theorem zyk (s:ByteArray) (hs:s.size<=281474976710656) (low top:Int) (w:World) (g:GB w):FnP Tryz.prog zbD #[.string s,.int .i64 low,.int .i64 top] w fun v w'=>Ext w w'/\∃ (n:Int) (b:Bool),v=.tuple #[.int .i64 n,.bool b]/\(b=true->zDK s low top=some n/\low<=n/\n<=top)/\(b=false->zDK s low top=none):=by
  refine zjs s low top w _ fun w0 h0=>(zqx s hs w0 (g.ext h0)).mono fun v w1 ⟨e1,n,ev,hv,hc⟩=>⟨e1,n,ev,hv,fun w4 h4=>?_⟩
  have x1:=h0.trans e1
  refine zBn (by kernel_rfl) (hc.elim (fun h=>.inl h.1) fun h=>.inr h.1) fun b hb=>⟨Ext.refl _,b,rfl,fun hok w7 h7=>?_,fun hor w7 h7=>⟨x1.trans h7,n,false,rfl,(fun h=>by cases h),fun _=>?_⟩⟩
  · have hp:Lib.parseIntB 64 s.data.toList=.ok n:=by
      rcases hc with h|⟨⟨a,c,h⟩,_⟩
      · exact h.2
      · have:=hb.1 hok.1
        rw [h] at this; cases this
    have hn:zDK s low top=if s.size<=2/\ofL (Lib.itoa n)=s/\low<=n/\n<=top then some n else none:=by unfold zDK; rw [hp]
    refine (zmO n (zoa hp) w7 (g.ext (x1.trans h7))).mono fun v w8 ⟨e8,hv⟩=>⟨e8,_,hv,fun w10 h10=>⟨x1.trans h10,n,_,rfl,fun h=>?_,fun h=>?_⟩⟩
    · simp only [Bool.and_eq_true,decide_eq_true_eq] at h
      rw [hn,if_pos ⟨by omega,h.1.1,h.1.2,h.2⟩]
      exact ⟨rfl,h.1.2,h.2⟩
    · rw [hn,if_neg]
      rintro ⟨_,a,b,c⟩
      simp [a,b,c] at h
  · unfold zDK
    rcases hor with h|h
    · rcases hc with ⟨h1,_⟩|⟨_,h2⟩
      · rw [hb.2 h1] at h; cases h
      · split
        · rename_i m hm; exact absurd hm (h2 m)
        · rfl
    · split
      · rw [if_neg (by omega)]
      · rfl
def zpG (tp step:Int):Nat->Int->Int->Int
  |0,out,_ => out
  |f+1,out,n => if n<=tp then zpG tp step f (zav .or .u64 out (zav .shl .u64 1 n)) (n+step) else out
theorem zAV {tp step:Int} {f:Nat} {out n:Int} (h:tp<n):zpG tp step f out n=out:=by
  cases f with
  |zero => rfl
  |succ f => rw [zpG,if_neg (by omega)]
theorem zoF {lo tp step:Int} (h0:0<=lo) (h2:tp<=62) (h3:1<=step) (h4:step<=99) {w:World} {Q:Value->World->Prop} (hQ:∀ w',Ext w w'->U (zpG tp step 100 0 lo)->Q (.tuple #[.int .u64 (zpG tp step 100 0 lo),.bool true]) w') :
    ∃ (I23:Int->Int->World->Prop) (M23:Int->Int->World->Nat),I23 0 lo w /\
             ∀ (out24:Int) (n25:Int) (w26:World),I23 out24 n25 w26 ->
              (((n25<=tp) ->
               0<=(n25:Int) /\
               InR .i64 (n25+step) /\
               (I23 (zav .or .u64 out24 (zav .shl .u64 1 n25)) (n25+step) w26/\M23 (zav .or .u64 out24 (zav .shl .u64 1 n25)) (n25+step) w26<M23 out24 n25 w26))) /\
              ((tp<n25) ->
               ∀ w27,Ext w26 w27 ->
               Q (.tuple #[(.int .u64 out24),(.bool true)]) w27):=by
  refine ⟨fun out n w'=>w'=w/\0<=n/\U out/\∃ f:Nat,tp-n<f/\zpG tp step f out n=zpG tp step 100 0 lo,fun _ n _=>(tp+1-n).toNat,⟨rfl,h0,by rw [zfW]; omega,100,by omega,rfl⟩,?_⟩
  rintro out n w' ⟨rfl,hn,hu,f,hf,he⟩
  refine ⟨fun hle=>⟨by omega,i64 (by omega),⟨rfl,by omega,U_or _ _,?_⟩,by simp only []; omega⟩,fun hgt w27 h27=>?_⟩
  · cases f with
    |zero => omega
    |succ f =>
      rw [zpG,if_pos hle] at he
      exact ⟨f,by omega,he⟩
  · rw [zAV hgt] at he
    have:=hQ w27 h27 (by rw [<- he]; exact hu)
    rwa [<- he] at this
def zjm (s:ByteArray) (c:UInt8):ByteArray×ByteArray×Bool:=(ofL (Lib.cut s.data.toList [c]).1,ofL (Lib.cut s.data.toList [c]).2.1,(Lib.cut s.data.toList [c]).2.2)
def zzZ (ev:ByteArray) (st:Bool) (l t:Int):Option Int:=if st=true then (zDK ev 1 99).map (fun k=>zpG t k 100 0 l) else some (zpG t 1 100 0 l)
def zzx (low top:Int) (s:ByteArray):Option Int :=
  let (hd,ev,st):=zjm s 47
  let (fi,la,tw):=zjm hd 45
  if hd=ofL [42] then zzZ ev st low top
  else (zDK fi low top).bind fun l=>(if tw=true then zDK la l top else some l).bind fun t=>if st=true/\tw=false then none else zzZ ev st l t
abbrev RIE (w:World) (low top:Int) (s:ByteArray) (v:Value) (w':World):Prop:=Ext w w'/\∃ (set:Int) (b:Bool),v=.tuple #[.int .u64 set,.bool b]/\(b=true->zzx low top s=some set/\U set)/\(b=false->zzx low top s=none)
theorem zIE (p:Option Addr) (low top:Int) (h0:0<=low) (h2:top<=62) (s:ByteArray) (hs:s.size<=1000) (w:World) (g:GB w) :
    FnP Tryz.prog zcz #[.agg #[.pointer p,.int .i64 low,.int .i64 top],.string s] w (RIE w low top s):=by
  have S1:(zjm s 47).1.size<=s.size:=by
    have:=zg1 s.data.toList 47
    rw [zg0] at this
    show (ofL _).size<=_
    rw [zas]; exact this
  have S2:(zjm s 47).2.1.size<=s.size:=by
    have:=zg2 s.data.toList 47
    rw [zg0] at this
    show (ofL _).size<=_
    rw [zas]; exact this
  have hI:zzx low top s=if (zjm s 47).1=ofL [42] then zzZ (zjm s 47).2.1 (zjm s 47).2.2 low top
    else (zDK (zjm (zjm s 47).1 45).1 low top).bind fun l=>(if (zjm (zjm s 47).1 45).2.2=true then zDK (zjm (zjm s 47).1 45).2.1 l top else some l).bind fun t=>if (zjm s 47).2.2=true/\(zjm (zjm s 47).1 45).2.2=false then none else zzZ (zjm s 47).2.1 (zjm s 47).2.2 l t:=rfl
  refine zfL p low top s w _ fun b0 _ w1 x1=>(zvr 47 s (by omega) w1 (g.ext x1)).mono fun v w2 ⟨e2,hv⟩=>⟨e2,(zjm s 47).1,(zjm s 47).2.1,(zjm s 47).2.2,hv,fun w6 x6=>?_⟩
  generalize (zjm s 47).1=hd at S1 hI ⊢
  generalize (zjm s 47).2.1=ev at S2 hI ⊢
  generalize (zjm s 47).2.2=st at hI ⊢
  have S3:(zjm hd 45).1.size<=s.size:=by
    have:=zg1 hd.data.toList 45
    rw [zg0] at this
    show (ofL _).size<=_
    rw [zas]; omega
  have S4:(zjm hd 45).2.1.size<=s.size:=by
    have:=zg2 hd.data.toList 45
    rw [zg0] at this
    show (ofL _).size<=_
    rw [zas]; omega
  refine (zvr 45 hd (by omega) w6 (g.ext x6)).mono fun v w7 ⟨e7,hv⟩=>⟨e7,(zjm hd 45).1,(zjm hd 45).2.1,(zjm hd 45).2.2,hv,?_⟩
  generalize (zjm hd 45).1=fi at S3 hI ⊢
  generalize (zjm hd 45).2.1=la at S4 hI ⊢
  generalize (zjm hd 45).2.2=tw at hI ⊢
  have no:∀ {w':World},Ext w w'->zzx low top s=none->RIE w low top s (.tuple #[.int .u64 0,.bool false]) w':=fun x h=>⟨x,0,false,rfl,fun h=>(by cases h),fun _=>h⟩
  have yes:∀ {w':World} {set:Int},Ext w w'->U set->zzx low top s=some set->RIE w low top s (.tuple #[.int .u64 set,.bool true]) w':=fun x hu h=>⟨x,_,true,rfl,fun _=>⟨h,hu⟩,fun h=>by cases h⟩
  refine ⟨fun hne w11 x11=>?_,fun heq=>?_⟩
  · have hne:hd≠ofL [42]:=hne
    rw [if_neg hne] at hI
    refine (zyk fi (by omega) low top w11 (g.ext x11)).mono fun v w12 ⟨e12,n1,b1,hv,y1,z1⟩=>⟨e12,n1,b1,hv,fun hb w15 x15=>no x15 (by rw [hI,z1 hb]; rfl),fun hb=>?_⟩
    obtain ⟨q1,l1,l2⟩:=y1 hb
    rw [q1,Option.bind_some] at hI
    refine ⟨fun htw w15 x15=>?_,fun htw=>?_⟩
    · subst htw
      rw [if_pos rfl] at hI
      refine (zyk la (by omega) n1 top w15 (g.ext x15)).mono fun v w16 ⟨e16,n2,b2,hv,y2,z2⟩=>⟨e16,n2,b2,hv,fun hor w19 x19=>no x19 ?_,fun hor=>?_⟩
      · rcases hor with h|h
        · rw [hI,z2 h]; rfl
        · exact absurd h.2 (by decide)
      obtain ⟨q2,m1,m2⟩:=y2 hor.1
      rw [q2,Option.bind_some,if_neg (by simp)] at hI
      refine ⟨fun hst w19 x19=>?_,fun hst=>?_⟩
      · subst hst
        unfold zzZ at hI
        rw [if_pos rfl] at hI
        refine (zyk ev (by omega) 1 99 w19 (g.ext x19)).mono fun v w20 ⟨e20,n3,b3,hv,y3,z3⟩=>⟨e20,n3,b3,hv,fun hb3 w23 x23=>no x23 (by rw [hI,z3 hb3]; rfl),fun hb3=>?_⟩
        obtain ⟨q3,k1,k2⟩:=y3 hb3
        exact zoF (by omega) (by omega) k1 k2 fun w' x' hu=>yes x' hu (by rw [hI,q3]; rfl)
      · subst hst
        exact zoF (step:=1) (by omega) (by omega) (by omega) (by omega) fun w' x' hu=>yes x' hu (by rw [hI]; rfl)
    · subst htw
      rw [if_neg (by simp),Option.bind_some] at hI
      refine ⟨fun hbad w15 x15=>no x15 (by rw [hI,if_pos ⟨hbad.1,rfl⟩]),fun hor=>⟨fun hst w15 x15=>?_,fun hst=>?_⟩⟩
      · rcases hor with h|h
        · rw [hst] at h; cases h
        · cases h
      · subst hst
        rw [if_neg (by simp)] at hI
        exact zoF (step:=1) (by omega) (by omega) (by omega) (by omega) fun w' x' hu=>yes x' hu (by rw [hI]; rfl)
  · have heq:hd=ofL [42]:=heq
    rw [if_pos heq] at hI
    unfold zzZ at hI
    refine ⟨fun hst w11 x11=>?_,fun hst=>?_⟩
    · subst hst
      rw [if_pos rfl] at hI
      refine (zyk ev (by omega) 1 99 w11 (g.ext x11)).mono fun v w20 ⟨e20,n3,b3,hv,y3,z3⟩=>⟨e20,n3,b3,hv,fun hb3 w23 x23=>no x23 (by rw [hI,z3 hb3]; rfl),fun hb3=>?_⟩
      obtain ⟨q3,k1,k2⟩:=y3 hb3
      exact zoF (by omega) (by omega) k1 k2 fun w' x' hu=>yes x' hu (by rw [hI,q3]; rfl)
    · subst hst
      exact zoF (step:=1) (by omega) (by omega) (by omega) (by omega) fun w' x' hu=>yes x' hu (by rw [hI]; rfl)
def zqP (low top:Int):Int->List ByteArray->Option Int
  |x,[] => some x
  |x,it::r => match zzx low top it with
    |none => none
    |some set => zqP low top (zav .or .u64 x set) r
def fF (S:List ByteArray) (i:Nat):Option Int:=zqP (zlV i) (zmt i) 0 (zan 44 (S.getD i ⟨#[]⟩))
def zq2 (s:ByteArray) (c:Cr) (e:Int):Prop:=(200<s.size/\e=2/\c=zpx)\/(s.size<=200/\((e=3/\c=zpx/\((zan 32 s).length≠5\/∃ i,i<5/\fF (zan 32 s) i=none))\/(e=0/\(zan 32 s).length=5/\∀ i,i<5->fF (zan 32 s) i=some (fld c i))))
theorem zq2.one {s:ByteArray} {c d:Cr} {e f:Int} (h:zq2 s c e) (g:zq2 s d f):c=d/\e=f:=by
  rcases h with ⟨h0,h1,h2⟩|⟨h0,⟨h1,h2,h3⟩|⟨h1,h2,h3⟩⟩<;>rcases g with ⟨g0,g1,g2⟩|⟨g0,⟨g1,g2,g3⟩|⟨g1,g2,g3⟩⟩
  · exact ⟨h2.trans g2.symm,by omega⟩
  · omega
  · omega
  · omega
  · exact ⟨h2.trans g2.symm,by omega⟩
  · rcases h3 with h|⟨i,hi,h⟩
    · exact absurd g2 h
    · rw [g3 i hi] at h; cases h
  · omega
  · rcases g3 with h|⟨i,hi,h⟩
    · exact absurd h2 h
    · rw [h3 i hi] at h; cases h
  · exact ⟨zBd fun i hi=>by have:=h3 i hi; rw [g3 i hi] at this; injection this with this; exact this.symm,by omega⟩
abbrev RPE (w:World) (s:ByteArray) (v:Value) (w':World):Prop:=Ext w w'/\∃ (c:Cr) (e:Int),v=.tuple #[cv c,.int .i64 e]/\CrU c/\zq2 s c e
theorem zxg:CrU zpx:=zjK.2 fun i _=>by rw [zkz]; exact u0
theorem rpe_no {w w':World} {s:ByteArray} (x:Ext w w') (hs:s.size<=200) (h:(zan 32 s).length≠5\/∃ i,i<5/\fF (zan 32 s) i=none):RPE w s (.tuple #[.agg #[.int .u64 0,.int .u64 0,.int .u64 0,.int .u64 0,.int .u64 0],.int .i64 3]) w' :=
  ⟨x,zpx,3,rfl,zxg,.inr ⟨hs,.inl ⟨rfl,rfl,h⟩⟩⟩
theorem zDZ (s:ByteArray) (w:World) (g:GB w):FnP Tryz.prog zfx #[.string s] w (RPE w s):=by
  refine zkW s w _ fun b0 hb0=>⟨fun hlt w1 x1=>⟨x1,zpx,2,rfl,zxg,.inl ⟨by omega,rfl,rfl⟩⟩,fun hle w1 x1=>zbt (by simp [Value.oneCell']) fun w2 o2 e2=>fun w3 x3=>?_⟩
  have hsz:s.size<=200:=by omega
  have h1:=zaa x1
  have l0:=x1.lt b0 (by simp)
  have o2:=o2 w.heap.size h1.size
  have np:(some (⟨w1.heap.size,0,none⟩:Addr))≠none:=by simp
  have h2:=h1.trans e2
  have hpb:∀ y,(some (⟨w1.heap.size,0,none⟩:Addr))=some y->y.block≠b0:=fun y hy=>by obtain rfl:=Option.some.inj hy; show w1.heap.size≠b0; omega
  have hpl:∀ y,(some (⟨w1.heap.size,0,none⟩:Addr))=some y->y.block<w2.heap.size:=fun y hy=>(o2.lt y hy).2
  generalize (some (⟨w1.heap.size,0,none⟩:Addr))=p at o2 np hpb hpl ⊢
  have h3:=h2.trans (zaa x3)
  have bx:∀ {wa wb:World},Ext w wa->zag [b0] [] wa wb->Ext w wb:=fun ha hb=>zau hb ha (by intro d hd; simp at hd; omega)
  refine (zew 32 s (by omega) w3 (g.ext h3)).mono fun v w4 ⟨e4,hv,hc4,_⟩=>⟨e4,_,_,_,hv,?_⟩
  have h4:=h3.trans e4
  have spn:(some (⟨w3.heap.size,0,none⟩:Addr))≠none:=by simp
  have apsp:zbz (some (⟨w3.heap.size,0,none⟩:Addr)) p:=fun a b ha hb he=>by
    obtain rfl:=Option.some.inj ha
    have h5:=hpl b hb
    have h6:=(zaa x3).size
    have h7:w3.heap.size=b.block:=he
    omega
  generalize (some (⟨w3.heap.size,0,none⟩:Addr))=sp at hc4 spn apsp ⊢
  have slen:=zi1 32 s
  have ssz:∀ i q,(zan 32 s)[i]?=some q->q.size+i<=s.size:=fun i q h=>zhi h
  change zat w4 sp ((zan 32 s).map Value.string) at hc4
  have hno:∀ {w':World},Ext w w'->((zan 32 s).length≠5\/∃ i,i<5/\fF (zan 32 s) i=none)->RPE w s (.tuple #[.agg #[.int .u64 0,.int .u64 0,.int .u64 0,.int .u64 0,.int .u64 0],.int .i64 3]) w':=fun x h=>rpe_no x hsz h
  have hyes:∀ {w':World} {c:Cr},Ext w w'->CrU c->(zan 32 s).length=5->(∀ i,i<5->fF (zan 32 s) i=some (fld c i))->RPE w s (.tuple #[cv c,.int .i64 0]) w':=fun x hu h1 h2=>⟨x,_,0,rfl,hu,.inr ⟨hsz,.inr ⟨rfl,h1,h2⟩⟩⟩
  generalize zan 32 s=S at hc4 slen ssz hno hyes
  generalize Lib.countB s (one 32)=n at slen ⊢
  refine ⟨fun hne w8 x8=>hno (bx h4 x8) (.inl (by omega)),fun heq w8 x8=>?_⟩
  have hn:n=4:=by omega
  subst hn
  have h8:=h4.trans (zaa x8)
  refine (ztq p np w8).mono fun v w9 ⟨e9,q,hv,hq,hqb⟩=>⟨e9,q,5,5,hv,?_⟩
  have h9:=h8.trans e9
  have o9:=(((o2.ext (zaa x3)).ext e4).ext (zaa x8)).ext e9
  have apq:zbz q p:=fun a b ha hb he=>by
    have h5:=hqb a ha
    have h6:=hpl b hb
    have h7:=(((zaa x3).trans e4).trans (zaa x8)).size
    omega
  refine ⟨fun k w'=>Ext w w'/\0<=k/\k<=5/\zat w' sp (S.map Value.string)/\zat w' q (zlP p)/\∃ cur,Own w.heap.size w' zxm 5 p 1 1 (zJP cur)/\CrU cur/\(∀ i:Nat,i<5->k<=(i:Int)->fld cur i=0)/\(∀ i:Nat,i<5->(i:Int)<k->fF S i=some (fld cur i)),
    fun k _=>(5-k).toNat,⟨h9,by omega,by omega,(hc4.ext (zaa x8)).ext e9,hq,zpx,o9,zxg,fun i _ _=>zkz i,fun i _ h=>by omega⟩,?_⟩
  rintro k w15 ⟨x15,hk0,hk5,c15,q15,cur,o15,hcu,hz,hok⟩
  refine ⟨fun hlt=>?_,fun hge=>?_⟩
  rotate_left
  · obtain rfl:k=5:=by omega
    have cc:=o15.cells
    exact ⟨np,_,cc 0 _ rfl,_,cc 1 _ rfl,_,cc 2 _ rfl,_,cc 3 _ rfl,_,cc 4 _ rfl,fun w21 x21=>hyes (c:=cur) (bx x15 x21) hcu slen fun i hi=>hok i hi (by omega)⟩
  have hlt:k<5:=by simpa using hlt
  obtain ⟨f0,f1,f2⟩:=zxY q15 k hk0 hlt
  have hkn:k.toNat<5:=by omega
  obtain ⟨zGL,low1,top1⟩:=zGL k.toNat
  obtain ⟨pc,hpc⟩:∃ pc,S[k.toNat]?=some pc:=⟨_,List.getElem?_eq_getElem (by omega)⟩
  have hcell:Go.Sx.cell w15 (pIdx sp k 1) 0=some (.string pc):=by
    rw [zad]
    exact c15 _ _ (by simp [hpc])
  have hpsz:=ssz _ _ hpc
  have hfF:fF S k.toNat=zqP (zlV k.toNat) (zmt k.toNat) 0 (zan 44 pc):=by
    unfold fF
    rw [List.getD_eq_getElem?_getD,hpc]; rfl
  have npk:pAdd p k.toNat≠none:=fun h=>np (zcV.1 h)
  refine ⟨fun hq=>zak f0 (zah.2 hq),hk0,hlt,zak f0,_,f0,_,f1,_,f2,fun b19 hb19=>⟨spn,hk0,(by show k<((4+1:Nat):Int); omega),_,hcell,fun w21 x21=>?_⟩⟩
  have x21':=x15.trans (zaa x21)
  refine (zew 44 pc (by omega) w21 (g.ext x21')).mono fun v w22 ⟨e22,hv,hc22,_⟩=>⟨e22,_,_,_,hv,?_⟩
  have x22:=x21'.trans e22
  have sp2n:(some (⟨w21.heap.size,0,none⟩:Addr))≠none:=by simp
  have o22:=(o15.ext (zaa x21)).ext e22
  have apsp2:zbz (some (⟨w21.heap.size,0,none⟩:Addr)) p:=fun a b ha hb he=>by
    obtain rfl:=Option.some.inj ha
    have h5:=(o15.lt b hb).2
    have h6:=(zaa x21).size
    have h7:w21.heap.size=b.block:=he
    omega
  generalize (some (⟨w21.heap.size,0,none⟩:Addr))=sp2 at hc22 sp2n apsp2 ⊢
  have slen2:=zi1 44 pc
  have ssz2:∀ i q,(zan 44 pc)[i]?=some q->q.size+i<=pc.size:=fun i q h=>zhi h
  change zat w22 sp2 ((zan 44 pc).map Value.string) at hc22
  generalize zan 44 pc=S2 at hc22 slen2 ssz2 hfF
  generalize Lib.countB pc (one 44)=n2 at slen2 ⊢
  refine ⟨fun m w'=>Ext w w'/\0<=m/\m<=(n2+1:Nat)/\zat w' sp (S.map Value.string)/\zat w' q (zlP p)/\zat w' sp2 (S2.map Value.string)/\∃ x,Own w.heap.size w' zxm 5 p 1 1 (zJP (zhH cur k.toNat x))/\U x/\zqP (zlV k.toNat) (zmt k.toNat) 0 S2=zqP (zlV k.toNat) (zmt k.toNat) x (S2.drop m.toNat),
    fun m _=>(n2+1-m).toNat,⟨x22,by omega,by omega,(c15.ext (zaa x21)).ext e22,(q15.ext (zaa x21)).ext e22,hc22,0,by rw [zuK hkn (hz _ hkn (by omega))]; exact o22,u0,rfl⟩,?_⟩
  rintro m w28 ⟨x28,hm0,hm1,c28,q28,d28,x,o28,hux,hxF⟩
  refine ⟨fun hml=>?_,fun hmg=>?_⟩
  rotate_left
  · obtain rfl:m=((n2+1:Nat):Int):=by omega
    have hcu':CrU (zhH cur k.toNat x):=zjK.2 fun i hi=>by
      rw [zfI cur hkn hi]
      split
      · exact hux
      · exact zjK.1 hcu i hi
    refine ⟨i64 (by omega),⟨x28,by omega,by omega,c28,q28,zhH cur k.toNat x,o28,hcu',fun i hi h=>?_,fun i hi h=>?_⟩,by simp only []; omega⟩
    · rw [zfI cur hkn hi,if_neg (by omega)]
      exact hz i hi (by omega)
    · rw [zfI cur hkn hi]
      split
      · rename_i e; subst e
        rw [hfF,hxF,List.drop_eq_nil_of_le (by omega)]; rfl
      · exact hok i hi (by omega)
  obtain ⟨it,hit⟩:∃ it,S2[m.toNat]?=some it:=⟨_,List.getElem?_eq_getElem (by omega)⟩
  have hcell2:Go.Sx.cell w28 (pIdx sp2 m 1) 0=some (.string it):=by
    rw [zad]
    exact d28 _ _ (by simp [hit])
  have hisz:=ssz2 _ _ hit
  have hdrop:S2.drop m.toNat=it::S2.drop (m.toNat+1):=by
    rw [zoh ⟨#[]⟩ (by omega:m.toNat<S2.length),List.getD_eq_getElem?_getD,hit]; rfl
  rw [hdrop,zqP] at hxF
  refine ⟨sp2n,hm0,hml,_,hcell2,fun w30 x30=>?_⟩
  refine (zIE (pAdd p k.toNat) (zlV k.toNat) (zmt k.toNat) zGL (by omega) it (by omega) w30 ((g.ext x28).ext x30)).mono fun v w31 ⟨e31,set,b,hv,y1,z1⟩=>⟨e31,set,b,hv,fun hbf w34 x34=>hno (bx x28 x34) (.inr ⟨k.toNat,hkn,?_⟩),fun hbt=>?_⟩
  · rw [hfF,hxF,z1 hbf]
  obtain ⟨hF,hus⟩:=y1 hbt
  rw [hF] at hxF
  have hcx:Go.Sx.cell w28 (pAdd p k.toNat) 0=some (.int .u64 x):=by
    rw [zal,Nat.add_zero]
    have:=o28.cells k.toNat (.int .u64 x) (by
      rw [<- znx cur hkn x]
      rw [List.getElem?_set_self (by simpa using hkn)])
    exact this
  refine ⟨npk,_,hcx,npk,zb7 o28 (by simpa using hkn) rfl (fun b' hb' y hy=>?_) fun w35 o35 g35=>⟨i64 (by omega),⟨g35.ext x28 o28,by omega,by omega,c28.grew apsp g35,q28.grew apq g35,d28.grew apsp2 g35,zav .or .u64 x set,?_,U_or _ _,?_⟩,by simp only []; omega⟩⟩
  · simp only [List.mem_cons,List.mem_nil_iff,or_false] at hb'
    rcases hb' with rfl|rfl
    · exact hpb y hy
    · have:=(o15.lt y hy).2; omega
  · rw [<- zuJ cur k.toNat x,<- znx _ hkn]
    exact o35
  · rw [hxF,show (m+1).toNat=m.toNat+1 by omega]
def nxR (x:Cr) (t n e:Int):Prop:=(e=3/\n=0/\¬ zjJ x)\/(e=4/\n=0/\zjJ x/\¬ (-1<=t/\t<=5258964959)) \/
    (zjJ x/\-1<=t/\t<=5258964959/\((e=0/\t<n/\n<=5258964959/\mt x n/\∀ u,t<u->u<n->¬ mt x u)\/(e=5/\n=0/\∀ u,t<u->u<=5258964959->¬ mt x u)))
theorem nxR.one {x:Cr} {t n m e f:Int} (h:nxR x t n e) (g:nxR x t m f):n=m/\e=f:=by
  rcases h with ⟨h1,h2,h3⟩|⟨h1,h2,h3,h4⟩|⟨h1,h2,h3,h4⟩<;>rcases g with ⟨g1,g2,g3⟩|⟨g1,g2,g3,g4⟩|⟨g1,g2,g3,g4⟩
  · omega
  · exact absurd g3 h3
  · exact absurd g1 h3
  · exact absurd h3 g3
  · omega
  · omega
  · exact absurd h1 g3
  · omega
  · rcases h4 with ⟨a1,a2,a3,a4,a5⟩|⟨a1,a2,a3⟩<;>rcases g4 with ⟨b1,b2,b3,b4,b5⟩|⟨b1,b2,b3⟩
    · refine ⟨?_,by omega⟩
      rcases Int.lt_trichotomy n m with hl|hl|hl
      · exact absurd a4 (b5 n a2 hl)
      · exact hl
      · exact absurd b4 (a5 m b2 hl)
    · exact absurd a4 (b3 n a2 a3)
    · exact absurd b4 (a3 m b2 b3)
    · omega
def zzG:zDr:=fun ws σ c s σ'=>σ'=σ/\∃ n c1,zFn (ws.getD 1 ⟨#[]⟩) n c1/\((c1≠0/\c=c1)\/(c1=0/\∃ cr e,zq2 (znj ws 2) cr e/\((e≠0/\c=e)\/(e=0/\∃ t,nxR cr n t c/\s=ofL (Lib.itoa t)))))
theorem zut {s:ByteArray} {c:Cr} {e:Int} (h:zq2 s c e):zax e:=by
  unfold zax
  rcases h with ⟨_,h,_⟩|⟨_,⟨h,_⟩|⟨h,_⟩⟩<;>omega
theorem zt2 {x:Cr} {t n e:Int} (h:nxR x t n e):zax e/\0<=n+1/\n<=5258964959:=by
  unfold zax
  rcases h with ⟨h,h2,_⟩|⟨h,h2,_⟩|⟨_,h1,_,⟨h,_⟩|⟨h,_⟩⟩<;>omega
theorem zwj {ws:List ByteArray} {σ:DS} {c:Int} {s:ByteArray} {σ':DS} (h:zzG ws σ c s σ'):zax c:=by
  obtain ⟨_,n,c1,hn,⟨_,rfl⟩|⟨_,cr,e,hp,⟨_,rfl⟩|⟨_,t,ht,_⟩⟩⟩:=h
  · exact zlY hn
  · exact zut hp
  · exact (zt2 ht).1
theorem zv1 {ws:List ByteArray} {σ:DS} {c:Int} {s:ByteArray} {σ':DS} (h:zop ws σ c s σ'):zax c:=by
  unfold zop at h
  split at h
  · exact h.elim
  · obtain ⟨_,h⟩:=h
    split at h<;>(unfold zax; omega)
section
variable {O:Nat->Prop} {B db:Nat} {w:World} {K:Kt}
theorem next_c (x:KX O B w db K) (g:GD w) (wp:Option Addr) (wc:Nat) (ws:List ByteArray) (h7:ws.length=7) (hc:ws.length<=wc) (hsz:∀ y∈ws,y.size<=4294967281) (hw:zat w wp (ws.map Value.string)) :
    FnP Tryz.prog zhD #[.pointer (ptr db),.slice wp ws.length wc] w (CR O B db w K fun s c σ'=>zzG ws K.st c s σ'):=by
  have hsz1:(ws.getD 1 ⟨#[]⟩).size<=281474976710656:=by
    have:=hsz _ (zap ws ⟨#[]⟩ (i:=1) (by omega)); omega
  refine zl4 (ptr db) wp ws.length wc w _ fun w0 x0=>(zoM wp wc ws (by omega) hsz1 w0 (hw.ext x0) (g.gb.ext x0)).mono fun v w1 ⟨e1,n,ev,c1,hv,he,hn⟩=>⟨e1,n,ev,hv,fun w4 h4=>neE he fun b hb=>⟨Ext.refl _,b,rfl,fun hbt w7 h7=>?_,fun hbf=>⟨by omega,by omega,by omega,fun w7 x7=>?_⟩⟩⟩
  · have hc1:c1≠0:=fun h=>by rw [hb.2 h] at hbt; cases hbt
    exact zcg x ((x0.trans e1).trans h7) he ⟨rfl,n,c1,hn,.inl ⟨hc1,rfl⟩⟩
  have hc1:c1=0:=hb.1 hbf
  have x1:=x0.trans e1
  refine (zGX 2 (by omega) hc (by omega) hsz (hw.ext (x1.trans x7))).mono fun v w8 ⟨e8,hv,_⟩=>⟨e8,_,hv,fun w10 x10=>?_⟩
  refine (zDZ (znj ws 2) w10 (g.gb.ext (x1.trans x10))).mono fun v w11 ⟨e11,cr,e,hv,hU,hp⟩=>⟨e11,cr.a,cr.b,cr.c,cr.d,cr.e,e,hv,fun b18 hb18=>⟨fun hne w19 x19=>ztX ⟨Ext.refl _,_,rfl,rfl,fun w22 x22=>zzE ⟨Ext.refl _,_,rfl,fun w25 h25=>?_⟩⟩,fun hz w19 x19=>?_⟩⟩
  · exact zcg x (((x1.trans (zaa x19)).trans (zaa x22)).trans h25) (zzm hne) ⟨rfl,n,c1,hn,.inr ⟨hc1,cr,e,hp,.inl ⟨hne,rfl⟩⟩⟩
  refine (Next_k cr hU n w19 (g.gc.ext (x1.trans x19))).mono fun v w20 ⟨e20,t,c2,hv,hnx⟩=>⟨e20,t,c2,hv,fun w23 x23=>?_⟩
  have hnx:nxR cr n t c2:=hnx
  have hs:=zt2 hnx
  refine (zmO t (by omega) w23 (g.gb.ext (x1.trans x23))).mono fun v w24 ⟨e24,hv⟩=>⟨e24,_,hv,fun w26 x26=>(zpw c2 w26).mono fun v w27 ⟨e27,hE⟩=>⟨e27,v,rfl,fun w29 h29=>?_⟩⟩
  exact zcg x (((x1.trans (zaa x26)).trans e27).trans h29) hE ⟨rfl,n,c1,hn,.inr ⟨hc1,cr,e,hp,.inr ⟨hz,t,hnx,rfl⟩⟩⟩
end
abbrev dR:zDs:=zod zzG zop
theorem zkr (line:ByteArray):znU dR line:=by
  intro O B db K w1 pb wp b wc t2 x g hB hBw hcm hpb hpv hlen hcap hsh hw hszs
  have cmd:∀ {n:Int} {fl:Bool} {R:Value->World->Prop},zdC n fl R (.agg #[.int .i64 (sig b).1,.bool (sig b).2,t2]) w1->R t2 w1:=fun {n fl R} h=>by
    obtain ⟨f,bd,cap,e1,e2⟩:=h
    have e3:=zvD e1
    rw [e3]; exact e2
  by_cases h11:b=11
  · subst h11
    have e2:zbi ⟨db,0,none⟩ 210 t2:=cmd (show zdC 7 false (fun f _=>zbi ⟨db,0,none⟩ 210 f) _ w1 from hpv)
    exact ⟨210,_,_,e2,(next_c x g (some wp) wc _ hlen hcap (fun y hy=>by have:=hszs y hy; omega) hw).mono fun v w' h=>h.mono fun s c σ q=>⟨q,(zwj q).inR⟩⟩
  by_cases h55:b=55
  · subst h55
    have e2:zbi ⟨db,0,none⟩ 222 t2:=cmd (show zdC 2 true (fun f _=>zbi ⟨db,0,none⟩ 222 f) _ w1 from hpv)
    rcases K.cases with hK|⟨fb,P,F,hK⟩
    · have:=hsh rfl; rw [Kt.st_shut hK] at this; cases this
    · exact ⟨222,_,_,e2,(free_c x hK g (some wp) wc _ hlen hw).mono fun v w' h=>h.mono fun s c σ q=>⟨q,(zv1 q).inR⟩⟩
  exact zlI zzG zop line (fun h=>h11 (by rw [hcm] at h; injection h)) (fun h=>h55 (by rw [hcm] at h; injection h)) O B db K w1 pb wp b wc t2 x g hB hBw hcm hpb hpv hlen hcap hsh hw hszs
theorem zi2 (c:UInt8) (a:List UInt8) (l:List (List UInt8)) (h:∀ y∈a::l,c∉y):zan c (ofL (Lib.join (a::l) [c]))=(a::l).map ofL:=by
  obtain ⟨h1,h2⟩:=zdb (c:=c) l a h
  unfold zan
  rw [h1,h2]
theorem zkQ {s:ByteArray} {n m c e:Int} (h:zFn s n c) (g:zFn s m e):n=m/\c=e:=by
  rcases h with ⟨h1,h2,h3,h4,h5⟩|⟨h1,h2,h3⟩<;>rcases g with ⟨g1,g2,g3,g4,g5⟩|⟨g1,g2,g3⟩
  · exact ⟨zBQ ⟨h2,h3⟩ ⟨g2,g3⟩ (zlZ (h4.symm.trans g4)),by omega⟩
  · exact absurd h5 (g3 n h2 h3 h4)
  · exact absurd g5 (h3 m g2 g3 g4)
  · exact ⟨by omega,by omega⟩
theorem zoD:zan 32 ⟨#[111,112,101,110]⟩=[⟨#[111,112,101,110]⟩]:=zi2 32 [111,112,101,110] [] (by decide)
theorem zro:zfp ⟨#[111,112,101,110]⟩=some 7:=by kernel_rfl
theorem zxM {N Fr_:zDr} {L:List Ht} {a:ByteArray} {σ':DS} (h:doD (zod N Fr_) ⟨#[111,112,101,110]⟩ (.shut L) a σ'):a=⟨#[111,107]⟩/\σ'=.opn (zrV L zAi):=by
  obtain ⟨c,s,h,rfl⟩:=h
  rw [zoD] at h
  unfold doW at h
  have e:([(⟨#[111,112,101,110]⟩:ByteArray)]).getD 0 ⟨#[]⟩=⟨#[111,112,101,110]⟩:=rfl
  rw [e,zro] at h
  have h':zuq (.shut L) c s σ':=h
  obtain ⟨rfl,rfl,h3⟩:=h'
  exact ⟨rfl,h3⟩
theorem zqF (N Fr_:zDr):znU (zod N Fr_) ⟨#[111,112,101,110]⟩:=zlI N Fr_ _ (by rw [zoD]; intro h; exact absurd (zro.symm.trans h) (by decide)) (by rw [zoD]; intro h; exact absurd (zro.symm.trans h) (by decide))
theorem zBh (w:World) (g:GD w) (h6:11<=w.heap.size):FnP Tryz.prog zba #[] w fun v w'=>Ext w w'/\v=.bool true:=by
  refine zhW w _ fun w0 x0=>(zBi w0).mono fun v w1 ⟨e1,db,hv,x1⟩=>⟨e1,ptr db,hv,fun w3 x3=>?_⟩
  have hx:=e1.trans x3
  refine (Do_kD (zod (fun _ _ _ _ _=>False) (fun _ _ _ _ _=>False)) (x1.ext x3) (g.ext (x0.trans hx)) (Nat.le_trans h6 x0.size) hx.size _ (by show (4:Nat)<_; omega) (zqF _ _)).mono fun v w4 ⟨a,K',hv,hX,hF,hG,hD⟩=>⟨a,hv,fun w6 h6=>⟨?_,?_⟩⟩
  · exact (x0.trans ((x1.ext x3).keep hx (Nat.le_refl _) hF)).trans h6
  · rw [(zxM hD).1]; rfl
theorem zre (p q:Option Addr) (c d:Nat) (A B:List ByteArray) (h63:(A.length:Int)<=9223372036854775806) (w:World) (hA:zat w p (A.map Value.string)) (hB:zat w q (B.map Value.string)) :
    FnP Tryz.prog zaw #[.slice p A.length c,.slice q B.length d] w fun v w'=>Ext w w'/\v=.bool (decide (A=B)):=by
  refine zeA p A.length c q B.length d w _ ⟨fun hne w0 h0=>⟨h0,?_⟩,fun heq=>?_⟩
  · rw [decide_eq_false]
    intro h; exact hne (by rw [h])
  refine ⟨fun k w'=>w'=w/\0<=k/\k<=A.length/\A.take k.toNat=B.take k.toNat,fun k _=>(A.length-k).toNat,⟨rfl,by omega,by omega,by simp⟩,?_⟩
  rintro k w2 ⟨rfl,hk0,hk1,ht⟩
  refine ⟨fun hlt=>?_,fun hge w3 h3=>⟨h3,?_⟩⟩
  · obtain ⟨x,hx⟩:∃ x,A[k.toNat]?=some x:=⟨_,List.getElem?_eq_getElem (by omega)⟩
    obtain ⟨y,hy⟩:∃ y,B[k.toNat]?=some y:=⟨_,List.getElem?_eq_getElem (by omega)⟩
    have c1:Go.Sx.cell w2 (pIdx p k 1) 0=some (.string x):=by
      rw [zad]; exact hA _ _ (by simp [hx])
    have c2:Go.Sx.cell w2 (pIdx q k 1) 0=some (.string y):=by
      rw [zad]; exact hB _ _ (by simp [hy])
    refine ⟨fun h=>zak c1 (zah.2 h),hk0,hlt,x,c1,fun h=>zak c2 (zah.2 h),hk0,by omega,y,c2,fun hne w5 h5=>⟨h5,?_⟩,fun he=>⟨i64 (by omega),⟨rfl,by omega,by omega,?_⟩,by simp only []; omega⟩⟩
    · rw [decide_eq_false]
      intro h; rw [h,hy] at hx; injection hx with hx; exact hne hx.symm
    · rw [show (k+1).toNat=k.toNat+1 by omega,List.take_add_one,List.take_add_one,ht,hx,hy,he]
  · rw [decide_eq_true]
    rw [List.take_of_length_le (by omega),List.take_of_length_le (by omega)] at ht
    exact ht
def Fn1 (R:Int->ByteArray->DS->Prop):Prop:=∀ c s σ d t τ,R c s σ->R d t τ->c=d/\(c=0->s=t)/\σ=τ
def zHh (σ:DS) (R:Int->ByteArray->DS->Prop):Prop:=∀ c s τ,R c s τ->c≠0->τ=σ
theorem zCD {t:ByteArray} {e f:Int} {j k:Jb} (h:zFB t e j) (g:zFB t f k):e=f/\(e=0->j=k):=by
  obtain ⟨h1,h2,h3,h4⟩:=h
  obtain ⟨g1,g2,g3,g4⟩:=g
  by_cases hz:3000<t.size
  · have:=h1 hz; have:=g1 hz
    exact ⟨by omega,fun h=>by omega⟩
  · rcases h2 (by omega) with e0|e3
    · obtain ⟨q1,q2⟩:=g4 j (h3 e0) (by omega)
      exact ⟨by omega,fun _=>q2.symm⟩
    · rcases g2 (by omega) with f0|f3
      · obtain ⟨q1,q2⟩:=h4 k (g3 f0) (by omega)
        omega
      · exact ⟨by omega,fun h=>by omega⟩
theorem zDc {F:Fm} {n c d:Int} {σ τ:DS} (h:zsy F n c σ) (g:zsy F n d τ):c=d/\σ=τ:=by
  rcases h with ⟨h1,h2,h3⟩|⟨h1,h2,h3⟩<;>rcases g with ⟨g1,g2,g3⟩|⟨g1,g2,g3⟩
  · exact ⟨by omega,h3.trans g3.symm⟩
  · exact absurd g2 h2
  · exact absurd h2 g2
  · exact ⟨by omega,h3.trans g3.symm⟩
theorem zyw {ok:Bool} {F:Fm} {n c d:Int} {σ τ:DS} (h:zvo ok F n c σ) (g:zvo ok F n d τ):c=d/\σ=τ:=by
  rcases h with ⟨h1,h2,h3,h4⟩|⟨h1,h2,h3⟩<;>rcases g with ⟨g1,g2,g3,g4⟩|⟨g1,g2,g3⟩
  · exact ⟨h2.one g2,h4.trans g4.symm⟩
  · exact absurd g2 h3
  · exact absurd h2 g3
  · exact ⟨by omega,h3.trans g3.symm⟩
theorem zEn {F:Fm} {n c d:Int} {σ τ:DS} (h:zEm F n c σ) (g:zEm F n d τ):c=d/\σ=τ:=by
  rcases h with ⟨h1,h2,h3,h4⟩|⟨h1,h2,h3⟩<;>rcases g with ⟨g1,g2,g3,g4⟩|⟨g1,g2,g3⟩
  · exact ⟨h2.one g2,h4.trans g4.symm⟩
  · exact absurd g2 h3
  · exact absurd h2 g3
  · exact ⟨by omega,h3.trans g3.symm⟩
theorem zk6 {R:Fm->Int->Int->DS->Prop} (hR:∀ F n c d σ τ,R F n c σ->R F n d τ->c=d/\σ=τ) (word:ByteArray) (σ:DS):Fn1 fun c s τ=>zpb R word σ s c τ:=by
  rintro c s σ1 d t σ2 ⟨n,c1,hn,h⟩ ⟨m,d1,hm,g⟩
  obtain ⟨rfl,rfl⟩:=zkQ hn hm
  rcases h with ⟨h1,h2,h3⟩|⟨h1,h2,h3⟩<;>rcases g with ⟨g1,g2,g3⟩|⟨g1,g2,g3⟩
  · exact ⟨by omega,fun h=>by omega,h3.trans g3.symm⟩
  · exact absurd g1 h1
  · exact absurd h1 g1
  · refine ⟨?_,fun _=>h2.trans g2.symm,?_⟩<;>(cases σ with
      |shut L =>
        have h3:c=9/\σ1=.shut L:=h3
        have g3:d=9/\σ2=.shut L:=g3
        first|omega|exact h3.2.trans g3.2.symm
      |opn F =>
        obtain ⟨q1,q2⟩:=hR F n c d σ1 σ2 h3 g3
        first|exact q1|exact q2)
theorem zk7 {R:Fm->Int->Int->DS->Prop} (hR:∀ F n c τ,R F n c τ->c≠0->τ=.opn F) (word:ByteArray) (σ:DS):zHh σ fun c s τ=>zpb R word σ s c τ:=by
  rintro c s τ ⟨n,c1,hn,h⟩ hc
  rcases h with ⟨h1,h2,h3⟩|⟨h1,h2,h3⟩
  · exact h3
  · cases σ with
    |shut L => exact h3.2
    |opn F => exact hR F n c τ h3 hc
theorem zBG (a b c0:ByteArray) (σ:DS):Fn1 fun c s τ=>zv9 a b c0 σ c s τ:=by
  rintro c s σ1 d t σ2 ⟨n,e,hn,h⟩ ⟨m,f,hm,g⟩
  obtain ⟨rfl,rfl⟩:=hn.one hm
  rcases h with ⟨h1,h2,h3⟩|⟨h1,h2⟩<;>rcases g with ⟨g1,g2,g3⟩|⟨g1,g2⟩
  · exact ⟨by omega,fun h=>by omega,h3.trans g3.symm⟩
  · exact absurd g1 h1
  · exact absurd h1 g1
  · cases hl:zDJ c0 with
    |none =>
      rw [hl] at h2 g2
      exact ⟨by omega,fun h=>by omega,h2.2.trans g2.2.symm⟩
    |some l =>
      rw [hl] at h2 g2
      cases σ with
      |opn F =>
        have h2:c=9/\σ1=.opn F:=h2
        have g2:d=9/\σ2=.opn F:=g2
        exact ⟨by omega,fun h=>by omega,h2.2.trans g2.2.symm⟩
      |shut L =>
        have h2:c=zky (L++[znE a l n])/\((c≠0/\σ1=.shut L)\/(c=0/\s=⟨#[111,107]⟩/\σ1=.shut (L++[znE a l n]))):=h2
        have g2:d=zky (L++[znE a l n])/\((d≠0/\σ2=.shut L)\/(d=0/\t=⟨#[111,107]⟩/\σ2=.shut (L++[znE a l n]))):=g2
        have hcd:c=d:=h2.1.trans g2.1.symm
        rcases h2.2 with ⟨q1,q2⟩|⟨q1,q2,q3⟩<;>rcases g2.2 with ⟨r1,r2⟩|⟨r1,r2,r3⟩
        · exact ⟨hcd,fun h=>absurd h q1,q2.trans r2.symm⟩
        · exact absurd (hcd.trans r1) q1
        · exact absurd (hcd.symm.trans q1) r1
        · exact ⟨hcd,fun _=>q2.trans r2.symm,q3.trans r3.symm⟩
theorem zBH (a b c0:ByteArray) (σ:DS):zHh σ fun c s τ=>zv9 a b c0 σ c s τ:=by
  rintro c s τ ⟨n,e,hn,h⟩ hc
  rcases h with ⟨h1,h2,h3⟩|⟨h1,h2⟩
  · exact h3
  · cases hl:zDJ c0 with
    |none => rw [hl] at h2; exact h2.2
    |some l =>
      rw [hl] at h2
      cases σ with
      |opn F => exact h2.2
      |shut L =>
        have h2:c=zky (L++[znE a l n])/\((c≠0/\τ=.shut L)\/(c=0/\s=⟨#[111,107]⟩/\τ=.shut (L++[znE a l n]))):=h2
        rcases h2.2 with ⟨_,q⟩|⟨q,_⟩
        · exact q
        · exact absurd q hc
theorem zCk (σ:DS):Fn1 fun c s τ=>zuq σ c s τ:=by
  intro c s σ1 d t σ2 h g
  cases σ with
  |shut L => exact ⟨h.1.trans g.1.symm,fun _ => h.2.1.trans g.2.1.symm,h.2.2.trans g.2.2.symm⟩
  |opn F =>
    have h:c=9/\σ1=.opn F:=h
    have g:d=9/\σ2=.opn F:=g
    exact ⟨by omega,fun h=>by omega,h.2.trans g.2.symm⟩
theorem zCl (σ:DS):zHh σ fun c s τ=>zuq σ c s τ:=by
  intro c s τ h hc
  cases σ with
  |shut L => exact absurd h.1 hc
  |opn F => exact h.2
theorem zCz (σ:DS):Fn1 fun c s τ=>zuz σ c s τ:=by
  intro c s σ1 d t σ2 h g
  cases σ with
  |shut L => exact h.elim
  |opn F =>
    obtain ⟨rfl,G,o,h1,rfl,rfl⟩:=h
    obtain ⟨rfl,G',o',g1,rfl,rfl⟩:=g
    obtain ⟨rfl,rfl⟩:=zj3 h1 g1
    exact ⟨rfl,fun _=>rfl,rfl⟩
theorem zCA (σ:DS):zHh σ fun c s τ=>zuz σ c s τ:=by
  intro c s τ h hc
  cases σ with
  |shut L => exact h.elim
  |opn F => exact absurd h.1 hc
theorem zCR (word:ByteArray) (σ:DS):Fn1 fun c s τ=>zzW word σ c s τ:=by
  rintro c s σ1 d t σ2 ⟨rfl,n,c1,hn,h⟩ ⟨rfl,m,d1,hm,g⟩
  obtain ⟨rfl,rfl⟩:=zkQ hn hm
  rcases h with ⟨h1,h2⟩|⟨h1,h2⟩<;>rcases g with ⟨g1,g2⟩|⟨g1,g2⟩
  · exact ⟨by omega,fun h=>by omega,rfl⟩
  · exact absurd g1 h1
  · exact absurd h1 g1
  · cases σ2 with
    |shut L =>
      have h2:c=9:=h2
      have g2:d=9:=g2
      exact ⟨by omega,fun h=>by omega,rfl⟩
    |opn F =>
      rcases h2 with ⟨q1,q2,q3⟩|⟨q1,q2⟩<;>rcases g2 with ⟨r1,r2,r3⟩|⟨r1,r2⟩
      · exact ⟨by omega,fun _=>q3.trans r3.symm,rfl⟩
      · exact absurd q1 r1
      · exact absurd r1 q1
      · exact ⟨by omega,fun h=>by omega,rfl⟩
theorem zwT (w:ByteArray) (σ:DS):Fn1 fun c s τ=>zhp w σ c s τ:=by
  intro c s σ1 d t σ2 h g
  cases σ with
  |shut L => exact h.elim
  |opn F =>
    obtain ⟨e,j,hr,h⟩:=h
    obtain ⟨f,k,gr,g⟩:=g
    obtain ⟨rfl,hj⟩:=zCD hr gr
    rcases h with ⟨h1,h2,h3⟩|⟨h1,h2,h3⟩<;>rcases g with ⟨g1,g2,g3⟩|⟨g1,g2,g3⟩
    · exact ⟨by omega,fun h=>by omega,h3.trans g3.symm⟩
    · exact absurd g1 h1
    · exact absurd h1 g1
    · obtain rfl:=hj h1
      have hcd:=h2.one g2
      rcases h3 with ⟨q1,q2⟩|⟨q1,q2,q3⟩<;>rcases g3 with ⟨r1,r2⟩|⟨r1,r2,r3⟩
      · exact ⟨hcd,fun h=>absurd h q1,q2.trans r2.symm⟩
      · exact absurd (hcd.trans r1) q1
      · exact absurd (hcd.symm.trans q1) r1
      · exact ⟨hcd,fun _=>q2.trans r2.symm,q3.trans r3.symm⟩
theorem zwU (w:ByteArray) (σ:DS):zHh σ fun c s τ=>zhp w σ c s τ:=by
  intro c s τ h hc
  cases σ with
  |shut L => exact h.elim
  |opn F =>
    obtain ⟨e,j,hr,⟨_,_,h⟩|⟨_,_,⟨_,h⟩|⟨h,_⟩⟩⟩:=h
    · exact h
    · exact h
    · exact absurd h hc
theorem zCd (ws:List ByteArray) (σ:DS):Fn1 fun c s τ=>zzG ws σ c s τ:=by
  rintro c s σ1 d t σ2 ⟨rfl,n,c1,hn,h⟩ ⟨rfl,m,d1,hm,g⟩
  obtain ⟨rfl,rfl⟩:=zkQ hn hm
  rcases h with ⟨h1,h2⟩|⟨h1,cr,e,h2,h3⟩<;>rcases g with ⟨g1,g2⟩|⟨g1,cs,f,g2,g3⟩
  · exact ⟨by omega,fun h=>by omega,rfl⟩
  · exact absurd g1 h1
  · exact absurd h1 g1
  · obtain ⟨rfl,rfl⟩:=h2.one g2
    rcases h3 with ⟨q1,q2⟩|⟨q1,x,q2,q3⟩<;>rcases g3 with ⟨r1,r2⟩|⟨r1,y,r2,r3⟩
    · exact ⟨by omega,fun h=>by omega,rfl⟩
    · exact absurd r1 q1
    · exact absurd q1 r1
    · obtain ⟨rfl,rfl⟩:=q2.one r2
      exact ⟨rfl,fun _=>q3.trans r3.symm,rfl⟩
theorem zBw (ws:List ByteArray) (σ:DS):Fn1 fun c s τ=>zop ws σ c s τ:=by
  intro c s σ1 d t σ2 h g
  cases σ with
  |shut L => exact h.elim
  |opn F =>
    obtain ⟨h1,h2⟩:=h
    obtain ⟨g1,g2⟩:=g
    cases hn:zrT F.hosts (ws.getD 1 ⟨#[]⟩) with
    |none =>
      rw [hn] at h2 g2
      have h2:c=5:=h2
      have g2:d=5:=g2
      exact ⟨by omega,fun h=>by omega,h1.trans g1.symm⟩
    |some x =>
      rw [hn] at h2 g2
      exact ⟨h2.1.trans g2.1.symm,fun _=>h2.2.trans g2.2.symm,h1.trans g1.symm⟩
theorem dR_one (b:Nat) (ws:List ByteArray) (σ:DS):Fn1 fun c s τ=>dR b ws σ c s τ:=by
  intro c s σ1 d t σ2 h g
  unfold dR zod at h
  split at h
  · exact zBG _ _ _ _ c s σ1 d t σ2 h g
  · exact zCk _ c s σ1 d t σ2 h g
  · exact zCd _ _ c s σ1 d t σ2 h g
  · exact zwT _ _ c s σ1 d t σ2 h g
  · exact zk6 (R:=zsy) (fun _ _ _ _ _ _=>zDc) _ _ c s σ1 d t σ2 h g
  · exact zCz _ c s σ1 d t σ2 h g
  · exact zk6 (R:=zvo true) (fun _ _ _ _ _ _=>zyw) _ _ c s σ1 d t σ2 h g
  · exact zk6 (R:=zvo false) (fun _ _ _ _ _ _=>zyw) _ _ c s σ1 d t σ2 h g
  · exact zk6 (R:=zEm) (fun _ _ _ _ _ _=>zEn) _ _ c s σ1 d t σ2 h g
  · exact zCR _ _ c s σ1 d t σ2 h g
  · exact zBw _ _ c s σ1 d t σ2 h g
  · exact h.elim
theorem zDd {F:Fm} {n c:Int} {τ:DS} (h:zsy F n c τ) (hc:c≠0):τ=.opn F:=by
  rcases h with ⟨_,_,h⟩|⟨h,_⟩
  · exact h
  · exact absurd h hc
theorem zyx {ok:Bool} {F:Fm} {n c:Int} {τ:DS} (h:zvo ok F n c τ) (hc:c≠0):τ=.opn F:=by
  rcases h with ⟨_,_,_,h⟩|⟨h,_⟩
  · exact h
  · exact absurd h hc
theorem zEo {F:Fm} {n c:Int} {τ:DS} (h:zEm F n c τ) (hc:c≠0):τ=.opn F:=by
  rcases h with ⟨_,_,_,h⟩|⟨h,_⟩
  · exact h
  · exact absurd h hc
theorem dR_ref (b:Nat) (ws:List ByteArray) (σ:DS):zHh σ fun c s τ=>dR b ws σ c s τ:=by
  intro c s τ h hc
  unfold dR zod at h
  split at h
  · exact zBH _ _ _ _ c s _ h hc
  · exact zCl _ c s _ h hc
  · exact h.1
  · exact zwU _ _ c s _ h hc
  · exact zk7 (R:=zsy) (fun _ _ _ _=>zDd) _ _ c s _ h hc
  · exact zCA _ c s _ h hc
  · exact zk7 (R:=zvo true) (fun _ _ _ _=>zyx) _ _ c s _ h hc
  · exact zk7 (R:=zvo false) (fun _ _ _ _=>zyx) _ _ c s _ h hc
  · exact zk7 (R:=zEm) (fun _ _ _ _=>zEo) _ _ c s _ h hc
  · exact h.1
  · unfold zop at h
    split at h
    · exact h.elim
    · exact h.1
  · exact h.elim
theorem zH4 (ws:List ByteArray) (σ:DS):Fn1 fun c s τ=>doW dR ws σ c s τ:=by
  intro c s σ1 d t σ2 h g
  unfold doW at h g
  cases hcm:zfp (ws.getD 0 ⟨#[]⟩) with
  |none =>
    rw [hcm] at h g
    exact ⟨h.1.trans g.1.symm,fun h0=>by have:=h.1; omega,h.2.trans g.2.symm⟩
  |some b =>
    rw [hcm] at h g
    simp only [] at h g
    by_cases h1:ws.length≠(sig b).1
    · rw [if_pos h1] at h g
      exact ⟨h.1.trans g.1.symm,fun h0=>by have:=h.1; omega,h.2.trans g.2.symm⟩
    · rw [if_neg h1] at h g
      by_cases h2:(sig b).2=true/\σ.isShut=true
      · rw [if_pos h2] at h g
        exact ⟨h.1.trans g.1.symm,fun h0=>by have:=h.1; omega,h.2.trans g.2.symm⟩
      · rw [if_neg h2] at h g
        exact dR_one b ws σ c s σ1 d t σ2 h g
theorem zH5 (ws:List ByteArray) (σ:DS):zHh σ fun c s τ=>doW dR ws σ c s τ:=by
  intro c s τ h hc
  unfold doW at h
  split at h
  · exact h.2
  · split at h
    · exact h.2
    · split at h
      · exact h.2
      · exact dR_ref _ ws σ c s τ h hc
theorem zH2 {line:ByteArray} {σ σ1 σ2:DS} {a b:ByteArray} (h:doD dR line σ a σ1) (g:doD dR line σ b σ2):a=b/\σ1=σ2:=by
  obtain ⟨c,s,h,rfl⟩:=h
  obtain ⟨d,t,g,rfl⟩:=g
  obtain ⟨rfl,h2,h3⟩:=zH4 _ σ c s σ1 d t σ2 h g
  refine ⟨?_,h3⟩
  unfold zvE
  by_cases hc:c=0
  · rw [if_pos hc,if_pos hc,h2 hc]
  · rw [if_neg hc,if_neg hc]
def za0:List ByteArray->DS->List ByteArray->DS->Prop
  |[],σ,us,σ' => us=[]/\σ'=σ
  |l::ls,σ,us,σ' => ∃ a us' σ1,us=a::us'/\doD dR l σ a σ1/\za0 ls σ1 us' σ'
theorem za0.app {L2:List ByteArray}:∀ {L1:List ByteArray} {σ σ':DS} {us:List ByteArray},za0 (L1++L2) σ us σ'↔∃ u1 u2 σ1,us=u1++u2/\za0 L1 σ u1 σ1/\za0 L2 σ1 u2 σ'
  |[],σ,σ',us => by
    constructor
    · intro h; exact ⟨[],us,σ,rfl,⟨rfl,rfl⟩,h⟩
    · rintro ⟨u1,u2,σ1,rfl,⟨rfl,rfl⟩,h⟩; exact h
  |l::L1,σ,σ',us => by
    constructor
    · rintro ⟨a,us',σ1,rfl,hd,h⟩
      obtain ⟨u1,u2,σ2,rfl,h1,h2⟩:=za0.app.1 h
      exact ⟨a::u1,u2,σ2,rfl,⟨a,u1,σ1,rfl,hd,h1⟩,h2⟩
    · rintro ⟨u1,u2,σ2,rfl,⟨a,u1',σ1,rfl,hd,h1⟩,h2⟩
      exact ⟨a,u1'++u2,σ1,rfl,hd,za0.app.2 ⟨u1',u2,σ2,rfl,h1,h2⟩⟩
theorem za0.of {ls us:List ByteArray} {σ σ':DS} (h:zcI dR ls σ us σ'):za0 ls σ us σ':=by
  induction h with
  |nil => exact ⟨rfl,rfl⟩
  |snoc hp hd ih => exact za0.app.2 ⟨_,_,_,rfl,ih,_,[],_,rfl,hd,rfl,rfl⟩
theorem za0.one:∀ {ls us vs:List ByteArray} {σ σ1 σ2:DS},za0 ls σ us σ1->za0 ls σ vs σ2->us=vs/\σ1=σ2
  |[],us,vs,σ,σ1,σ2,h,g => ⟨h.1.trans g.1.symm,h.2.trans g.2.symm⟩
  |l::ls,us,vs,σ,σ1,σ2,h,g => by
    obtain ⟨a,u,τ,rfl,hd,h⟩:=h
    obtain ⟨b,v,τ',rfl,gd,g⟩:=g
    obtain ⟨rfl,rfl⟩:=zH2 hd gd
    obtain ⟨rfl,h2⟩:=za0.one h g
    exact ⟨rfl,h2⟩
theorem za0.len:∀ {ls us:List ByteArray} {σ σ':DS},za0 ls σ us σ'->us.length=ls.length
  |[],us,σ,σ',h => by rw [h.1]
  |l::ls,us,σ,σ',h => by
    obtain ⟨a,u,τ,rfl,_,h⟩:=h
    simp [za0.len h]
theorem za0.skip {L1 L2 us vs:List ByteArray} {l:ByteArray} {σ σ1 σ2:DS} (h:za0 (L1++l::L2) σ us σ1) (g:za0 (L1++L2) σ vs σ2) (hs:∀ τ a τ',za0 L1 σ (us.take L1.length) τ->us[L1.length]?=some a->doD dR l τ a τ'->τ'=τ):vs=us.eraseIdx L1.length:=by
  obtain ⟨u1,u2,τ,rfl,h1,a,u3,τ1,rfl,hd,h2⟩:=za0.app.1 h
  obtain ⟨v1,v2,τ2,rfl,g1,g2⟩:=za0.app.1 g
  obtain ⟨rfl,rfl⟩:=h1.one g1
  have hl:=h1.len
  have ht:(u1++a::u3).take L1.length=u1:=by rw [<- hl]; simp
  have hg:(u1++a::u3)[L1.length]?=some a:=by rw [<- hl]; simp
  obtain rfl:=hs τ a τ1 (by rw [ht]; exact h1) hg hd
  obtain ⟨rfl,_⟩:=h2.one g2
  rw [<- hl,List.eraseIdx_append_of_length_le (Nat.le_refl _)]
  simp
theorem zyG {W:World} {p:Option Addr} {l c:Nat} (h:zbL Tryz.prog W zar p l c):∃ L:List ByteArray,L.length=l/\(L.length:Int)<=9223372036854775807/\l<=c/\zat W p (L.map Value.string):=by
  obtain ⟨L,h1,h2,h3⟩:=h.list (α:=ByteArray) (fun x=>[Value.string x]) (fun _=>True) (fun n es hg he=>by
    have hlv:=zcT (P:=Tryz.prog) 6 zar [zar] n es (by kernel_rfl) hg
    obtain ⟨v0,r0,rfl,l0,hlv⟩:=zaq hlv
    obtain rfl:=zis hlv
    obtain ⟨a,rfl,_⟩:=zd5 (by kernel_rfl) l0
    exact ⟨a,rfl,trivial⟩)
  refine ⟨L,h1,?_,h.le,fun i v hv=>?_⟩
  · have:=h.le; have:=h.max; omega
  · rw [List.getElem?_map,Option.map_eq_some_iff] at hv
    obtain ⟨x,hx,rfl⟩:=hv
    have:=h3 i x hx 0 _ rfl
    rw [show Tryz.prog.cellsOf zar=1 by kernel_rfl] at this
    simpa using this
theorem zfe (p:Option Addr) (c:Nat):pCut p c 0 1=p:=by
  unfold pCut
  split
  · rfl
  · cases p<;>simp [add_zero]
theorem zBB {w:World} (g:GD w):11<=w.heap.size:=by
  have h:=g.gc.2 0 (by omega)
  obtain ⟨a,ha,hb,_⟩:=zdn h
  obtain rfl:=Option.some.inj ha
  exact hb
def zn1 (W:World) (p:Option Addr) (n:Nat):Prop:=∀ (i:Nat) (t:ByteArray),i<n->Go.Sx.cell W p i=some (.string t)->t.size<=1048576
theorem zn1.all {W:World} {p:Option Addr} {L:List ByteArray} (h:zn1 W p L.length) (hc:zat W p (L.map Value.string)):∀ x∈L,x.size<4294967281:=fun x hx=>by
  obtain ⟨i,hi⟩:=List.mem_iff_getElem?.1 hx
  have:=h i x (List.getElem?_eq_some_iff.1 hi).1 (hc i _ (by rw [List.getElem?_map,hi]; rfl))
  omega
end Go.Proofs.YtcceeahmcecbnaaGreatDoor
namespace Go.Proofs.YtcceeahmcecbnaaGreatDoor
open Go.Sx Go.RowKit Go.ChangeShapes Go.WideShapes Go.ChangeAt
def zwS (ss:List ByteArray):DataW Unit:=.agg (ss.map fun s=>.lit (.string s.data.toList))
theorem zrn {enc:TypeId×Value->Unit} {P:Program} {w:World} {base:Nat} {sp:Nat->Bool} {held:Bool} {fuel:Nat} {t e:TypeId} {n:Nat} {cs:List Value} {ss:List ByteArray} {p:List MemPlace}
    (ht:P.underlying t=some (.array n e)) (he:P.underlying e=some .string) (hce:P.cellsOf e=1) (hct:P.cellsOf t=n)
    (h:DataW.trod enc P w base sp held fuel t cs=some (zwS ss,p)):cs=ss.map Value.string:=by
  cases fuel with
  |zero => simp [DataW.trod] at h
  |succ fuel =>
    simp only [DataW.trod,ht,hce,hct,Nat.mul_one] at h
    split at h
    · rename_i hl
      obtain ⟨xs,hm,hx⟩:=Option.map_eq_some_iff.1 h
      have hxs:xs.map (·.1)=ss.map fun s=>(DataW.lit (.string s.data.toList):DataW Unit):=by
        have:=congrArg Prod.fst hx
        simpa [zwS] using this
      have hxl:xs.length=n:=by simpa using Lib.mapM_length hm
      have hzl:ss.length=n:=by
        have:=congrArg List.length hxs
        simp at this
        omega
      apply List.ext_getElem?
      intro i
      by_cases hi:i<n
      · obtain ⟨b,hb,hf⟩:=Lib.mapM_at hm i i (by simp [hi])
        obtain ⟨s,hc,rfl,_⟩:=DataW.trod_string he hf
        have h1:cs[i]?=some (.string s):=by
          have:=congrArg (·[0]?) hc
          simpa [List.getElem?_take,List.getElem?_drop] using this
        have h2:(xs.map (·.1))[i]?=some (DataW.lit (.string s.data.toList):DataW Unit):=by simp [hb]
        rw [hxs] at h2
        simp only [List.getElem?_map,Option.map_eq_some_iff,DataW.lit.injEq,Lit.string.injEq] at h2
        obtain ⟨z',hz',he'⟩:=h2
        have:z'=s:=by
          have:=congrArg ofL he'
          rwa [zbM,zbM] at this
        subst this
        simp [h1,hz']
      · rw [List.getElem?_eq_none (by omega),List.getElem?_eq_none (by simp; omega)]
    · cases h
theorem zzz {P:Program} {W:World} {l:List (String×DataW Unit)} (h:laidMet P l W) (hp:(l.all fun x=>x.2.handleName?.isNone)=true):laidMetH P l W:=by
  have hnone:(l.filter fun x=>x.2.handleName?.isSome)=[]:=by
    rw [List.filter_eq_nil_iff]
    intro a ha hs
    have:=List.all_eq_true.1 hp a ha
    cases hh:a.2.handleName?<;>simp_all
  unfold laidMetH
  rw [hnone]
  exact h
theorem zBX {P:Program} {W:World} {l:List (String×DataW Unit)} (h:laidMet P l W) {name:String} {ss:List ByteArray}
    (hm:(name,zwS ss)∈l) {g:Nat} {t e:TypeId} {n:Nat} (hg:P.globalNamed name=some g) (hty:(P.globals[g]?).map (·.type)=some t)
    (ht:P.underlying t=some (.array n e)) (he:P.underlying e=some .string) (hce:P.cellsOf e=1) (hct:P.cellsOf t=n):zat W (some ⟨g,0,none⟩) (ss.map Value.string):=by
  obtain ⟨ps,hL,_⟩:=h
  obtain ⟨g',t',cs,fuel,p,h1,h2,h3,h4⟩:=zee hL _ hm
  obtain rfl:=Option.some.inj (hg.symm.trans h1)
  obtain rfl:=Option.some.inj (hty.symm.trans h2)
  have hcs:=zrn ht he hce hct h4
  intro i v hv
  have h5:=World.var?_cell hg h3 i
  have hlen:cs[i]?=some v:=by
    have:cs.toList[i]?=some v:=by rw [hcs]; exact hv
    simpa using this
  rw [hlen] at h5
  have ha:(Addr.add ⟨g,0,none⟩ i)=⟨g,i,none⟩:=by
    unfold Addr.add
    by_cases h0:i=0
    · subst h0; rfl
    · rw [if_neg h0]; simp
  show W.cell? (Addr.add ⟨g,0,none⟩ i)=some v
  rw [ha]; exact h5
theorem zuR {P:Program} {W:World} {name:String} {zs:List Int} {k:IntKind} (h:Lib.TabIs P W name k zs) {g:Nat} (hg:P.globalNamed name=some g):zat W (some ⟨g,0,none⟩) (zs.map fun z=>Value.int k z):=by
  intro i v hv
  have h5:=World.var?_cell hg h i
  have hlen:((zs.map fun z=>Value.int k z).toArray)[i]?=some v:=by simpa using hv
  rw [hlen] at h5
  have ha:(Addr.add ⟨g,0,none⟩ i)=⟨g,i,none⟩:=by
    unfold Addr.add
    by_cases h0:i=0
    · subst h0; rfl
    · rw [if_neg h0]; simp
  show W.cell? (Addr.add ⟨g,0,none⟩ i)=some v
  rw [ha]; exact h5
def lD : List (String × DataW Unit) := [("math/bits.deBruijn32tab", Rows.laid_math_bits_deBruijn32tab), ("math/bits.deBruijn64tab", Rows.laid_math_bits_deBruijn64tab), ("internal/strconv.uint64pow10", Rows.laid_internal_strconv_uint64pow10), ("shiftbell/civil.ahead", Rows.laid_shiftbell_civil_ahead), ("unicode/utf8.acceptRanges", Rows.laid_unicode_utf8_acceptRanges), ("errors.errorType", Rows.laid_errors_errorType), ("strconv.ErrRange", Rows.laid_strconv_ErrRange), ("strconv.ErrSyntax", Rows.laid_strconv_ErrSyntax), ("shiftbell/desk.whats", Rows.laid_shiftbell_desk_whats), ("unicode/utf8.first", Rows.laid_unicode_utf8_first)]
def lD9 : List (String × DataW Unit) := [("math/bits.deBruijn32tab", Rows.laid_math_bits_deBruijn32tab), ("math/bits.deBruijn64tab", Rows.laid_math_bits_deBruijn64tab), ("internal/strconv.uint64pow10", Rows.laid_internal_strconv_uint64pow10), ("shiftbell/civil.ahead", Rows.laid_shiftbell_civil_ahead), ("unicode/utf8.acceptRanges", Rows.laid_unicode_utf8_acceptRanges), ("strconv.ErrRange", Rows.laid_strconv_ErrRange), ("strconv.ErrSyntax", Rows.laid_strconv_ErrSyntax), ("shiftbell/desk.whats", Rows.laid_shiftbell_desk_whats), ("unicode/utf8.first", Rows.laid_unicode_utf8_first)]
theorem zFd {W : World} (h : laidMetH Tryz.prog lD W) : laidMet Tryz.prog lD9 W /\ handlesMet Tryz.prog [("errors.errorType", Rows.laid_errors_errorType)] W := by
  have e1 : (lD.filter fun x => x.2.handleName?.isSome) = [("errors.errorType", Rows.laid_errors_errorType)] := by kernel_rfl
  have e2:(lD.filter fun x=>x.2.handleName?.isNone)=lD9:=by kernel_rfl
  unfold laidMetH at h
  rw [e1,e2] at h
  exact h
theorem zIm {W : World} (h : handlesMet Tryz.prog [("errors.errorType", Rows.laid_errors_errorType)] W) : Go.Sx.cell W (some ⟨0, 0, none⟩) 0 = some errT := by
  obtain ⟨name,u,ty,e1,e2,e3,e4,e5⟩:=h _ (List.mem_singleton.2 rfl)
  have en:name=[101,114,114,111,114]:=(Option.some.inj e1).symm
  subst en
  have hrt : (Tryz.prog.cutTypes.find? (·.1 == "internal/reflectlite.rtype")).map (·.2) = some 329 := by kernel_rfl
  obtain rfl:=Option.some.inj (hrt.symm.trans e2)
  have hsz:Tryz.prog.types.size=439:=by kernel_rfl
  have hone:((List.range 439).filter fun t=>Tryz.prog.rowNamed t [101,114,114,111,114])=[175]:=by kernel_rfl
  have hm:ty∈(List.range 439).filter fun t=>Tryz.prog.rowNamed t [101,114,114,111,114]:=List.mem_filter.2 ⟨List.mem_range.2 (by rw [<- hsz]; exact e3),e4⟩
  rw [hone] at hm
  obtain rfl:=List.mem_singleton.1 hm
  have hh:typeHandle Tryz.prog 175=.pointer (some ⟨11,175,none⟩):=by kernel_rfl
  rw [hh] at e5
  have et : Tryz.prog.globalNamed "errors.errorType" = some 0 := by kernel_rfl
  have:=World.var?_cell et e5 0
  exact zfX (this.trans (by unfold errT; rfl))
theorem laid_okD {W:World} (h:laidMetH Tryz.prog lD W) (hsp:W.ShapedOpen Tryz.prog):GD W:=by
  obtain ⟨h9,hh⟩:=zFd h
  have hp:(lD9.all fun x=>x.2.handleName?.isNone)=true:=by kernel_rfl
  have h9':=zzz h9 hp
  refine ⟨gb_of h9' hsp hp (by simp [lD9]) (by simp [lD9]) (by simp [lD9]),?_,zIm hh,?_,?_⟩
  · have hm : ("shiftbell/desk.whats", (Rows.laid_shiftbell_desk_whats : DataW Unit)) ∈ lD9 := by simp [lD9]
    exact zBX h9 (name := "shiftbell/desk.whats") (ss := zqb) (by exact hm) (g := 4) (t := (Tryz.prog.globals[4]?).elim 0 (·.type)) (e := 9) (n := 6) (by kernel_rfl) (by kernel_rfl) (by kernel_rfl) (by kernel_rfl) (by kernel_rfl) (by kernel_rfl)
  · have hm : ("math/bits.deBruijn64tab", (Rows.laid_math_bits_deBruijn64tab : DataW Unit)) ∈ lD9 := by simp [lD9]
    have ht := zuR (zrO h9' hp (name := "math/bits.deBruijn64tab") (k := .u8) (zs := Lib.deBruijn64tab.map Int.ofNat) (by exact hm) (g := 9) (t := (Tryz.prog.globals[9]?).elim 0 (·.type)) (e := 5) (n := 64) (by kernel_rfl) (by kernel_rfl) (by kernel_rfl) (by kernel_rfl) (by kernel_rfl) (by kernel_rfl)) (g := 9) (by kernel_rfl)
    intro i hi
    refine ht i _ ?_
    have hl:i<Lib.deBruijn64tab.length:=hi
    rw [List.getElem?_map,List.getElem?_map,List.getD_eq_getElem?_getD,List.getElem?_eq_getElem hl]
    rfl
  · have hm : ("shiftbell/civil.ahead", (Rows.laid_shiftbell_civil_ahead : DataW Unit)) ∈ lD9 := by simp [lD9]
    have ht := zuR (zrO h9' hp (name := "shiftbell/civil.ahead") (k := .i64) (zs := [0, 0, 31, 59, 90, 120, 151, 181, 212, 243, 273, 304, 334]) (by exact hm) (g := 10) (t := (Tryz.prog.globals[10]?).elim 0 (·.type)) (e := 3) (n := 13) (by kernel_rfl) (by kernel_rfl) (by kernel_rfl) (by kernel_rfl) (by kernel_rfl) (by kernel_rfl)) (g := 10) (by kernel_rfl)
    intro i hi
    refine ht i _ ?_
    match i,hi with
    |0,_|1,_|2,_|3,_|4,_|5,_|6,_|7,_|8,_|9,_|10,_|11,_|12,_ => rfl
theorem strs_bulk {H:Type} {enc:TypeId×Value->H} {w:World} {n:Nat} {p:Option Addr} {l c:Nat} {d:DataW H} {ps:List MemPlace}
    (h:DataW.trod enc Tryz.prog w 0 (fun _=>true) true n zvC [.slice p l c]=some (d,ps)) (hb:Rows.uptoBulk d<=1048576):zn1 w p l:=by
  obtain ⟨m,es,h1,h2,h3⟩:=zj7 (e:=zar) (by kernel_rfl) h
  intro i t hi ht
  obtain ⟨a,rfl⟩:∃ a,p=some a:=by
    cases p with
    |none => simp [Go.Sx.cell] at ht
    |some a => exact ⟨a,rfl⟩
  obtain ⟨cs,x,qs,hcs,hx,htr⟩:=h3 a rfl i hi
  rw [show Tryz.prog.cellsOf zar=1 by kernel_rfl,Nat.mul_one] at hcs
  obtain ⟨s,hcs',hxq,_⟩:=DataW.trod_string (t:=zar) (by kernel_rfl) htr
  obtain rfl:x=.lit (.string s.data.toList):=congrArg Prod.fst hxq
  obtain ⟨hl,hc⟩:=cells?_some hcs
  have hc0:=hc 0 (.string s) (by rw [hcs']; rfl)
  have hst:s=t:=by
    have e:(a.add i).add 0=a.add i:=add_zero _
    have ht':w.cell? (a.add i)=some (.string t):=ht
    have hc0':Go.Sx.cell w (some (a.add i)) 0=some (.string s):=hc0
    simp only [Go.Sx.cell,Option.bind_some] at hc0'
    rw [e] at hc0'
    rw [hc0'] at ht'
    injection ht' with q
    injection q
  subst hst
  have hbm:=zkq (List.mem_of_getElem? hx)
  have:Rows.uptoBulk (DataW.lit (.string s.data.toList):DataW H)=s.size+1:=by simp [Rows.uptoBulk]
  rw [this] at hbm
  omega
noncomputable def preD (os:Os):World:=(World.holding Tryz.prog os ⟨#[],#[],[]⟩).setCell ⟨0,0,none⟩ errT
noncomputable def zCW (os:Os):World:=(preD os).layVars Tryz.prog lD9
theorem startD_os (os:Os):(zCW os).os=os:=World.layVars_os _ _ _
theorem door_D (os:Os) (args:Array Value):laidMetH Tryz.prog lD ((zCW os).forCall (fun _ _=>0) ⟨#[],args,[]⟩).memory:=by
  have e1 : (lD.filter fun x => x.2.handleName?.isSome) = [("errors.errorType", Rows.laid_errors_errorType)] := by kernel_rfl
  have e2:(lD.filter fun x=>x.2.handleName?.isNone)=lD9:=by kernel_rfl
  unfold laidMetH
  rw [e1,e2]
  refine ⟨?_,?_⟩
  · have a1:(lD9.filter fun x=>(lD9.map (·.1)).contains x.1)=lD9:=List.filter_eq_self.2 fun x hx=>List.contains_iff_mem.2 (List.mem_map.2 ⟨x,hx,rfl⟩)
    have a2:(lD9.filter fun x=>!(lD9.map (·.1)).contains x.1)=[]:=List.filter_eq_nil_iff.2 fun x hx=>by rw [List.contains_iff_mem.2 (List.mem_map.2 ⟨x,hx,rfl⟩)]; simp
    have h:laidMet Tryz.prog lD9 (zCW os):=laidMet_layVars (w0:=preD os) (lD9.map (·.1)) [] (by rw [a1]; rfl) (by rw [a1]; kernel_rfl) (by rw [a1]; kernel_rfl) (by rw [a2]; exact LaidIn.none)
    exact h.of_heap (by simp [World.memory,World.forCall,Input.heap])
  · intro x hx
    obtain rfl:=List.mem_singleton.1 hx
    exact ⟨[101,114,114,111,114],329,175,rfl,by kernel_rfl,of_decide_eq_true (by kernel_rfl),by kernel_rfl,by kernel_rfl⟩
end Go.Proofs.YtcceeahmcecbnaaGreatDoor
namespace Go.Proofs.YtcceeahmcecbnaaGreatDoor
open Go.Sx Go.RowKit
def zef (l:List UInt8):Prop:=l.head?≠some 101
theorem zBR (n:Int) (r:List UInt8) (hr:zef r):zef (Lib.itoa n++r):=by
  intro h
  cases hl:Lib.itoa n with
  |nil => rw [hl] at h; exact hr h
  |cons x t =>
    rw [hl] at h
    simp only [List.cons_append,List.head?_cons,Option.some.injEq] at h
    subst h
    by_cases hn:0<=n
    · exact zrI hn (c:=101) (by decide) (by rw [hl]; exact List.mem_cons_self ..)
    · unfold Lib.itoa at hl
      rw [if_pos (by omega)] at hl
      injection hl with h1
      exact absurd h1 (by decide)
theorem zx4 (n:Int):zef (ofL (Lib.itoa n)).data.toList:=by
  have:=zBR n [] (by unfold zef; simp)
  rw [List.append_nil] at this
  exact this
theorem zGc (k:Nat):zef (zqb.getD k ⟨#[]⟩).data.toList:=by
  match k with
  |0 => unfold zef; decide
  |1 => unfold zef; decide
  |2 => unfold zef; decide
  |3 => unfold zef; decide
  |4 => unfold zef; decide
  |5 => unfold zef; decide
  |k+6 => unfold zef zqb; simp
theorem zCX (G:Fm) (o:List (Int×Int)):zef (zsv G o):=by
  unfold zsv
  cases o with
  |nil => rw [List.map_nil,Lib.join_nil]; unfold zef; simp
  |cons x r =>
    rw [List.map_cons,Lib.join_cons]
    unfold zgD
    rw [List.append_assoc]
    exact zBR _ _ (by unfold zef; simp)
theorem zFu (x:Nd) (i:Nat) (r:List UInt8):zef (zfg x i++r):=by
  unfold zfg
  match i with
  |0 => unfold zef pn; simp [zze]
  |1 => unfold zef pn; simp [zJT]
  |k+2 => unfold zef pn; simp [gpuS]
theorem zF6 (x:Nd):zef (zbc x):=by
  unfold zbc
  split
  · unfold zef; simp
  · rename_i h
    cases hp:pcs x 3 with
    |nil => exact absurd hp h
    |cons y r =>
      rw [Lib.join_cons]
      have hm:y∈pcs x 3:=by rw [hp]; exact List.mem_cons_self ..
      obtain ⟨i,_,rfl⟩:=List.mem_map.1 hm
      exact zFu x i _
theorem zI0:zef (⟨#[111,107]⟩:ByteArray).data.toList:=by unfold zef; simp
theorem zsr {R:Fm->Int->Int->DS->Prop} {word s:ByteArray} {σ τ:DS} (h:zpb R word σ s 0 τ):zef s.data.toList:=by
  obtain ⟨n,c1,hn,⟨h1,h2,_⟩|⟨_,rfl,_⟩⟩:=h
  · exact absurd h2.symm h1
  · exact zI0
theorem dR_ne (b:Nat) (ws:List ByteArray) (σ τ:DS) (s:ByteArray) (h:dR b ws σ 0 s τ):zef s.data.toList:=by
  unfold dR zod at h
  split at h
  · obtain ⟨nd,e,hr,⟨h1,h2,_⟩|⟨_,h⟩⟩:=h
    · exact absurd h2.symm h1
    · split at h
      · exact absurd h.1 (by decide)
      · split at h
        · exact absurd h.1 (by decide)
        · rcases h.2 with ⟨q,_⟩|⟨_,rfl,_⟩
          · exact absurd rfl q
          · exact zI0
  · unfold zuq at h
    split at h
    · rw [h.2.1]; exact zI0
    · exact absurd h.1 (by decide)
  · obtain ⟨_,n,c1,hn,⟨h1,h2⟩|⟨_,cr,e,hp,⟨h1,h2⟩|⟨_,t,hx,rfl⟩⟩⟩:=h
    · exact absurd h2.symm h1
    · exact absurd h2.symm h1
    · exact zx4 t
  · unfold zhp at h
    split at h
    · exact h.elim
    · obtain ⟨e,j,hr,⟨h1,h2,_⟩|⟨_,_,⟨h,_⟩|⟨_,rfl,_⟩⟩⟩:=h
      · exact absurd h2.symm h1
      · exact absurd rfl h
      · exact zx4 _
  · exact zsr h
  · unfold zuz at h
    split at h
    · exact h.elim
    · obtain ⟨_,G,o,_,rfl,_⟩:=h
      exact zCX G o
  · exact zsr h
  · exact zsr h
  · exact zsr h
  · obtain ⟨_,n,c1,hn,⟨h1,h2⟩|⟨_,h⟩⟩:=h
    · exact absurd h2.symm h1
    · split at h
      · exact absurd h (by decide)
      · rcases h with ⟨_,_,rfl⟩|⟨_,h⟩
        · exact zGc _
        · exact absurd h (by decide)
  · unfold zop at h
    split at h
    · exact h.elim
    · have h:=h.2
      split at h
      · exact absurd h (by decide)
      · obtain ⟨_,rfl⟩:=h
        exact zF6 _
  · exact h.elim
theorem doW_ne (ws:List ByteArray) (σ τ:DS) (s:ByteArray) (h:doW dR ws σ 0 s τ):zef s.data.toList:=by
  unfold doW at h
  split at h
  · exact absurd h.1 (by decide)
  · split at h
    · exact absurd h.1 (by decide)
    · split at h
      · exact absurd h.1 (by decide)
      · exact dR_ne _ ws σ τ s h
theorem zH1 {line a:ByteArray} {σ τ:DS} (h:doD dR line σ a τ) (ha:a.data.toList.head?=some 101):τ=σ:=by
  obtain ⟨c,s,h,rfl⟩:=h
  by_cases hc:c=0
  · subst hc
    exact absurd ha (by unfold zvE; rw [if_pos rfl]; exact doW_ne _ _ _ _ h)
  · exact zH5 _ σ c s τ h hc
end Go.Proofs.YtcceeahmcecbnaaGreatDoor
