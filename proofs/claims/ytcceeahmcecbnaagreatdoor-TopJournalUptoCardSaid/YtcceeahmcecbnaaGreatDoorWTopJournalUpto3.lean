/- The framework, the program's texts and what is shown of them: part 3. -/
import Derived.Test.YtcceeahmcecbnaaGreatDoorWTopJournalUpto2
import Derived.Test.YtcceeahmcecbnaaGreatDoorRows
import Derived.Shelf.Strings.OnBuilder
import Derived.Shelf.Strconv.Itoa0
import Derived.Shelf.Strconv.Itoa1
import Derived.Shelf.LaysM
import Derived.Shelf.Strconv.Itoa2
import Derived.Shelf.Strconv.Itoa3
import Derived.Shelf.Strconv.Itoa4
import Derived.Shelf.LaysC
import Derived.Shelf.Strconv.AtoiAll
import Derived.Shelf.Strconv.ParseIntPublic10
import Derived.Shelf.Strings.Cut
import Derived.Shelf.Strings.Split
import Derived.Shelf.Strings.IndexAny
import Derived.Shelf.Strings.IndexAnyAll
import Derived.Test.YtcceeahmcecbnaaGreatDoorProg
import Derived.Lib.ParseIntBCases
import Derived.Lib.IndexLaws
import Derived.Lib.Join
import Derived.Lib.Split
import Derived.Lib.CountLaws
import Derived.Lib.CutLaws
import Derived.Laws.Slices
import Derived.Lib.ItoaLen
import Derived.Laws.IdiomStrings
import Derived.Shelf.Small.Utf8
import Derived.Laws.Runes
import Derived.Shelf.RegionOpenPlain
import Derived.Laws.RangeAny
import Derived.Lib.OthersKept
set_option linter.unusedVariables false
set_option linter.unusedSimpArgs false
set_option maxRecDepth 100000
set_option linter.unusedSectionVars false
namespace Go.Proofs.YtcceeahmcecbnaaGreatDoor
open Go.Sx Go.RowKit
abbrev zko:FuncId:=69
abbrev zeg:FuncId:=71
abbrev za3:FuncId:=72
abbrev zcL:FuncId:=121
abbrev zdb:FuncId:=122
abbrev zdm:FuncId:=167
abbrev zcM:FuncId:=168
abbrev zfr:FuncId:=311
abbrev zeT:FuncId:=312
abbrev zeV:FuncId:=313
abbrev zdp:FuncId:=314
abbrev zfs:FuncId:=315
abbrev zeU:FuncId:=316
def zom(e:Option Addr)(b f:Nat)(c:World)(d:Value->World->Prop):Prop:=
 ∀a,Ext c a->d (.int .i64 (b:Int)) a
theorem zoa(a:Option Addr)(b c:Nat)(d:World)(e:Value->World->Prop)(h:zom a b c d e):FnP Tryz.prog zfr #[(.slice a b c)] d e:=
 zab (Eq.mp (by kernel_rfl:_=Runs Tryz.prog e ({N:=5}:Cfg) Tryz.f311 (Tryz.f311.body.getD .skip) [.sc (.slc a b c)] d) h) Tryz.func311 (by kernel_rfl) (fun a w=>Tryz.call311 a w) (by kernel_rfl) (by kernel_rfl) rfl rfl
def znC(a:Option Addr)(j n:Nat)(d e:Int)(b:World)(m:Value->World->Prop):Prop:=
 a≠none/\(0:Int)<=d/\(d:Int)<(j:Int)/\∃f,cell b (pIdx a d 1) 0=some (.pointer f)/\a≠none/\(0:Int)<=e/\(e:Int)<(j:Int)/\∃g,cell b (pIdx a e 1) 0=some (.pointer g)/\∀c,Ext b c->FnP Tryz.prog zdp #[(.pointer f),(.pointer g)] c fun k l=>Ext c l/\∃h,k=(.bool h)/\∀i,Ext b i->m (.bool h) i
theorem zm6(a:Option Addr)(b c:Nat)(d e:Int)(f:World)(g:Value->World->Prop)(h:znC a b c d e f g):FnP Tryz.prog zeT #[(.slice a b c),(.int .i64 d),(.int .i64 e)] f g:=
 zab (Eq.mp (by kernel_rfl:_=Runs Tryz.prog g ({N:=16}:Cfg) Tryz.f312 (Tryz.f312.body.getD .skip) [.sc (.slc a b c),.sc (.int .i64 d),.sc (.int .i64 e)] f) h) Tryz.func312 (by kernel_rfl) (fun a w=>Tryz.call312 a w) (by kernel_rfl) (by kernel_rfl) rfl rfl
def znE(a:Option Addr)(d p:Nat)(b c:Int)(h:World)(o:Value->World->Prop):Prop:=
 a≠none/\(0:Int)<=c/\(c:Int)<(d:Int)/\∃i,cell h (pIdx a c 1) 0=some (.pointer i)/\a≠none/\(0:Int)<=b/\(b:Int)<(d:Int)/\∃j,cell h (pIdx a b 1) 0=some (.pointer j)/\a≠none/\(0:Int)<=b/\(b:Int)<(d:Int)/\zan h (pIdx a b 1) [(.pointer i)] [] fun l=>a≠none/\(0:Int)<=c/\(c:Int)<(d:Int)/\zan l (pIdx a c 1) [(.pointer j)] [] fun g=>a≠none/\(0:Int)<=b/\(b:Int)<(d:Int)/\∃e,cell g (pIdx a b 1) 0=some (.pointer e)/\a≠none/\(0:Int)<=c/\(c:Int)<(d:Int)/\∃f,cell g (pIdx a c 1) 0=some (.pointer f)/\e≠none/\e≠none/\zan g (pAdd e 3) [(.int .i64 b)] [] fun m=>f≠none/\f≠none/\zan m (pAdd f 3) [(.int .i64 c)] [] fun n=>∀k,Ext n k->o (.tuple #[]) k
theorem zm8(a:Option Addr)(b c:Nat)(d e:Int)(f:World)(g:Value->World->Prop)(h:znE a b c d e f g):FnP Tryz.prog zeV #[(.slice a b c),(.int .i64 d),(.int .i64 e)] f g:=
 zab (Eq.mp (by kernel_rfl:_=Runs Tryz.prog g ({N:=34}:Cfg) Tryz.f313 (Tryz.f313.body.getD .skip) [.sc (.slc a b c),.sc (.int .i64 d),.sc (.int .i64 e)] f) h) Tryz.func313 (by kernel_rfl) (fun a w=>Tryz.call313 a w) (by kernel_rfl) (by kernel_rfl) rfl rfl
def ze5(a b:Option Addr)(c:World)(h:Value->World->Prop):Prop:=
 a≠none/\a≠none/\(pAdd a 0)≠none/\∃d,cell c (pAdd (pAdd a 0) 0) 0=some (.int .i64 d)/\b≠none/\b≠none/\(pAdd b 0)≠none/\∃e,cell c (pAdd (pAdd b 0) 0) 0=some (.int .i64 e)/\((d<=e)->a≠none)/\((d<=e)->a≠none)/\((d<=e)->(pAdd a 0)≠none)/\((e<d)->∀i,Ext c i->h (.bool true) i)/\((d<=e)->∃f,cell c (pAdd (pAdd a 0) 0) 0=some (.int .i64 f)/\b≠none/\b≠none/\(pAdd b 0)≠none/\∃g,cell c (pAdd (pAdd b 0) 0) 0=some (.int .i64 g)/\((f=g)->a≠none)/\((f=g)->a≠none)/\(((f=g)->∃j,cell c (pAdd a 2) 0=some (.int .i64 j)/\b≠none/\b≠none/\∃k,cell c (pAdd b 2) 0=some (.int .i64 k)/\∀l,Ext c l->h (.bool (decide (j<k))) l))/\((f≠g)->∀m,Ext c m->h (.bool false) m))
theorem zjW(a b:Option Addr)(c:World)(d:Value->World->Prop)(h:ze5 a b c d):FnP Tryz.prog zdp #[(.pointer a),(.pointer b)] c d:=
 zab (Eq.mp (by kernel_rfl:_=Runs Tryz.prog d ({N:=40}:Cfg) Tryz.f314 (Tryz.f314.body.getD .skip) [.sc (.ptr a),.sc (.ptr b)] c) h) Tryz.func314 (by kernel_rfl) (fun a w=>Tryz.call314 a w) (by kernel_rfl) (by kernel_rfl) rfl rfl
def zon(b:Option Addr)(c:World)(s:Value->World->Prop):Prop:=
 b≠none/\∃m a n,cell c b 0=some (.slice m a n)/\InR .i64 ((a:Int)-1)/\b≠none/\∃e g o,cell c b 0=some (.slice e g o)/\e≠none/\(0:Int)<=((a:Int)-1)/\(((a:Int)-1):Int)<(g:Int)/\∃h,cell c (pIdx e ((a:Int)-1) 1) 0=some (.pointer h)/\b≠none/\∃i p d,cell c b 0=some (.slice i p d)/\(0:Int)<=0/\(0:Int)<=((a:Int)-1)/\(((a:Int)-1):Int)<=(d:Int)/\b≠none/\zan c b [(.slice (pCut i d 0 1) (((a:Int)-1)-0).toNat (d-(0:Int).toNat))] [] fun q=>∀f,Ext q f->Run Tryz.prog (.makeInterface 218 (.pointer h)) f fun r l=>Ext f l/\∃j,r=j/\∀k,Ext l k->s j k
theorem zob(a:Option Addr)(b:World)(c:Value->World->Prop)(h:zon a b c):FnP Tryz.prog zfs #[(.pointer a)] b c:=
 zab (Eq.mp (by kernel_rfl:_=Runs Tryz.prog c ({N:=25}:Cfg) Tryz.f315 (Tryz.f315.body.getD .skip) [.sc (.ptr a)] b) h) Tryz.func315 (by kernel_rfl) (fun a w=>Tryz.call315 a w) (by kernel_rfl) (by kernel_rfl) rfl rfl
def znD(a:Option Addr)(A:Value)(B:World)(C:Value->World->Prop):Prop:=
 ∀c,Ext B c->Run Tryz.prog (.typeAssert A 20 218 false) c fun v e=>Ext c e/\∃b,v=(.pointer b)/\a≠none/\∃t f u,cell e a 0=some (.slice t f u)/\b≠none/\b≠none/\zan e (pAdd b 3) [(.int .i64 (f:Int))] [] fun r=>a≠none/\∃g h i,cell r a 0=some (.slice g h i)/\∀d,Ext r d->Run Tryz.prog (.buildSlice 213 1 [(0,(.pointer b))]) d fun w s=>Ext d s/\∃j k l,w=(.slice j k l)/\∀m,Ext s m->Run Tryz.prog (.append #[213,213] 213 [(.slice g h i),(.slice j k l)]) m fun x y=>∃n o p,x=(.slice n o p)/\a≠none/\zan y a [(.slice n o p)] [] fun z=>∀q,Ext z q->C (.tuple #[]) q
theorem zm7(a:Option Addr)(b:Value)(c:World)(d:Value->World->Prop)(h:znD a b c d):FnP Tryz.prog zeU #[(.pointer a),b] c d:=
 zab (Eq.mp (by kernel_rfl:_=Runs Tryz.prog d ({N:=22}:Cfg) Tryz.f316 (Tryz.f316.body.getD .skip) [.sc (.ptr a),.sc (.val b)] c) h) Tryz.func316 (by kernel_rfl) (fun a w=>Tryz.call316 a w) (by kernel_rfl) (by kernel_rfl) rfl rfl
def zj0(j:Value)(n:Int)(o:World)(k:Value->World->Prop):Prop:=
 ∃ (f : Int -> World -> Prop) (i : Int -> World -> Nat), f n o /\ ∀ (a : Int) (d : World), f a d -> InR .i64 (a - 1) /\ InR .i64 ((a - 1).tdiv 2) /\ ((((a - 1).tdiv 2) = a) -> ∀ b, Ext d b -> k (.tuple #[]) b) /\ ((((a - 1).tdiv 2) ≠ a) -> ∀ b, Ext d b -> zqE Tryz.prog "Less" j [(.int .i64 a), (.int .i64 ((a - 1).tdiv 2))] b fun l g => ∃ e, l = (.bool e) /\ ((e = false) -> ∀ c, Ext g c -> k (.tuple #[]) c) /\ ((e = true) -> ∀ c, Ext g c -> zqE Tryz.prog "Swap" j [(.int .i64 ((a - 1).tdiv 2)), (.int .i64 a)] c fun m h => m = (.tuple #[]) /\ (f ((a - 1).tdiv 2) h /\ i ((a - 1).tdiv 2) h < i a d)))
theorem zjU(a:Value)(b:Int)(c:World)(d:Value->World->Prop)(h:zj0 a b c d):FnP Tryz.prog zdm #[a,(.int .i64 b)] c d:=
 zab (Eq.mp (by kernel_rfl:_=Runs Tryz.prog d ({N:=23}:Cfg) Tryz.f167 (Tryz.f167.body.getD .skip) [.sc (.val a),.sc (.int .i64 b)] c) h) Tryz.func167 (by kernel_rfl) (fun a w=>Tryz.call167 a w) (by kernel_rfl) (by kernel_rfl) rfl rfl
def ziH(i:Value)(o p:Int)(t:World)(q:Value->World->Prop):Prop:=
 ∃ (n : Int -> World -> Prop) (j : Int -> World -> Nat), n o t /\ ∀ (a : Int) (h : World), n a h -> InR .i64 (2 * a) /\ InR .i64 ((2 * a) + 1) /\ (((p <= ((2 * a) + 1)) \/ (((2 * a) + 1) < 0)) -> ∀ d, Ext h d -> q (.bool (decide (o < a))) d) /\ (((((2 * a) + 1) < p) /\ (0 <= ((2 * a) + 1))) -> InR .i64 (((2 * a) + 1) + 1) /\ ((((((2 * a) + 1) + 1) < p) -> ∀ d, Ext h d -> zqE Tryz.prog "Less" i [(.int .i64 (((2 * a) + 1) + 1)), (.int .i64 ((2 * a) + 1))] d fun r k => ∃ f, r = (.bool f) /\ (((f = true) -> ∀ b, Ext k b -> zqE Tryz.prog "Less" i [(.int .i64 (((2 * a) + 1) + 1)), (.int .i64 a)] b fun l e => ∃ g, l = (.bool g) /\ ((g = false) -> ∀ c, Ext e c -> q (.bool (decide (o < a))) c) /\ ((g = true) -> ∀ c, Ext e c -> zqE Tryz.prog "Swap" i [(.int .i64 a), (.int .i64 (((2 * a) + 1) + 1))] c fun s m => s = (.tuple #[]) /\ (n (((2 * a) + 1) + 1) m /\ j (((2 * a) + 1) + 1) m < j a h)))) /\ ((f = false) -> ∀ b, Ext k b -> zqE Tryz.prog "Less" i [(.int .i64 ((2 * a) + 1)), (.int .i64 a)] b fun l e => ∃ g, l = (.bool g) /\ ((g = false) -> ∀ c, Ext e c -> q (.bool (decide (o < a))) c) /\ ((g = true) -> ∀ c, Ext e c -> zqE Tryz.prog "Swap" i [(.int .i64 a), (.int .i64 ((2 * a) + 1))] c fun s m => s = (.tuple #[]) /\ (n ((2 * a) + 1) m /\ j ((2 * a) + 1) m < j a h))))) /\ ((p <= (((2 * a) + 1) + 1)) -> ∀ d, Ext h d -> zqE Tryz.prog "Less" i [(.int .i64 ((2 * a) + 1)), (.int .i64 a)] d fun r k => ∃ f, r = (.bool f) /\ ((f = false) -> ∀ b, Ext k b -> q (.bool (decide (o < a))) b) /\ ((f = true) -> ∀ b, Ext k b -> zqE Tryz.prog "Swap" i [(.int .i64 a), (.int .i64 ((2 * a) + 1))] b fun l e => l = (.tuple #[]) /\ (n ((2 * a) + 1) e /\ j ((2 * a) + 1) e < j a h))))
theorem ziE(a:Value)(b c:Int)(d:World)(e:Value->World->Prop)(h:ziH a b c d e):FnP Tryz.prog zcM #[a,(.int .i64 b),(.int .i64 c)] d e:=
 zab (Eq.mp (by kernel_rfl:_=Runs Tryz.prog e ({N:=48}:Cfg) Tryz.f168 (Tryz.f168.body.getD .skip) [.sc (.val a),.sc (.int .i64 b),.sc (.int .i64 c)] d) h) Tryz.func168 (by kernel_rfl) (fun a w=>Tryz.call168 a w) (by kernel_rfl) (by kernel_rfl) rfl rfl
def ziG(b m:Value)(n:World)(o:Value->World->Prop):Prop:=
 ∀ c, Ext n c -> zqE Tryz.prog "Push" b [m] c fun g h => g = (.tuple #[]) /\ ∀ d, Ext h d -> zqE Tryz.prog "Len" b [] d fun i j => ∃ a, i = (.int .i64 a) /\ InR .i64 (a - 1) /\ ∀ e, Ext j e -> FnP Tryz.prog zdm #[b, (.int .i64 (a - 1))] e fun k l => k = (.tuple #[]) /\ ∀ f, Ext l f -> o (.tuple #[]) f
theorem ziD(a b:Value)(c:World)(d:Value->World->Prop)(h:ziG a b c d):FnP Tryz.prog zcL #[a,b] c d:=
 zab (Eq.mp (by kernel_rfl:_=Runs Tryz.prog d ({N:=12,muts:=[167]}:Cfg) Tryz.f121 (Tryz.f121.body.getD .skip) [.sc (.val a),.sc (.val b)] c) h) Tryz.func121 (by kernel_rfl) (fun a w=>Tryz.call121 a w) (by kernel_rfl) (by kernel_rfl) rfl rfl
def zjp(b:Value)(r:World)(s:Value->World->Prop):Prop:=
 ∀ c, Ext r c -> zqE Tryz.prog "Len" b [] c fun j k => ∃ a, j = (.int .i64 a) /\ InR .i64 (a - 1) /\ ∀ d, Ext k d -> zqE Tryz.prog "Swap" b [(.int .i64 0), (.int .i64 (a - 1))] d fun l m => l = (.tuple #[]) /\ ∀ e, Ext m e -> FnP Tryz.prog zcM #[b, (.int .i64 0), (.int .i64 (a - 1))] e fun n o => ∃ i, n = (.bool i) /\ ∀ f, Ext o f -> zqE Tryz.prog "Pop" b [] f fun p q => ∃ g, p = g /\ ∀ h, Ext q h -> s g h
theorem zjb(a:Value)(b:World)(c:Value->World->Prop)(h:zjp a b c):FnP Tryz.prog zdb #[a] b c:=
 zab (Eq.mp (by kernel_rfl:_=Runs Tryz.prog c ({N:=15,muts:=[168]}:Cfg) Tryz.f122 (Tryz.f122.body.getD .skip) [.sc (.val a)] b) h) Tryz.func122 (by kernel_rfl) (fun a w=>Tryz.call122 a w) (by kernel_rfl) (by kernel_rfl) rfl rfl
def zn1  (w:World) (Q:Value->World->Prop):Prop :=
 ∀w0,Ext w w0 ->
 Run Tryz.prog (.makeMap 211) w0 fun v1 w1 =>
  Ext w0 w1 /\
  ∃t2:Value,v1=t2 /\
  Value.oneCell' t2=true /\
  ∀w3,Ext w1 w3 ->
  New w3 215 [(.slice none 0 0),t2,(.int .i64 0)] fun p4 w4 =>
   ∀w5,Ext w4 w5 ->
   Q (.pointer p4) w5
theorem zvv  (w:World) (Q:Value->World->Prop) (h:zn1  w Q):FnP Tryz.prog zko #[] w Q:=by
 have e_:zn1  w Q=Runs Tryz.prog Q ({ N:=4,wrap:=[],pub:=[3],muts:=[],joins:=[] }:Cfg) Tryz.f69 (Tryz.f69.body.getD .skip) [] w:=by kernel_rfl
 rw[e_] at h
 exact zab h Tryz.func69 (by kernel_rfl) (fun args w=>Tryz.call69 args w) (by kernel_rfl) (by kernel_rfl) rfl rfl
def zmd(a:Option Addr)(J i:Int)(A:World)(j:Value->World->Prop):Prop:=
 a≠none/\a≠none/\∃k,cell A (pAdd a 1) 0=some k/\∀c,Ext A c->Run Tryz.prog (.lookup 211 k (.int .i64 i) false) c fun D b=>Ext c b/\∃d,D=(.pointer d)/\((d≠none)->∀l,Ext b l->j (.int .i64 6) l)/\((d=none)->a≠none/\a≠none/\∃B e C,cell b (pAdd a 0) 0=some (.slice B e C)/\(((e:Int)=200)->∀m,Ext b m->j (.int .i64 7) m)/\(((e:Int)≠200)->a≠none/\a≠none/\∃f,cell b (pAdd a 2) 0=some (.int .i64 f)/\InR .i64 (f+1)/\a≠none/\a≠none/\zan b (pAdd a 2) [(.int .i64 (f+1))] [] fun v=>a≠none/\a≠none/\∃n,cell v (pAdd a 2) 0=some (.int .i64 n)/\∀o,Ext v o->New o 220 [(.int .i64 J),(.int .i64 i),(.int .i64 n),(.int .i64 0)] fun w x=>a≠none/\a≠none/\∃p,cell x (pAdd a 1) 0=some p/\∀q,Ext x q->Run Tryz.prog (.mapUpdate 211 p (.int .i64 i) (.pointer w)) q fun K E=>a≠none/\a≠none/\∀g,Ext E g->Run Tryz.prog (.makeInterface 222 (.pointer (pAdd a 0))) g fun F y=>Ext g y/\∃r,F=r/\∀h,Ext y h->Run Tryz.prog (.makeInterface 218 (.pointer w)) h fun G z=>Ext h z/\∃s,G=s/\∀t,Ext z t->FnP Tryz.prog zcL #[r,s] t fun H I=>H=(.tuple #[])/\∀u,Ext I u->j (.int .i64 0) u))
theorem zlP(a:Option Addr)(b c:Int)(d:World)(e:Value->World->Prop)(h:zmd a b c d e):FnP Tryz.prog zeg #[(.pointer a),(.int .i64 b),(.int .i64 c)] d e:=
 zab (Eq.mp (by kernel_rfl:_=Runs Tryz.prog e ({N:=52,pub:=[38],muts:=[121]}:Cfg) Tryz.f71 (Tryz.f71.body.getD .skip) [.sc (.ptr a),.sc (.int .i64 b),.sc (.int .i64 c)] d) h) Tryz.func71 (by kernel_rfl) (fun a w=>Tryz.call71 a w) (by kernel_rfl) (by kernel_rfl) rfl rfl
def zk3(b:Option Addr)(g:World)(u:Value->World->Prop):Prop:=
 ∀c:Nat,g.heap.size<=c->b≠none/\b≠none/\∃v h w,cell g (pAdd b 0) 0=some (.slice v h w)/\(((h:Int)=0)->∀d,Ext g d->u (.tuple #[(.agg #[(.int .i64 0),(.int .i64 0)]),(.bool false)]) d)/\(((h:Int)≠0)->b≠none/\b≠none/\∀d,zag [] [c] g d->Run Tryz.prog (.makeInterface 222 (.pointer (pAdd b 0))) d fun x s=>Ext d s/\∃l,x=l/\∀i,zag [] [c] s i->FnP Tryz.prog zdb #[l] i fun y t=>zbK [c] i t/\∃m,y=m/\∀j,zag [] [c] t j->Run Tryz.prog (.typeAssert m 20 218 false) j fun z e=>Ext j e/\∃a,z=(.pointer a)/\b≠none/\b≠none/\∃n,cell e (pAdd b 1) 0=some n/\a≠none/\a≠none/\(pAdd a 0)≠none/\∃o,cell e (pAdd (pAdd a 0) 1) 0=some (.int .i64 o)/\∀k,zag [] [c] e k->Run Tryz.prog (.delete #[211,3] 0 [n,(.int .i64 o)]) k fun A f=>zbK [c] k f/\A=(.tuple #[])/\a≠none/\a≠none/\(pAdd a 0)≠none/\∃p,cell f (pAdd a 0) 0=some (.int .i64 p)/\∃q,cell f (pAdd a 0) 1=some (.int .i64 q)/\∀r,zag [c] [] f r->u (.tuple #[(.agg #[(.int .i64 p),(.int .i64 q)]),(.bool true)]) r)
theorem zkM(a:Option Addr)(b:World)(c:Value->World->Prop)(h:zk3 a b c):FnP Tryz.prog za3 #[(.pointer a)] b c:=
 zab (Eq.mp (by kernel_rfl:_=Runs Tryz.prog c ({N:=31,muts:=[122]}:Cfg) Tryz.f72 (Tryz.f72.body.getD .skip) [.sc (.ptr a)] b) h) Tryz.func72 (by kernel_rfl) (fun a w=>Tryz.call72 a w) (by kernel_rfl) (by kernel_rfl) rfl rfl
abbrev zdJ:FuncId:=57
abbrev zjx:FuncId:=68
abbrev zdK:FuncId:=75
abbrev zcC:FuncId:=117
abbrev ze6:FuncId:=118
def zru(a c d e:Int)(f:World)(g:Value->World->Prop):Prop:=
 ∀h:Nat,f.heap.size<=h->(((((((((a<1)\/(1000000000<a))\/(c<1))\/(10<c))\/(d<a))\/(1000000000<d))\/(e<0))\/(50<e))->∀b,Ext f b->g (.int .i64 4) b)/\(((((((((1<=a)/\(a<=1000000000))/\(1<=c))/\(c<=10))/\(a<=d))/\(d<=1000000000))/\(0<=e))/\(e<=50))->∀b,Ext f b->g (.int .i64 0) b)
theorem zq4(a b c d:Int)(e:World)(f:Value->World->Prop)(h:zru a b c d e f):FnP Tryz.prog zdJ #[(.agg #[(.int .i64 a),(.int .i64 b),(.int .i64 c),(.int .i64 d)])] e f:=
 zab (Eq.mp (by kernel_rfl:_=Runs Tryz.prog f ({N:=43}:Cfg) Tryz.f57 (Tryz.f57.body.getD .skip) [.agg [.int .i64 a,.int .i64 b,.int .i64 c,.int .i64 d]] e) h) Tryz.func57 (by kernel_rfl) (fun a w=>Tryz.call57 a w) (by kernel_rfl) (by kernel_rfl) rfl rfl
def zrv(p h k l b:Int)(f:World)(m:Value->World->Prop):Prop:=
 ∀q:Nat,f.heap.size<=q->∀i,Ext f i->FnP Tryz.prog zdJ #[(.agg #[(.int .i64 p),(.int .i64 h),(.int .i64 k),(.int .i64 l)])] i fun r s=>Ext i s/\∃g,r=(.int .i64 g)/\((g≠0)->∀d,Ext f d->m (.tuple #[(.int .i64 0),(.int .i64 g)]) d)/\((g=0)->(((b<1)\/(l<b))->∀d,Ext f d->m (.tuple #[(.int .i64 0),(.int .i64 5)]) d)/\(((1<=b)/\(b<=l))->InR .i64 (b-1)/\∃(j:Int->Int->World->Prop) (o:Int->Int->World->Nat),j p 0 f/\∀(c:Int)(a:Int)(e:World),j c a e->(((a<(b-1))->InR .i64 (c*h)/\InR .i64 (a+1)/\(j (min (c*h) k) (a+1) e/\o (min (c*h) k) (a+1) e<o c a e)))/\(((b-1)<=a)->∀n,Ext e n->m (.tuple #[(.int .i64 c),(.int .i64 0)]) n)))
theorem zq5(a b c d e:Int)(f:World)(g:Value->World->Prop)(h:zrv a b c d e f g):FnP Tryz.prog zdK #[(.agg #[(.int .i64 a),(.int .i64 b),(.int .i64 c),(.int .i64 d)]),(.int .i64 e)] f g:=
 zab (Eq.mp (by kernel_rfl:_=Runs Tryz.prog g ({N:=36}:Cfg) Tryz.f75 (Tryz.f75.body.getD .skip) [.agg [.int .i64 a,.int .i64 b,.int .i64 c,.int .i64 d],.sc (.int .i64 e)] f) h) Tryz.func75 (by kernel_rfl) (fun a w=>Tryz.call75 a w) (by kernel_rfl) (by kernel_rfl) rfl rfl
def zie(b:Option Addr)(q r:Nat)(l:World)(m:Value->World->Prop):Prop:=
 ((b=none)->∀a,Ext l a->m (.slice none 0 0) a)/\((b≠none)->∀a,Ext l a->Run Tryz.prog (.buildSlice 48 0 []) a fun n k=>Ext a k/\∃c d e,n=(.slice c d e)/\∀f,Ext k f->Run Tryz.prog (.append #[48,48] 48 [(.slice c d e),(.slice b q r)]) f fun o p=>∃g h i,o=(.slice g h i)/\∀j,Ext p j->m (.slice g h i) j)
theorem zhW(a:Option Addr)(b c:Nat)(d:World)(e:Value->World->Prop)(h:zie a b c d e):FnP Tryz.prog zcC #[(.slice a b c)] d e:=
 zab (Eq.mp (by kernel_rfl:_=Runs Tryz.prog e ({N:=8}:Cfg) Tryz.f117 (Tryz.f117.body.getD .skip) [.sc (.slc a b c)] d) h) Tryz.func117 (by kernel_rfl) (fun a w=>Tryz.call117 a w) (by kernel_rfl) (by kernel_rfl) rfl rfl
def zrm(S:Int)(T U:ByteArray)(V:Int)(c:Option Addr)(r X:Nat)(s:World)(W:Value->World->Prop):Prop:=
 ∀d:Nat,s.heap.size<=d->∀e:Nat,s.heap.size<=e->∃(q:Option Addr->Nat->Nat->Int->World->Prop) (N:Option Addr->Nat->Nat->Int->World->Nat),q none 0 0 0 s/\∀(g:Option Addr)(h:Nat)(i:Nat)(a:Int)(b:World),q g h i a b->(((a<(r:Int))->c≠none/\(0:Int)<=a/\(a:Int)<(r:Int)/\(pIdx c a 5)≠none/\∃t,cell b (pIdx c a 5) 0=some (.int .i64 t)/\∃u,cell b (pIdx c a 5) 1=some (.string u)/\∃v,cell b (pIdx c a 5) 2=some (.string v)/\∃w,cell b (pIdx c a 5) 3=some (.int .i64 w)/\∃x y z,cell b (pIdx c a 5) 4=some (.slice x y z)/\∀f:Nat,b.heap.size<=f->∀j,zag [] [d,e,f] b j->FnP Tryz.prog ze6 #[(.agg #[(.int .i64 t),(.string u),(.string v),(.int .i64 w),(.slice x y z)])] j fun O L=>Ext j L/\∃A B C D E F G,O=(.agg #[(.int .i64 A),(.string B),(.string C),(.int .i64 D),(.slice E F G)])/\∀k,zag [] [d,e,f] L k->Run Tryz.prog (.buildSlice 45 1 [(0,(.agg #[(.int .i64 A),(.string B),(.string C),(.int .i64 D),(.slice E F G)]))]) k fun P M=>Ext k M/\∃H I J,P=(.slice H I J)/\∀l,zag [] [d,e,f] M l->Run Tryz.prog (.append #[45,45] 45 [(.slice g h i),(.slice H I J)]) l fun R p=>zbK [d,e,f] l p/\∃m n o,R=(.slice m n o)/\InR .i64 (a+1)/\(q m n o (a+1) p/\N m n o (a+1) p<N g h i a b)))/\(((r:Int)<=a)->∀K,zag [e,d] [] b K->W (.agg #[(.int .i64 S),(.string T),(.string U),(.int .i64 V),(.slice g h i)]) K)
theorem zqW(a:Int)(b c:ByteArray)(d:Int)(e:Option Addr)(f g:Nat)(i:World)(j:Value->World->Prop)(h:zrm a b c d e f g i j):FnP Tryz.prog ze6 #[(.agg #[(.int .i64 a),(.string b),(.string c),(.int .i64 d),(.slice e f g)])] i j:=
 zab (Eq.mp (by kernel_rfl:_=Runs Tryz.prog j ({N:=22}:Cfg) Tryz.f118 (Tryz.f118.body.getD .skip) [.agg [.int .i64 a,.str b,.str c,.int .i64 d,.slc e f g]] i) h) Tryz.func118 (by kernel_rfl) (fun a w=>Tryz.call118 a w) (by kernel_rfl) (by kernel_rfl) rfl rfl
def zym(u:ByteArray)(v w x y z:Int)(A B:ByteArray)(C:Int)(D:Option Addr)(E F:Nat)(G:Option Addr)(H I:Nat)(J K L M N:Int)(e:World)(O:Value->World->Prop):Prop:=
 ∀a:Nat,e.heap.size<=a->∀b:Nat,e.heap.size<=b->∀c,zag [] [a,b] e c->FnP Tryz.prog zcC #[(.slice G H I)] c fun s q=>Ext c q/\∃f g h,s=(.slice f g h)/\∀d,zag [a] [a,b] q d->FnP Tryz.prog ze6 #[(.agg #[(.int .i64 z),(.string A),(.string B),(.int .i64 C),(.slice D E F)])] d fun t r=>Ext d r/\∃i j k l m n o,t=(.agg #[(.int .i64 i),(.string j),(.string k),(.int .i64 l),(.slice m n o)])/\∀p,zag [b,a] [] r p->O (.agg #[(.string u),(.int .i64 v),(.int .i64 w),(.int .i64 x),(.int .i64 y),(.int .i64 i),(.string j),(.string k),(.int .i64 l),(.slice m n o),(.slice f g h),(.int .i64 J),(.int .i64 K),(.int .i64 L),(.int .i64 M),(.int .i64 N)]) p
theorem zxH(a:ByteArray)(b c d e f:Int)(g i:ByteArray)(j:Int)(k:Option Addr)(l m:Nat)(n:Option Addr)(o p:Nat)(q r s t u:Int)(v:World)(w:Value->World->Prop)(h:zym a b c d e f g i j k l m n o p q r s t u v w):FnP Tryz.prog zjx #[(.agg #[(.string a),(.int .i64 b),(.int .i64 c),(.int .i64 d),(.int .i64 e),(.int .i64 f),(.string g),(.string i),(.int .i64 j),(.slice k l m),(.slice n o p),(.int .i64 q),(.int .i64 r),(.int .i64 s),(.int .i64 t),(.int .i64 u)])] v w:=
 zab (Eq.mp (by kernel_rfl:_=Runs Tryz.prog w ({N:=16}:Cfg) Tryz.f68 (Tryz.f68.body.getD .skip) [.agg [.str a,.int .i64 b,.int .i64 c,.int .i64 d,.int .i64 e,.int .i64 f,.str g,.str i,.int .i64 j,.slc k l m,.slc n o p,.int .i64 q,.int .i64 r,.int .i64 s,.int .i64 t,.int .i64 u]] v) h) Tryz.func68 (by kernel_rfl) (fun a w=>Tryz.call68 a w) (by kernel_rfl) (by kernel_rfl) rfl rfl
abbrev zcZ:FuncId:=18
abbrev zaA:FuncId:=23
abbrev zby:FuncId:=28
abbrev zcp:FuncId:=29
abbrev za8:FuncId:=31
abbrev zaO:FuncId:=55
abbrev zeB:FuncId:=56
abbrev zdI:FuncId:=58
abbrev zbc:FuncId:=67
abbrev zed:FuncId:=70
abbrev zb3:FuncId:=74
abbrev zaG:FuncId:=76
abbrev zao:FuncId:=110
abbrev zdn:FuncId:=120
abbrev zdH:FuncId:=126
def zqr(b:Option Addr)(a:Int)(c:World)(f:Value->World->Prop):Prop:=
 ((1<=a)->b≠none)/\((1<=a)->b≠none)/\((a<1)->∀g,Ext c g->f (.pointer none) g)/\((1<=a)->∃k d l,cell c (pAdd b 6) 0=some (.slice k d l)/\(((d:Int)<a)->∀h,Ext c h->f (.pointer none) h)/\((a<=(d:Int))->b≠none/\b≠none/\∃e i m,cell c (pAdd b 6) 0=some (.slice e i m)/\InR .i64 (a-1)/\e≠none/\(0:Int)<=(a-1)/\((a-1):Int)<(i:Int)/\∀j,Ext c j->f (.pointer (pIdx e (a-1) 16)) j))
theorem zpR(a:Option Addr)(b:Int)(c:World)(d:Value->World->Prop)(h:zqr a b c d):FnP Tryz.prog zbc #[(.pointer a),(.int .i64 b)] c d:=
 zab (Eq.mp (by kernel_rfl:_=Runs Tryz.prog d ({N:=23}:Cfg) Tryz.f67 (Tryz.f67.body.getD .skip) [.sc (.ptr a),.sc (.int .i64 b)] c) h) Tryz.func67 (by kernel_rfl) (fun a w=>Tryz.call67 a w) (by kernel_rfl) (by kernel_rfl) rfl rfl
def znA(b:Option Addr)(a:Int)(c:World)(f:Value->World->Prop):Prop:=
 ((((0<=a)/\(a<=1000000000))->b≠none))/\((((0<=a)/\(a<=1000000000))->b≠none))/\(((a<0)\/(1000000000<a))->∀g,Ext c g->f (.int .i64 4) g)/\(((0<=a)/\(a<=1000000000))->∃d,cell c (pAdd b 5) 0=some (.int .i64 d)/\InR .i64 (d+a)/\((1099511627776<(d+a))->∀h,Ext c h->f (.int .i64 4) h)/\(((d+a)<=1099511627776)->b≠none/\b≠none/\∃e,cell c (pAdd b 5) 0=some (.int .i64 e)/\InR .i64 (e+a)/\b≠none/\b≠none/\zan c (pAdd b 5) [(.int .i64 (e+a))] [] fun j=>∀i,Ext j i->f (.int .i64 0) i))
theorem zm4(a:Option Addr)(b:Int)(c:World)(d:Value->World->Prop)(h:znA a b c d):FnP Tryz.prog zcp #[(.pointer a),(.int .i64 b)] c d:=
 zab (Eq.mp (by kernel_rfl:_=Runs Tryz.prog d ({N:=28}:Cfg) Tryz.f29 (Tryz.f29.body.getD .skip) [.sc (.ptr a),.sc (.int .i64 b)] c) h) Tryz.func29 (by kernel_rfl) (fun a w=>Tryz.call29 a w) (by kernel_rfl) (by kernel_rfl) rfl rfl
def zoj(a:Option Addr)(d:World)(e:Value->World->Prop):Prop:=
 a≠none/\a≠none/\∃b,cell d (pAdd a 5) 0=some (.int .i64 b)/\∀c,Ext d c->e (.int .i64 b) c
theorem zn8(a:Option Addr)(b:World)(c:Value->World->Prop)(h:zoj a b c):FnP Tryz.prog zby #[(.pointer a)] b c:=
 zab (Eq.mp (by kernel_rfl:_=Runs Tryz.prog c ({N:=7}:Cfg) Tryz.f28 (Tryz.f28.body.getD .skip) [.sc (.ptr a)] b) h) Tryz.func28 (by kernel_rfl) (fun a w=>Tryz.call28 a w) (by kernel_rfl) (by kernel_rfl) rfl rfl
def zmc(t a:Option Addr)(u:World)(h:Value->World->Prop):Prop:=
 ∀i,Ext u i->New i 40 [(.pointer t)] fun q b=>a≠none/\a≠none/\∃e,cell b (pAdd a 11) 0=some (.int .i64 e)/\((e=1)->a≠none)/\((e=1)->a≠none)/\(((e=1)->∃c,cell b (pAdd a 14) 0=some (.int .i64 c)/\∃f,cell b q 0=some (.pointer f)/\f≠none/\f≠none/\∃d,cell b (pAdd f 5) 0=some (.int .i64 d)/\((c<=d)->a≠none)/\((c<=d)->a≠none)/\((c<=d)->(pAdd a 0)≠none)/\(((c<=d)->∃j k l,cell b (pAdd (pAdd a 0) 10) 0=some (.slice j k l)/\∀g,Ext b g->FnP Tryz.prog zaV #[(.slice j k l),(.func (.func 120) #[] #[(.pointer q)])] g fun r s=>Ext g s/\∃m,r=(.bool m)/\∀n,Ext b n->h (.bool (!m)) n))/\((d<c)->∀o,Ext b o->h (.bool false) o)))/\((e≠1)->∀p,Ext b p->h (.bool false) p)
theorem zlN(a b:Option Addr)(c:World)(d:Value->World->Prop)(h:zmc a b c d):FnP Tryz.prog zed #[(.pointer a),(.pointer b)] c d:=
 zab (Eq.mp (by kernel_rfl:_=Runs Tryz.prog d ({N:=31,pub:=[2]}:Cfg) Tryz.f70 (Tryz.f70.body.getD .skip) [.sc (.ptr a),.sc (.ptr b)] c) h) Tryz.func70 (by kernel_rfl) (fun a w=>Tryz.call70 a w) (by kernel_rfl) (by kernel_rfl) rfl rfl
def zj1(i:Int)(j:Option Addr)(g:World)(k:Value->World->Prop):Prop:=
 ∃d,cell g j 0=some (.pointer d)/\∀b,Ext g b->FnP Tryz.prog zbc #[(.pointer d),(.int .i64 i)] b fun h c=>Ext b c/\∃a,h=(.pointer a)/\a≠none/\a≠none/\∃e,cell c (pAdd a 11) 0=some (.int .i64 e)/\∀f,Ext c f->k (.bool (decide (e≠3))) f
theorem zjV(a:Int)(b:Option Addr)(c:World)(d:Value->World->Prop)(h:zj1 a b c d):FnP Tryz.prog zdn #[(.int .i64 a),(.pointer b)] c d:=
 zab (Eq.mp (by kernel_rfl:_=Runs Tryz.prog d ({N:=11}:Cfg) Tryz.f120 (Tryz.f120.body.getD .skip) [.sc (.int .i64 a),.sc (.ptr b)] c) h) Tryz.func120 (by kernel_rfl) (fun a w=>Tryz.call120 a w) (by kernel_rfl) (by kernel_rfl) rfl rfl
def znB(z:Option Addr)(A:World)(B:Value->World->Prop):Prop:=
 ∀n,Ext A n->New n 40 [(.pointer z)] fun l m=>∃g,cell m l 0=some (.pointer g)/\g≠none/\g≠none/\∃u i v,cell m (pAdd g 6) 0=some (.slice u i v)/\∃(f:Int->World->Prop) (e:Int->World->Nat),f 0 m/\∀(a:Int)(b:World),f a b->(((a<(i:Int))->∃h,cell b l 0=some (.pointer h)/\h≠none/\h≠none/\∃c o w,cell b (pAdd h 6) 0=some (.slice c o w)/\c≠none/\(0:Int)<=a/\(a:Int)<(o:Int)/\(pIdx c a 16)≠none/\(pIdx c a 16)≠none/\∃d,cell b (pAdd (pIdx c a 16) 11) 0=some (.int .i64 d)/\((d=1)->(pIdx c a 16)≠none)/\((d=1)->(pIdx c a 16)≠none)/\((d=1)->(pAdd (pIdx c a 16) 0)≠none)/\(((d=1)->∃p q r,cell b (pAdd (pAdd (pIdx c a 16) 0) 10) 0=some (.slice p q r)/\∀j,Ext b j->FnP Tryz.prog zaV #[(.slice p q r),(.func (.func 126) #[] #[(.pointer l)])] j fun x y=>Ext j y/\∃k,x=(.bool k)/\(((k=true)->(pIdx c a 16)≠none/\(pIdx c a 16)≠none/\zan b (pAdd (pIdx c a 16) 11) [(.int .i64 5)] [] fun t=>InR .i64 (a+1)/\(f (a+1) t/\e (a+1) t<e a b)))/\((k=false)->InR .i64 (a+1)/\(f (a+1) b/\e (a+1) b<e a b))))/\((d≠1)->InR .i64 (a+1)/\(f (a+1) b/\e (a+1) b<e a b))))/\(((i:Int)<=a)->∀s,Ext b s->B (.tuple #[]) s)
theorem zm5(a:Option Addr)(b:World)(c:Value->World->Prop)(h:znB a b c):FnP Tryz.prog zaG #[(.pointer a)] b c:=
 zab (Eq.mp (by kernel_rfl:_=Runs Tryz.prog c ({N:=36,pub:=[1]}:Cfg) Tryz.f76 (Tryz.f76.body.getD .skip) [.sc (.ptr a)] b) h) Tryz.func76 (by kernel_rfl) (fun a w=>Tryz.call76 a w) (by kernel_rfl) (by kernel_rfl) rfl rfl
def zk2(i:Int)(j:Option Addr)(g:World)(k:Value->World->Prop):Prop:=
 ∃e,cell g j 0=some (.pointer e)/\∀b,Ext g b->FnP Tryz.prog zbc #[(.pointer e),(.int .i64 i)] b fun h d=>Ext b d/\∃a,h=(.pointer a)/\a≠none/\a≠none/\∃c,cell d (pAdd a 11) 0=some (.int .i64 c)/\∀f,Ext d f->k (.bool ((decide (c=4))||(decide (c=5)))) f
theorem zkL(a:Int)(b:Option Addr)(c:World)(d:Value->World->Prop)(h:zk2 a b c d):FnP Tryz.prog zdH #[(.int .i64 a),(.pointer b)] c d:=
 zab (Eq.mp (by kernel_rfl:_=Runs Tryz.prog d ({N:=17}:Cfg) Tryz.f126 (Tryz.f126.body.getD .skip) [.sc (.int .i64 a),.sc (.ptr b)] c) h) Tryz.func126 (by kernel_rfl) (fun a w=>Tryz.call126 a w) (by kernel_rfl) (by kernel_rfl) rfl rfl
def zmb(b a:Option Addr)(c:World)(v:Value->World->Prop):Prop:=
 b≠none/\b≠none/\∃e f g,cell c (pAdd b 0) 0=some (.slice e f g)/\a≠none/\a≠none/\∃h,cell c (pAdd a 12) 0=some (.int .i64 h)/\a≠none/\a≠none/\(pAdd a 0)≠none/\(pAdd (pAdd a 0) 2)≠none/\∃i,cell c (pAdd (pAdd a 0) 2) 0=some (.int .i64 i)/\∃j,cell c (pAdd (pAdd a 0) 2) 1=some (.int .i64 j)/\∃k,cell c (pAdd (pAdd a 0) 2) 2=some (.int .i64 k)/\∀d,Ext c d->FnP Tryz.prog zkl #[(.slice e f g),(.int .i64 h),(.agg #[(.int .i64 i),(.int .i64 j),(.int .i64 k)])] d fun r p=>Ext d p/\∃l m n q,r=(.tuple #[(.slice l m n),(.int .i64 q)])/\b≠none/\b≠none/\zan p (pAdd b 0) [(.slice l m n)] [] fun s=>a≠none/\a≠none/\zan s (pAdd a 12) [(.int .i64 0)] [] fun t=>a≠none/\a≠none/\zan t (pAdd a 13) [(.int .i64 0)] [] fun u=>∀o,Ext u o->v (.tuple #[]) o
theorem zlM(a b:Option Addr)(c:World)(d:Value->World->Prop)(h:zmb a b c d):FnP Tryz.prog zb3 #[(.pointer a),(.pointer b)] c d:=
 zab (Eq.mp (by kernel_rfl:_=Runs Tryz.prog d ({N:=30}:Cfg) Tryz.f74 (Tryz.f74.body.getD .skip) [.sc (.ptr a),.sc (.ptr b)] c) h) Tryz.func74 (by kernel_rfl) (fun a w=>Tryz.call74 a w) (by kernel_rfl) (by kernel_rfl) rfl rfl
def zny(q:Option Addr)(an:World)(au:Value->World->Prop):Prop:=
 q≠none/\q≠none/\∃c e ao,cell an (pAdd q 6) 0=some (.slice c e ao)/\∃(p:Option Addr->Nat->Nat->Int->World->Prop) (am:Option Addr->Nat->Nat->Int->World->Nat),p none 0 0 0 an/\∀(f:Option Addr)(g:Nat)(h:Nat)(a:Int)(b:World),p f g h a b->(((a<(e:Int))->c≠none/\(0:Int)<=a/\(a:Int)<(e:Int)/\(pIdx c a 16)≠none/\∃r,cell b (pIdx c a 16) 0=some (.string r)/\∃s,cell b (pIdx c a 16) 1=some (.int .i64 s)/\∃t,cell b (pIdx c a 16) 2=some (.int .i64 t)/\∃u,cell b (pIdx c a 16) 3=some (.int .i64 u)/\∃v,cell b (pIdx c a 16) 4=some (.int .i64 v)/\∃w,cell b (pIdx c a 16) 5=some (.int .i64 w)/\∃x,cell b (pIdx c a 16) 6=some (.string x)/\∃y,cell b (pIdx c a 16) 7=some (.string y)/\∃z,cell b (pIdx c a 16) 8=some (.int .i64 z)/\∃A B C,cell b (pIdx c a 16) 9=some (.slice A B C)/\∃D E F,cell b (pIdx c a 16) 10=some (.slice D E F)/\∃G,cell b (pIdx c a 16) 11=some (.int .i64 G)/\∃H,cell b (pIdx c a 16) 12=some (.int .i64 H)/\∃I,cell b (pIdx c a 16) 13=some (.int .i64 I)/\∃J,cell b (pIdx c a 16) 14=some (.int .i64 J)/\∃K,cell b (pIdx c a 16) 15=some (.int .i64 K)/\∀d:Nat,b.heap.size<=d->∀i,zag [] [d] b i->FnP Tryz.prog zjx #[(.agg #[(.string r),(.int .i64 s),(.int .i64 t),(.int .i64 u),(.int .i64 v),(.int .i64 w),(.string x),(.string y),(.int .i64 z),(.slice A B C),(.slice D E F),(.int .i64 G),(.int .i64 H),(.int .i64 I),(.int .i64 J),(.int .i64 K)])] i fun ap ak=>Ext i ak/\∃L M N O P R S T U V W X Y Z aa ab ac ad ae af,ap=(.agg #[(.string L),(.int .i64 M),(.int .i64 N),(.int .i64 O),(.int .i64 P),(.int .i64 R),(.string S),(.string T),(.int .i64 U),(.slice V W X),(.slice Y Z aa),(.int .i64 ab),(.int .i64 ac),(.int .i64 ad),(.int .i64 ae),(.int .i64 af)])/\∀j,zag [] [d] ak j->Run Tryz.prog (.buildSlice 57 1 [(0,(.agg #[(.string L),(.int .i64 M),(.int .i64 N),(.int .i64 O),(.int .i64 P),(.int .i64 R),(.string S),(.string T),(.int .i64 U),(.slice V W X),(.slice Y Z aa),(.int .i64 ab),(.int .i64 ac),(.int .i64 ad),(.int .i64 ae),(.int .i64 af)]))]) j fun aq al=>Ext j al/\∃ag ah ai,aq=(.slice ag ah ai)/\∀k,zag [] [d] al k->Run Tryz.prog (.append #[57,57] 57 [(.slice f g h),(.slice ag ah ai)]) k fun ar o=>zbK [d] k o/\∃l m n,ar=(.slice l m n)/\InR .i64 (a+1)/\(p l m n (a+1) o/\am l m n (a+1) o<am f g h a b)))/\(((e:Int)<=a)->∀aj,Ext b aj->au (.slice f g h) aj)
theorem zm2(a:Option Addr)(b:World)(c:Value->World->Prop)(h:zny a b c):FnP Tryz.prog zaA #[(.pointer a)] b c:=
 zab (Eq.mp (by kernel_rfl:_=Runs Tryz.prog c ({N:=22}:Cfg) Tryz.f23 (Tryz.f23.body.getD .skip) [.sc (.ptr a)] b) h) Tryz.func23 (by kernel_rfl) (fun a w=>Tryz.call23 a w) (by kernel_rfl) (by kernel_rfl) rfl rfl
def zma(b:Option Addr)(k:World)(m:Value->World->Prop):Prop:=
 b≠none/\b≠none/\∃c d e,cell k (pAdd b 0) 0=some (.slice c d e)/\∀a,Ext k a->FnP Tryz.prog zdI #[(.slice c d e)] a fun l j=>Ext a j/\∃f g h,l=(.slice f g h)/\∀i,Ext j i->m (.slice f g h) i
theorem zlL(a:Option Addr)(b:World)(c:Value->World->Prop)(h:zma a b c):FnP Tryz.prog za8 #[(.pointer a)] b c:=
 zab (Eq.mp (by kernel_rfl:_=Runs Tryz.prog c ({N:=8}:Cfg) Tryz.f31 (Tryz.f31.body.getD .skip) [.sc (.ptr a)] b) h) Tryz.func31 (by kernel_rfl) (fun a w=>Tryz.call31 a w) (by kernel_rfl) (by kernel_rfl) rfl rfl
def zok(v:Option Addr)(w x:Nat)(y:World)(z:Value->World->Prop):Prop:=
 ∀e,Ext y e->FnP Tryz.prog zal #[(.slice v w x)] e fun t p=>Ext e p/\∃b c h,t=(.slice b c h)/\∃(g:Int->World->Prop) (s:Int->World->Nat),g 0 p/\∀(a:Int)(d:World),g a d->(((a<(c:Int))->b≠none/\(0:Int)<=a/\(a:Int)<(c:Int)/\(pIdx b a 8)≠none/\∃i j k,cell d (pAdd (pIdx b a 8) 1) 0=some (.slice i j k)/\∀f,Ext d f->FnP Tryz.prog zaH #[(.slice i j k)] f fun u q=>Ext f q/\∃l m n,u=(.slice l m n)/\b≠none/\(0:Int)<=a/\(a:Int)<(c:Int)/\(pIdx b a 8)≠none/\zan q (pAdd (pIdx b a 8) 1) [(.slice l m n)] [] fun r=>InR .i64 (a+1)/\(g (a+1) r/\s (a+1) r<s a d)))/\(((c:Int)<=a)->∀o,Ext d o->z (.slice b c h) o)
theorem zn9(a:Option Addr)(b c:Nat)(d:World)(e:Value->World->Prop)(h:zok a b c d e):FnP Tryz.prog zdI #[(.slice a b c)] d e:=
 zab (Eq.mp (by kernel_rfl:_=Runs Tryz.prog e ({N:=23}:Cfg) Tryz.f58 (Tryz.f58.body.getD .skip) [.sc (.slc a b c)] d) h) Tryz.func58 (by kernel_rfl) (fun a w=>Tryz.call58 a w) (by kernel_rfl) (by kernel_rfl) rfl rfl
def zyl(k:Option Addr)(l m:Nat)(t u v w:Int)(a:World)(g:Value->World->Prop):Prop:=
 ∀h:Nat,a.heap.size<=h->∀i,Ext a i->FnP Tryz.prog zcf #[(.slice k l m)] i fun x y=>Ext i y/\∃e,x=(.int .i64 e)/\((e≠0)->∀b,Ext a b->g (.tuple #[(.pointer none),(.int .i64 e)]) b)/\((e=0)->∀b,Ext a b->FnP Tryz.prog zaO #[(.slice k l m),(.func (.func 56) #[] #[])] b fun z A=>Ext b A/\∃j,z=(.bool j)/\((j=true)->∀c,Ext a c->g (.tuple #[(.pointer none),(.int .i64 9)]) c)/\((j=false)->∀c,Ext a c->FnP Tryz.prog zdJ #[(.agg #[(.int .i64 t),(.int .i64 u),(.int .i64 v),(.int .i64 w)])] c fun B C=>Ext c C/\∃f,B=(.int .i64 f)/\((f≠0)->∀d,Ext a d->g (.tuple #[(.pointer none),(.int .i64 f)]) d)/\((f=0)->∀d,zag [] [h] a d->FnP Tryz.prog zdI #[(.slice k l m)] d fun D s=>Ext d s/\∃n o p,D=(.slice n o p)/\∀q,zag [] [h] s q->New q 128 [(.slice n o p),(.int .i64 t),(.int .i64 u),(.int .i64 v),(.int .i64 w),(.int .i64 0),(.slice none 0 0)] fun E F=>∀r,Ext F r->g (.tuple #[(.pointer E),(.int .i64 0)]) r)))
theorem zxG(a:Option Addr)(b c:Nat)(d e f g:Int)(i:World)(j:Value->World->Prop)(h:zyl a b c d e f g i j):FnP Tryz.prog zcZ #[(.agg #[(.slice a b c),(.int .i64 d),(.int .i64 e),(.int .i64 f),(.int .i64 g)])] i j:=
 zab (Eq.mp (by kernel_rfl:_=Runs Tryz.prog j ({N:=28,pub:=[27]}:Cfg) Tryz.f18 (Tryz.f18.body.getD .skip) [.agg [.slc a b c,.int .i64 d,.int .i64 e,.int .i64 f,.int .i64 g]] i) h) Tryz.func18 (by kernel_rfl) (fun a w=>Tryz.call18 a w) (by kernel_rfl) (by kernel_rfl) rfl rfl
def ztO(l:ByteArray)(m:Option Addr)(n o:Nat)(p q r h i j:Int)(b:World)(k:Value->World->Prop):Prop:=
 ∀e:Nat,b.heap.size<=e->∀a,Ext b a->Run Tryz.prog (.eq .neq 44 false false (.agg #[(.int .i64 h),(.int .i64 i),(.int .i64 j)]) (.agg #[(.int .i64 0),(.int .i64 0),(.int .i64 0)])) a fun f g=>Ext a g/\∃c,f=(.bool c)/\∀d,Ext b d->k (.bool c) d
theorem ztd(a:ByteArray)(b:Option Addr)(c d:Nat)(e f g i j k:Int)(l:World)(m:Value->World->Prop)(h:ztO a b c d e f g i j k l m):FnP Tryz.prog zeB #[(.agg #[(.string a),(.slice b c d),(.int .i64 e),(.int .i64 f),(.int .i64 g),(.int .i64 i),(.int .i64 j),(.int .i64 k)])] l m:=
 zab (Eq.mp (by kernel_rfl:_=Runs Tryz.prog m ({N:=7}:Cfg) Tryz.f56 (Tryz.f56.body.getD .skip) [.agg [.str a,.slc b c d,.int .i64 e,.int .i64 f,.int .i64 g,.int .i64 i,.int .i64 j,.int .i64 k]] l) h) Tryz.func56 (by kernel_rfl) (fun a w=>Tryz.call56 a w) (by kernel_rfl) (by kernel_rfl) rfl rfl
def zcK(g:Option Addr)(h i:Nat)(j:Value)(d:World)(k:Value->World->Prop):Prop:=
 ∀a,Ext d a->FnP Tryz.prog zao #[(.slice g h i),j] a fun e f=>Ext a f/\∃b,e=(.int .i64 b)/\∀c,Ext d c->k (.bool (decide (0<=b))) c
theorem zcJ(a:Option Addr)(b c:Nat)(d:Value)(e:World)(f:Value->World->Prop)(h:zcK a b c d e f):FnP Tryz.prog zaO #[(.slice a b c),d] e f:=
 zab (Eq.mp (by kernel_rfl:_=Runs Tryz.prog f ({N:=9}:Cfg) Tryz.f55 (Tryz.f55.body.getD .skip) [.sc (.slc a b c),.sc (.val d)] e) h) Tryz.func55 (by kernel_rfl) (fun a w=>Tryz.call55 a w) (by kernel_rfl) (by kernel_rfl) rfl rfl
def zdf(c:Option Addr)(g z:Nat)(x:Value)(y:World)(u:Value->World->Prop):Prop:=
 ∃(f:Int->World->Prop) (t:Int->World->Nat),f 0 y/\∀(a:Int)(b:World),f a b->(((a<(g:Int))->c≠none/\(0:Int)<=a/\(a:Int)<(g:Int)/\(pIdx c a 8)≠none/\∃h,cell b (pIdx c a 8) 0=some (.string h)/\∃i j k,cell b (pIdx c a 8) 1=some (.slice i j k)/\∃l,cell b (pIdx c a 8) 2=some (.int .i64 l)/\∃m,cell b (pIdx c a 8) 3=some (.int .i64 m)/\∃n,cell b (pIdx c a 8) 4=some (.int .i64 n)/\∃o,cell b (pIdx c a 8) 5=some (.int .i64 o)/\∃p,cell b (pIdx c a 8) 6=some (.int .i64 p)/\∃q,cell b (pIdx c a 8) 7=some (.int .i64 q)/\∀d,Ext b d->zil Tryz.prog x [(.agg #[(.string h),(.slice i j k),(.int .i64 l),(.int .i64 m),(.int .i64 n),(.int .i64 o),(.int .i64 p),(.int .i64 q)])] d fun v w=>Ext d w/\∃e,v=(.bool e)/\((e=true)->∀r,Ext b r->u (.int .i64 a) r)/\((e=false)->InR .i64 (a+1)/\(f (a+1) b/\t (a+1) b<t a b))))/\(((g:Int)<=a)->∀s,Ext b s->u (.int .i64 (-1)) s)
theorem zbs(a:Option Addr)(b c:Nat)(d:Value)(e:World)(f:Value->World->Prop)(h:zdf a b c d e f):FnP Tryz.prog zao #[(.slice a b c),d] e f:=
 zab (Eq.mp (by kernel_rfl:_=Runs Tryz.prog f ({N:=19}:Cfg) Tryz.f110 (Tryz.f110.body.getD .skip) [.sc (.slc a b c),.sc (.val d)] e) h) Tryz.func110 (by kernel_rfl) (fun a w=>Tryz.call110 a w) (by kernel_rfl) (by kernel_rfl) rfl rfl
abbrev za2:FuncId:=21
abbrev zbo:FuncId:=22
abbrev zaT:FuncId:=24
abbrev zcx:FuncId:=32
abbrev zcH:FuncId:=81
def zk1(a:Option Addr)(an:ByteArray)(ao ap aq ar au:Int)(av aw:ByteArray)(ax:Int)(ay:Option Addr)(az aA:Nat)(i:Option Addr)(g aB:Nat)(j:World)(n:Value->World->Prop):Prop:=
 ∀f:Nat,j.heap.size<=f->∀q,Ext j q->FnP Tryz.prog zdo #[(.agg #[(.string an),(.int .i64 ao),(.int .i64 ap),(.int .i64 aq),(.int .i64 ar),(.int .i64 au),(.string av),(.string aw),(.int .i64 ax),(.slice ay az aA),(.slice i g aB)])] q fun aG aH=>Ext q aH/\∃o,aG=(.int .i64 o)/\((o≠0)->∀y,Ext j y->n (.tuple #[(.int .i64 0),(.int .i64 o)]) y)/\((o=0)->a≠none/\a≠none/\∃aC r aD,cell j (pAdd a 6) 0=some (.slice aC r aD)/\(((r:Int)=60)->∀z,Ext j z->n (.tuple #[(.int .i64 0),(.int .i64 7)]) z)/\(((r:Int)≠60)->∃(w:Int->World->Prop) (al:Int->World->Nat),w 0 j/\∀(c:Int)(m:World),w c m->(((c<(g:Int))->i≠none/\(0:Int)<=c/\(c:Int)<(g:Int)/\∃A,cell m (pIdx i c 1) 0=some (.int .i64 A)/\∀s,zag [] [f] m s->FnP Tryz.prog zbc #[(.pointer a),(.int .i64 A)] s fun aI b=>Ext s b/\∃e,aI=(.pointer e)/\((e=none)->∀h,Ext b h->n (.tuple #[(.int .i64 0),(.int .i64 5)]) h)/\((e≠none)->InR .i64 (c+1)/\(w (c+1) b/\al (c+1) b<al c m))))/\(((g:Int)<=c)->∃(x:Int->World->Prop) (am:Int->World->Nat),x 0 m/\∀(d:Int)(b:World),x d b->(((d<(g:Int))->i≠none/\(0:Int)<=d/\(d:Int)<(g:Int)/\∃e,cell b (pIdx i d 1) 0=some (.int .i64 e)/\∀h,zag [] [f] b h->FnP Tryz.prog zbc #[(.pointer a),(.int .i64 e)] h fun aJ l=>Ext h l/\∃p,aJ=(.pointer p)/\p≠none/\p≠none/\∃k,cell l (pAdd p 11) 0=some (.int .i64 k)/\(((k=4)\/(k=5))->∀B,Ext l B->n (.tuple #[(.int .i64 0),(.int .i64 9)]) B)/\(((k≠4)/\(k≠5))->InR .i64 (d+1)/\(x (d+1) l/\am (d+1) l<am d b))))/\(((g:Int)<=d)->a≠none/\a≠none/\∃e C D,cell b (pAdd a 6) 0=some (.slice e C D)/\∀t,zag [] [f] b t->FnP Tryz.prog zjx #[(.agg #[(.string an),(.int .i64 ao),(.int .i64 ap),(.int .i64 aq),(.int .i64 ar),(.int .i64 au),(.string av),(.string aw),(.int .i64 ax),(.slice ay az aA),(.slice i g aB),(.int .i64 1),(.int .i64 0),(.int .i64 0),(.int .i64 0),(.int .i64 0)])] t fun aK ah=>Ext t ah/\∃E F G H I J K L M N O P R S T U V W X Y,aK=(.agg #[(.string E),(.int .i64 F),(.int .i64 G),(.int .i64 H),(.int .i64 I),(.int .i64 J),(.string K),(.string L),(.int .i64 M),(.slice N O P),(.slice R S T),(.int .i64 U),(.int .i64 V),(.int .i64 W),(.int .i64 X),(.int .i64 Y)])/\∀u,zag [] [f] ah u->Run Tryz.prog (.buildSlice 57 1 [(0,(.agg #[(.string E),(.int .i64 F),(.int .i64 G),(.int .i64 H),(.int .i64 I),(.int .i64 J),(.string K),(.string L),(.int .i64 M),(.slice N O P),(.slice R S T),(.int .i64 U),(.int .i64 V),(.int .i64 W),(.int .i64 X),(.int .i64 Y)]))]) u fun aL ai=>Ext u ai/\∃Z aa ab,aL=(.slice Z aa ab)/\∀v,zag [] [f] ai v->Run Tryz.prog (.append #[57,57] 57 [(.slice e C D),(.slice Z aa ab)]) v fun aM aj=>zbK [f] v aj/\∃ac ad ae,aM=(.slice ac ad ae)/\a≠none/\a≠none/\zan aj (pAdd a 6) [(.slice ac ad ae)] [f] fun ak=>a≠none/\a≠none/\∃aE af aF,cell ak (pAdd a 6) 0=some (.slice aE af aF)/\∀ag,Ext ak ag->n (.tuple #[(.int .i64 (af:Int)),(.int .i64 0)]) ag))))
theorem zfD(a:Option Addr)(b:ByteArray)(c d e f g:Int)(i j:ByteArray)(k:Int)(l:Option Addr)(m n:Nat)(o:Option Addr)(p q:Nat)(r:World)(s:Value->World->Prop)(h:zk1 a b c d e f g i j k l m n o p q r s):FnP Tryz.prog za2 #[(.pointer a),(.agg #[(.string b),(.int .i64 c),(.int .i64 d),(.int .i64 e),(.int .i64 f),(.int .i64 g),(.string i),(.string j),(.int .i64 k),(.slice l m n),(.slice o p q)])] r s:=
 zab (Eq.mp (by kernel_rfl:_=Runs Tryz.prog s ({N:=72}:Cfg) Tryz.f21 (Tryz.f21.body.getD .skip) [.sc (.ptr a),.agg [.str b,.int .i64 c,.int .i64 d,.int .i64 e,.int .i64 f,.int .i64 g,.str i,.str j,.int .i64 k,.slc l m n,.slc o p q]] r) h) Tryz.func21 (by kernel_rfl) (fun a w=>Tryz.call21 a w) (by kernel_rfl) (by kernel_rfl) rfl rfl
def zk0(b:Option Addr)(F:Int)(x:Bool)(G:World)(g:Value->World->Prop):Prop:=
 ∀i,Ext G i->FnP Tryz.prog zbc #[(.pointer b),(.int .i64 F)] i fun y f=>Ext i f/\∃a,y=(.pointer a)/\((a=none)->∀r,Ext f r->g (.int .i64 5) r)/\((a≠none)->a≠none/\a≠none/\∃j,cell f (pAdd a 11) 0=some (.int .i64 j)/\((j≠2)->∀d,Ext f d->g (.int .i64 9) d)/\((j=2)->∀d,Ext f d->FnP Tryz.prog zb3 #[(.pointer b),(.pointer a)] d fun z p=>z=(.tuple #[])/\(((x=true)->a≠none/\a≠none/\zan p (pAdd a 11) [(.int .i64 3)] [] fun A=>∀c,Ext A c->g (.int .i64 0) c))/\((x=false)->a≠none/\a≠none/\∃k,cell p (pAdd a 15) 0=some (.int .i64 k)/\InR .i64 (k+1)/\a≠none/\a≠none/\zan p (pAdd a 15) [(.int .i64 (k+1))] [] fun c=>b≠none/\b≠none/\(pAdd b 1)≠none/\∃s,cell c (pAdd b 1) 0=some (.int .i64 s)/\∃t,cell c (pAdd b 1) 1=some (.int .i64 t)/\∃u,cell c (pAdd b 1) 2=some (.int .i64 u)/\∃v,cell c (pAdd b 1) 3=some (.int .i64 v)/\a≠none/\a≠none/\∃w,cell c (pAdd a 15) 0=some (.int .i64 w)/\∀l,Ext c l->FnP Tryz.prog zdK #[(.agg #[(.int .i64 s),(.int .i64 t),(.int .i64 u),(.int .i64 v)]),(.int .i64 w)] l fun B C=>Ext l C/\∃m n,B=(.tuple #[(.int .i64 m),(.int .i64 n)])/\(((n≠0)->a≠none/\a≠none/\zan c (pAdd a 11) [(.int .i64 4)] [] fun D=>∀h,Ext D h->FnP Tryz.prog zaG #[(.pointer b)] h fun E q=>E=(.tuple #[])/\∀e,Ext q e->g (.int .i64 0) e))/\((n=0)->b≠none/\b≠none/\∃o,cell c (pAdd b 5) 0=some (.int .i64 o)/\InR .i64 (o+m)/\a≠none/\a≠none/\zan c (pAdd a 11) [(.int .i64 1)] [] fun h=>a≠none/\a≠none/\zan h (pAdd a 14) [(.int .i64 (o+m))] [] fun q=>∀e,Ext q e->g (.int .i64 0) e))))
theorem zkK(a:Option Addr)(b:Int)(c:Bool)(d:World)(e:Value->World->Prop)(h:zk0 a b c d e):FnP Tryz.prog zaT #[(.pointer a),(.int .i64 b),(.bool c)] d e:=
 zab (Eq.mp (by kernel_rfl:_=Runs Tryz.prog e ({N:=67,muts:=[74,76]}:Cfg) Tryz.f24 (Tryz.f24.body.getD .skip) [.sc (.ptr a),.sc (.int .i64 b),.sc (.bool (.atom true c))] d) h) Tryz.func24 (by kernel_rfl) (fun a w=>Tryz.call24 a w) (by kernel_rfl) (by kernel_rfl) rfl rfl
def zkZ(i:Option Addr)(w:Int)(x:World)(j:Value->World->Prop):Prop:=
 ∀m,Ext x m->FnP Tryz.prog zbc #[(.pointer i),(.int .i64 w)] m fun r b=>Ext m b/\∃a,r=(.pointer a)/\((a=none)->∀p,Ext b p->j (.int .i64 5) p)/\((a≠none)->a≠none/\a≠none/\∃k,cell b (pAdd a 11) 0=some (.int .i64 k)/\((k≠1)->a≠none)/\((k≠1)->a≠none)/\(((k≠1)->∃f,cell b (pAdd a 11) 0=some (.int .i64 f)/\((f≠2)->∀g,Ext b g->j (.int .i64 9) g)/\((f=2)->a≠none/\a≠none/\∃n,cell b (pAdd a 11) 0=some (.int .i64 n)/\(((n=2)->∀c,Ext b c->FnP Tryz.prog zb3 #[(.pointer i),(.pointer a)] c fun o e=>o=(.tuple #[])/\a≠none/\a≠none/\zan e (pAdd a 11) [(.int .i64 5)] [] fun d=>∀h,Ext d h->FnP Tryz.prog zaG #[(.pointer i)] h fun s l=>s=(.tuple #[])/\∀q,Ext l q->j (.int .i64 0) q))/\((n≠2)->a≠none/\a≠none/\zan b (pAdd a 11) [(.int .i64 5)] [] fun c=>∀e,Ext c e->FnP Tryz.prog zaG #[(.pointer i)] e fun t d=>t=(.tuple #[])/\∀h,Ext d h->j (.int .i64 0) h))))/\((k=1)->a≠none/\a≠none/\∃f,cell b (pAdd a 11) 0=some (.int .i64 f)/\(((f=2)->∀g,Ext b g->FnP Tryz.prog zb3 #[(.pointer i),(.pointer a)] g fun u c=>u=(.tuple #[])/\a≠none/\a≠none/\zan c (pAdd a 11) [(.int .i64 5)] [] fun e=>∀d,Ext e d->FnP Tryz.prog zaG #[(.pointer i)] d fun v h=>v=(.tuple #[])/\∀l,Ext h l->j (.int .i64 0) l))/\((f≠2)->a≠none/\a≠none/\zan b (pAdd a 11) [(.int .i64 5)] [] fun g=>∀c,Ext g c->FnP Tryz.prog zaG #[(.pointer i)] c fun o e=>o=(.tuple #[])/\∀d,Ext e d->j (.int .i64 0) d)))
theorem zkJ(a:Option Addr)(b:Int)(c:World)(d:Value->World->Prop)(h:zkZ a b c d):FnP Tryz.prog zcH #[(.pointer a),(.int .i64 b)] c d:=
 zab (Eq.mp (by kernel_rfl:_=Runs Tryz.prog d ({N:=38,muts:=[74,76]}:Cfg) Tryz.f81 (Tryz.f81.body.getD .skip) [.sc (.ptr a),.sc (.int .i64 b)] c) h) Tryz.func81 (by kernel_rfl) (fun a w=>Tryz.call81 a w) (by kernel_rfl) (by kernel_rfl) rfl rfl
def znz(c:Option Addr)(bj:World)(bk:Value->World->Prop):Prop:=
 ∀x,Ext bj x->FnP Tryz.prog zko #[] x fun aX K=>Ext x K/\∃l,aX=(.pointer l)/\c≠none/\c≠none/\∃aS y aT,cell K (pAdd c 6) 0=some (.slice aS y aT)/\∃(t:Int->World->Prop) (u:Int->World->Nat),t 0 K/\∀(b:Int)(f:World),t b f->(((b<(y:Int))->c≠none/\c≠none/\∃g M aU,cell f (pAdd c 6) 0=some (.slice g M aU)/\g≠none/\(0:Int)<=b/\(b:Int)<(M:Int)/\∀z,Ext f z->FnP Tryz.prog zed #[(.pointer c),(.pointer (pIdx g b 16))] z fun aY aZ=>Ext z aZ/\∃A,aY=(.bool A)/\(((A=true)->(pIdx g b 16)≠none/\(pIdx g b 16)≠none/\(pAdd (pIdx g b 16) 0)≠none/\∃N,cell f (pAdd (pAdd (pIdx g b 16) 0) 1) 0=some (.int .i64 N)/\InR .i64 (b+1)/\∀p,Ext f p->FnP Tryz.prog zeg #[(.pointer l),(.int .i64 N),(.int .i64 (b+1))] p fun a0 aK=>∃aV,a0=(.int .i64 aV)/\InR .i64 (b+1)/\(t (b+1) aK/\u (b+1) aK<u b f)))/\((A=false)->InR .i64 (b+1)/\(t (b+1) f/\u (b+1) f<u b f))))/\(((y:Int)<=b)->∀O,Ext f O->FnP Tryz.prog za3 #[(.pointer l)] O fun a1 a2=>∃P R S,a1=(.tuple #[(.agg #[(.int .i64 P),(.int .i64 R)]),(.bool S)])/\∀T,Ext a2 T->New T 145 [(.int .i64 0),(.int .i64 0)] fun aL a3=>zan a3 aL [(.int .i64 P),(.int .i64 R)] [] fun p=>∃(v:Option Addr->Nat->Nat->Option Addr->Bool->World->Prop) (w:Option Addr->Nat->Nat->Option Addr->Bool->World->Nat),v none 0 0 aL S p/\∀(h:Option Addr)(i:Nat)(j:Nat)(e:Option Addr)(o:Bool)(k:World),v h i j e o k->(((o=true)->e≠none/\∃U,cell k (pAdd e 1) 0=some (.int .i64 U)/\∀B,Ext k B->FnP Tryz.prog zbc #[(.pointer c),(.int .i64 U)] B fun a4 d=>Ext B d/\∃a,a4=(.pointer a)/\c≠none/\c≠none/\∃V W X,cell d (pAdd c 0) 0=some (.slice V W X)/\a≠none/\a≠none/\(pAdd a 0)≠none/\(pAdd (pAdd a 0) 5)≠none/\∃Y,cell d (pAdd (pAdd a 0) 5) 0=some (.int .i64 Y)/\∃Z,cell d (pAdd (pAdd a 0) 5) 1=some (.string Z)/\∃aa,cell d (pAdd (pAdd a 0) 5) 2=some (.string aa)/\∃ab,cell d (pAdd (pAdd a 0) 5) 3=some (.int .i64 ab)/\∃ac ad ae,cell d (pAdd (pAdd a 0) 5) 4=some (.slice ac ad ae)/\a≠none/\a≠none/\(pAdd a 0)≠none/\(pAdd (pAdd a 0) 2)≠none/\∃af,cell d (pAdd (pAdd a 0) 2) 0=some (.int .i64 af)/\∃ag,cell d (pAdd (pAdd a 0) 2) 1=some (.int .i64 ag)/\∃ah,cell d (pAdd (pAdd a 0) 2) 2=some (.int .i64 ah)/\∀C,Ext d C->FnP Tryz.prog zfp #[(.slice V W X),(.agg #[(.int .i64 Y),(.string Z),(.string aa),(.int .i64 ab),(.slice ac ad ae)]),(.agg #[(.int .i64 af),(.int .i64 ag),(.int .i64 ah)])] C fun a5 a6=>Ext C a6/\∃q D,a5=(.tuple #[(.int .i64 q),(.int .i64 D)])/\(((D≠0)->e≠none/\∃m,cell d e 0=some (.int .i64 m)/\∃ai,cell d e 1=some (.int .i64 ai)/\∀aj,Ext d aj->New aj 145 [(.int .i64 0),(.int .i64 0)] fun r a7=>zan a7 r [(.int .i64 m),(.int .i64 ai)] [] fun a8=>∀ak,Ext a8 ak->FnP Tryz.prog za3 #[(.pointer l)] ak fun a9 n=>∃al am E,a9=(.tuple #[(.agg #[(.int .i64 al),(.int .i64 am)]),(.bool E)])/\zan n r [(.int .i64 al),(.int .i64 am)] [] fun aM=>(v h i j r E aM/\w h i j r E aM<w h i j e o k)))/\((D=0)->c≠none/\c≠none/\∃m an ao,cell d (pAdd c 0) 0=some (.slice m an ao)/\a≠none/\a≠none/\(pAdd a 0)≠none/\(pAdd (pAdd a 0) 2)≠none/\∃ap,cell d (pAdd (pAdd a 0) 2) 0=some (.int .i64 ap)/\∃aq,cell d (pAdd (pAdd a 0) 2) 1=some (.int .i64 aq)/\∃ar,cell d (pAdd (pAdd a 0) 2) 2=some (.int .i64 ar)/\∀n,Ext d n->FnP Tryz.prog zkm #[(.slice m an ao),(.int .i64 q),(.agg #[(.int .i64 ap),(.int .i64 aq),(.int .i64 ar)])] n fun ba aN=>Ext n aN/\∃au av aw aW,ba=(.tuple #[(.slice au av aw),(.int .i64 aW)])/\c≠none/\c≠none/\zan aN (pAdd c 0) [(.slice au av aw)] [] fun aO=>c≠none/\c≠none/\∃ax,cell aO (pAdd c 5) 0=some (.int .i64 ax)/\a≠none/\a≠none/\zan aO (pAdd a 11) [(.int .i64 2)] [] fun bb=>a≠none/\a≠none/\zan bb (pAdd a 12) [(.int .i64 q)] [] fun bc=>a≠none/\a≠none/\zan bc (pAdd a 13) [(.int .i64 ax)] [] fun aP=>e≠none/\∃ay,cell aP (pAdd e 1) 0=some (.int .i64 ay)/\∀F,Ext aP F->Run Tryz.prog (.buildSlice 54 1 [(0,(.agg #[(.int .i64 ay),(.int .i64 q)]))]) F fun bd aQ=>Ext F aQ/\∃az aA aB,bd=(.slice az aA aB)/\∀aC,Ext aQ aC->Run Tryz.prog (.append #[54,54] 54 [(.slice h i j),(.slice az aA aB)]) aC fun be L=>∃G H I,be=(.slice G H I)/\e≠none/\∃aD,cell L e 0=some (.int .i64 aD)/\∃aE,cell L e 1=some (.int .i64 aE)/\∀aF,Ext L aF->New aF 145 [(.int .i64 0),(.int .i64 0)] fun s bf=>zan bf s [(.int .i64 aD),(.int .i64 aE)] [] fun bg=>∀aG,Ext bg aG->FnP Tryz.prog za3 #[(.pointer l)] aG fun bh bi=>∃aH aI J,bh=(.tuple #[(.agg #[(.int .i64 aH),(.int .i64 aI)]),(.bool J)])/\zan bi s [(.int .i64 aH),(.int .i64 aI)] [] fun aR=>(v G H I s J aR/\w G H I s J aR<w h i j e o k))))/\((o=false)->∀aJ,Ext k aJ->bk (.tuple #[(.slice h i j),(.int .i64 0)]) aJ))
theorem zm3(a:Option Addr)(b:World)(c:Value->World->Prop)(h:znz a b c):FnP Tryz.prog zbo #[(.pointer a)] b c:=
 zab (Eq.mp (by kernel_rfl:_=Runs Tryz.prog c ({N:=116,pub:=[8],muts:=[71,72]}:Cfg) Tryz.f22 (Tryz.f22.body.getD .skip) [.sc (.ptr a)] b) h) Tryz.func22 (by kernel_rfl) (fun a w=>Tryz.call22 a w) (by kernel_rfl) (by kernel_rfl) rfl rfl
def zqq(j:Option Addr)(f:Int)(r:ByteArray)(s t u v w:Int)(x y:ByteArray)(z:Int)(A:Option Addr)(B C:Nat)(D:Option Addr)(E F:Nat)(G m:Int)(H:Bool)(h:World)(i:Value->World->Prop):Prop:=
 ∀d:Nat,h.heap.size<=d->∀l,Ext h l->FnP Tryz.prog zcY #[(.agg #[(.int .i64 f),(.string r),(.int .i64 s),(.int .i64 t),(.int .i64 u),(.int .i64 v),(.int .i64 w),(.string x),(.string y),(.int .i64 z),(.slice A B C),(.slice D E F),(.int .i64 G),(.int .i64 m),(.bool H)])] l fun K L=>Ext l L/\∃k,K=(.int .i64 k)/\((k≠0)->∀a,Ext h a->i (.int .i64 k) a)/\((k=0)->(((f=1)->∀a,zag [] [d] h a->FnP Tryz.prog za2 #[(.pointer j),(.agg #[(.string r),(.int .i64 s),(.int .i64 t),(.int .i64 u),(.int .i64 v),(.int .i64 w),(.string x),(.string y),(.int .i64 z),(.slice A B C),(.slice D E F)])] a fun e b=>zbK [d] a b/\∃c n,e=(.tuple #[(.int .i64 c),(.int .i64 n)])/\∀o,Ext b o->i (.int .i64 n) o))/\((f≠1)->(((f=2)->∀a,zag [] [d] h a->FnP Tryz.prog zcp #[(.pointer j),(.int .i64 G)] a fun e b=>zbK [d] a b/\∃c,e=(.int .i64 c)/\∀g,Ext b g->i (.int .i64 c) g))/\((f≠2)->(((f=3)->∀a,zag [] [d] h a->FnP Tryz.prog zbo #[(.pointer j)] a fun e b=>zbK [d] a b/\∃c I J p,e=(.tuple #[(.slice c I J),(.int .i64 p)])/\∀q,Ext b q->i (.int .i64 p) q))/\((f≠3)->(((f=4)->∀a,zag [] [d] h a->FnP Tryz.prog zaT #[(.pointer j),(.int .i64 m),(.bool H)] a fun e b=>zbK [d] a b/\∃c,e=(.int .i64 c)/\∀g,Ext b g->i (.int .i64 c) g))/\((f≠4)->∀a,zag [] [d] h a->FnP Tryz.prog zcH #[(.pointer j),(.int .i64 m)] a fun e b=>zbK [d] a b/\∃c,e=(.int .i64 c)/\∀g,Ext b g->i (.int .i64 c) g)))))
theorem zpQ(a:Option Addr)(b:Int)(c:ByteArray)(d e f g i:Int)(j k:ByteArray)(l:Int)(m:Option Addr)(n o:Nat)(p:Option Addr)(q r:Nat)(s t:Int)(u:Bool)(v:World)(w:Value->World->Prop)(h:zqq a b c d e f g i j k l m n o p q r s t u v w):FnP Tryz.prog zcx #[(.pointer a),(.agg #[(.int .i64 b),(.string c),(.int .i64 d),(.int .i64 e),(.int .i64 f),(.int .i64 g),(.int .i64 i),(.string j),(.string k),(.int .i64 l),(.slice m n o),(.slice p q r),(.int .i64 s),(.int .i64 t),(.bool u)])] v w:=
 zab (Eq.mp (by kernel_rfl:_=Runs Tryz.prog w ({N:=49,muts:=[21,29,22,24,81]}:Cfg) Tryz.f32 (Tryz.f32.body.getD .skip) [.sc (.ptr a),.agg [.int .i64 b,.str c,.int .i64 d,.int .i64 e,.int .i64 f,.int .i64 g,.int .i64 i,.str j,.str k,.int .i64 l,.slc m n o,.slc p q r,.int .i64 s,.int .i64 t,.bool (.atom true u)]] v) h) Tryz.func32 (by kernel_rfl) (fun a w=>Tryz.call32 a w) (by kernel_rfl) (by kernel_rfl) rfl rfl
abbrev zmq:FuncId:=36
abbrev zgo:FuncId:=37
abbrev zc1:FuncId:=40
abbrev zhu:FuncId:=41
def zrw(O:Option Addr)(P R:Nat)(S T U V:Int)(c:Option Addr)(m W:Nat)(J:World)(K:Value->World->Prop):Prop:=
 ∀d:Nat,J.heap.size<=d->∀f,zag [] [d] J f->FnP Tryz.prog zcZ #[(.agg #[(.slice O P R),(.int .i64 S),(.int .i64 T),(.int .i64 U),(.int .i64 V)])] f fun M j=>Ext f j/\∃g e,M=(.tuple #[(.pointer g),(.int .i64 e)])/\((e≠0)->∀n,Ext j n->K (.tuple #[(.pointer none),(.int .i64 e)]) n)/\((e=0)->∃(l:Int->World->Prop) (I:Int->World->Nat),l 0 j/\∀(a:Int)(b:World),l a b->(((a<(m:Int))->c≠none/\(0:Int)<=a/\(a:Int)<(m:Int)/\(pIdx c a 15)≠none/\∃o,cell b (pIdx c a 15) 0=some (.int .i64 o)/\∃p,cell b (pIdx c a 15) 1=some (.string p)/\∃q,cell b (pIdx c a 15) 2=some (.int .i64 q)/\∃r,cell b (pIdx c a 15) 3=some (.int .i64 r)/\∃s,cell b (pIdx c a 15) 4=some (.int .i64 s)/\∃t,cell b (pIdx c a 15) 5=some (.int .i64 t)/\∃u,cell b (pIdx c a 15) 6=some (.int .i64 u)/\∃v,cell b (pIdx c a 15) 7=some (.string v)/\∃w,cell b (pIdx c a 15) 8=some (.string w)/\∃x,cell b (pIdx c a 15) 9=some (.int .i64 x)/\∃y z A,cell b (pIdx c a 15) 10=some (.slice y z A)/\∃B C D,cell b (pIdx c a 15) 11=some (.slice B C D)/\∃E,cell b (pIdx c a 15) 12=some (.int .i64 E)/\∃F,cell b (pIdx c a 15) 13=some (.int .i64 F)/\∃G,cell b (pIdx c a 15) 14=some (.bool G)/\∀h:Nat,b.heap.size<=h->∀i,zag [] [d,h] b i->FnP Tryz.prog zcx #[(.pointer g),(.agg #[(.int .i64 o),(.string p),(.int .i64 q),(.int .i64 r),(.int .i64 s),(.int .i64 t),(.int .i64 u),(.string v),(.string w),(.int .i64 x),(.slice y z A),(.slice B C D),(.int .i64 E),(.int .i64 F),(.bool G)])] i fun N k=>zbK [d,h] i k/\∃L,N=(.int .i64 L)/\InR .i64 (a+1)/\(l (a+1) k/\I (a+1) k<I a b)))/\(((m:Int)<=a)->∀H,Ext b H->K (.tuple #[(.pointer g),(.int .i64 0)]) H))
theorem zq6(a:Option Addr)(b c:Nat)(d e f g:Int)(i:Option Addr)(j k:Nat)(l:World)(m:Value->World->Prop)(h:zrw a b c d e f g i j k l m):FnP Tryz.prog zhu #[(.agg #[(.slice a b c),(.int .i64 d),(.int .i64 e),(.int .i64 f),(.int .i64 g)]),(.slice i j k)] l m:=
 zab (Eq.mp (by kernel_rfl:_=Runs Tryz.prog m ({N:=29,muts:=[21,29,22,32,37,307,84,309]}:Cfg) Tryz.f41 (Tryz.f41.body.getD .skip) [.agg [.slc a b c,.int .i64 d,.int .i64 e,.int .i64 f,.int .i64 g],.sc (.slc i j k)] l) h) Tryz.func41 (by kernel_rfl) (fun a w=>Tryz.call41 a w) (by kernel_rfl) (by kernel_rfl) rfl rfl
def zyu(A:Option Addr)(B C:Nat)(p q r s:Int)(t:World)(u:Value->World->Prop):Prop:=
 ∀b:Nat,t.heap.size<=b->∀d,zag [] [b] t d->FnP Tryz.prog zcZ #[(.agg #[(.slice A B C),(.int .i64 p),(.int .i64 q),(.int .i64 r),(.int .i64 s)])] d fun v g=>Ext d g/\∃e c,v=(.tuple #[(.pointer e),(.int .i64 c)])/\((c≠0)->∀a,Ext g a->u (.tuple #[(.pointer none),(.int .i64 c)]) a)/\((c=0)->∀a,zag [] [b] g a->FnP Tryz.prog za8 #[(.pointer e)] a fun w n=>Ext a n/\∃h i j,w=(.slice h i j)/\∀f,zag [] [b] n f->FnP Tryz.prog ze8 #[] f fun x o=>Ext f o/\∃k,x=(.pointer k)/\∀l,zag [] [b] o l->New l 161 [(.slice h i j),(.int .i64 p),(.int .i64 q),(.int .i64 r),(.int .i64 s),(.pointer e),(.pointer k)] fun y z=>∀m,Ext z m->u (.tuple #[(.pointer y),(.int .i64 0)]) m)
theorem zxN(a:Option Addr)(b c:Nat)(d e f g:Int)(i:World)(j:Value->World->Prop)(h:zyu a b c d e f g i j):FnP Tryz.prog zmq #[(.agg #[(.slice a b c),(.int .i64 d),(.int .i64 e),(.int .i64 f),(.int .i64 g)])] i j:=
 zab (Eq.mp (by kernel_rfl:_=Runs Tryz.prog j ({N:=23,pub:=[22],muts:=[21,29,22,32,37,307,84,309]}:Cfg) Tryz.f36 (Tryz.f36.body.getD .skip) [.agg [.slc a b c,.int .i64 d,.int .i64 e,.int .i64 f,.int .i64 g]] i) h) Tryz.func36 (by kernel_rfl) (fun a w=>Tryz.call36 a w) (by kernel_rfl) (by kernel_rfl) rfl rfl
def zqs(c:Option Addr)(l:Int)(m:ByteArray)(n o p q r:Int)(s t:ByteArray)(u:Int)(v:Option Addr)(w x:Nat)(y:Option Addr)(z A:Nat)(B C:Int)(D:Bool)(g:World)(E:Value->World->Prop):Prop:=
 ∀a:Nat,g.heap.size<=a->∀h,Ext g h->FnP Tryz.prog zcY #[(.agg #[(.int .i64 l),(.string m),(.int .i64 n),(.int .i64 o),(.int .i64 p),(.int .i64 q),(.int .i64 r),(.string s),(.string t),(.int .i64 u),(.slice v w x),(.slice y z A),(.int .i64 B),(.int .i64 C),(.bool D)])] h fun P R=>Ext h R/\∃d,P=(.int .i64 d)/\((d≠0)->∀b,Ext g b->E (.int .i64 d) b)/\((d=0)->∀b,zag [] [a] g b->FnP Tryz.prog zb4 #[(.agg #[(.int .i64 l),(.string m),(.int .i64 n),(.int .i64 o),(.int .i64 p),(.int .i64 q),(.int .i64 r),(.string s),(.string t),(.int .i64 u),(.slice v w x),(.slice y z A),(.int .i64 B),(.int .i64 C),(.bool D)])] b fun S k=>Ext b k/\∃F G H O,S=(.tuple #[(.slice F G H),(.int .i64 O)])/\c≠none/\c≠none/\∃I,cell k (pAdd c 6) 0=some (.pointer I)/\∀i,zag [] [a] k i->FnP Tryz.prog zb2 #[(.pointer I),(.slice F G H)] i fun T f=>zbK [a] i f/\∃e,T=(.int .i64 e)/\((e≠0)->∀J,Ext f J->E (.int .i64 e) J)/\((e=0)->c≠none/\c≠none/\∃K,cell f (pAdd c 5) 0=some (.pointer K)/\∀j,zag [] [a] f j->FnP Tryz.prog zcx #[(.pointer K),(.agg #[(.int .i64 l),(.string m),(.int .i64 n),(.int .i64 o),(.int .i64 p),(.int .i64 q),(.int .i64 r),(.string s),(.string t),(.int .i64 u),(.slice v w x),(.slice y z A),(.int .i64 B),(.int .i64 C),(.bool D)])] j fun U N=>zbK [a] j N/\∃L,U=(.int .i64 L)/\∀M,Ext N M->E (.int .i64 L) M))
theorem zpT(a:Option Addr)(b:Int)(c:ByteArray)(d e f g i:Int)(j k:ByteArray)(l:Int)(m:Option Addr)(n o:Nat)(p:Option Addr)(q r:Nat)(s t:Int)(u:Bool)(v:World)(w:Value->World->Prop)(h:zqs a b c d e f g i j k l m n o p q r s t u v w):FnP Tryz.prog zgo #[(.pointer a),(.agg #[(.int .i64 b),(.string c),(.int .i64 d),(.int .i64 e),(.int .i64 f),(.int .i64 g),(.int .i64 i),(.string j),(.string k),(.int .i64 l),(.slice m n o),(.slice p q r),(.int .i64 s),(.int .i64 t),(.bool u)])] v w:=
 zab (Eq.mp (by kernel_rfl:_=Runs Tryz.prog w ({N:=34,muts:=[21,29,22,32,37,307,84,309]}:Cfg) Tryz.f37 (Tryz.f37.body.getD .skip) [.sc (.ptr a),.agg [.int .i64 b,.str c,.int .i64 d,.int .i64 e,.int .i64 f,.int .i64 g,.int .i64 i,.str j,.str k,.int .i64 l,.slc m n o,.slc p q r,.int .i64 s,.int .i64 t,.bool (.atom true u)]] v) h) Tryz.func37 (by kernel_rfl) (fun a w=>Tryz.call37 a w) (by kernel_rfl) (by kernel_rfl) rfl rfl
def zme(b:Option Addr)(i:World)(k:Value->World->Prop):Prop:=
 b≠none/\b≠none/\∃c,cell i (pAdd b 6) 0=some (.pointer c)/\∀a,Ext i a->FnP Tryz.prog zb1 #[(.pointer c)] a fun j h=>Ext a h/\∃d e f,j=(.slice d e f)/\∀g,Ext h g->k (.slice d e f) g
theorem zlQ(a:Option Addr)(b:World)(c:Value->World->Prop)(h:zme a b c):FnP Tryz.prog zc1 #[(.pointer a)] b c:=
 zab (Eq.mp (by kernel_rfl:_=Runs Tryz.prog c ({N:=8,muts:=[21,29,22,32,37,307,84,309]}:Cfg) Tryz.f40 (Tryz.f40.body.getD .skip) [.sc (.ptr a)] b) h) Tryz.func40 (by kernel_rfl) (fun a w=>Tryz.call40 a w) (by kernel_rfl) (by kernel_rfl) rfl rfl
end Go.Proofs.YtcceeahmcecbnaaGreatDoor
namespace Go.Proofs
open Go.Shelf
def Tryz.lays156_ren:Go.Shelf.Ren:=⟨fun|156=>173|165=>185|166=>99|169=>102|240=>148|241=>240|276=>199|277=>263|n=>n,fun|31=>22|9=>9|3=>3|4=>4|0=>0|20=>20|72=>184|76=>186|70=>182|37=>93|75=>175|127=>249|164=>258|5=>5|80=>190|n=>n,fun|n=>n⟩
theorem Tryz.lays156:Go.Proofs.Lays.n156 Tryz.prog Tryz.lays156_ren:={
 mixed:=by kernel_rfl
 f156:=Tryz.func173.trans (congrArg some (by kernel_rfl))
 f165:=Tryz.func185.trans (congrArg some (by kernel_rfl))
 f166:=Tryz.func99.trans (congrArg some (by kernel_rfl))
 f169:=Tryz.func102.trans (congrArg some (by kernel_rfl))
 f240:=Tryz.func148.trans (congrArg some (by kernel_rfl))
 f241:=Tryz.func240.trans (congrArg some (by kernel_rfl))
 f276:=Tryz.func199.trans (congrArg some (by kernel_rfl))
 f277:=Tryz.func263.trans (congrArg some (by kernel_rfl))
 t0:=Tryz.underlying0
 a0:=Tryz.isAgg0
 z0:=Tryz.sizeOf0
 v0:=Tryz.zeroValue0
 t3:=Tryz.underlying3
 a3:=Tryz.isAgg3
 z3:=Tryz.sizeOf3
 v3:=Tryz.zeroValue3
 t4:=Tryz.underlying4
 a4:=Tryz.isAgg4
 z4:=Tryz.sizeOf4
 v4:=Tryz.zeroValue4
 t9:=Tryz.underlying9
 a9:=Tryz.isAgg9
 z9:=Tryz.sizeOf9
 v9:=Tryz.zeroValue9
 t20:=Tryz.underlying20
 a20:=Tryz.isAgg20
 z20:=Tryz.sizeOf20
 v20:=Tryz.zeroValue20
 t31:=Tryz.underlying22
 a31:=Tryz.isAgg22
 z31:=Tryz.sizeOf22
 v31:=Tryz.zeroValue22
 t37:=Tryz.underlying93
 a37:=Tryz.isAgg93
 z37:=Tryz.sizeOf93
 v37:=Tryz.zeroValue93
 t70:=Tryz.underlying182
 a70:=Tryz.isAgg182
 z70:=Tryz.sizeOf182
 v70:=Tryz.zeroValue182
 t72:=Tryz.underlying184
 a72:=Tryz.isAgg184
 z72:=Tryz.sizeOf184
 v72:=Tryz.zeroValue184
 t75:=Tryz.underlying175
 a75:=Tryz.isAgg175
 z75:=Tryz.sizeOf175
 v75:=Tryz.zeroValue175
 t76:=Tryz.underlying186
 a76:=Tryz.isAgg186
 z76:=Tryz.sizeOf186
 v76:=Tryz.zeroValue186
 t127:=Tryz.underlying249
 a127:=Tryz.isAgg249
 z127:=Tryz.sizeOf249
 v127:=Tryz.zeroValue249
 t164:=Tryz.underlying258
 a164:=Tryz.isAgg258
 z164:=Tryz.sizeOf258
 v164:=Tryz.zeroValue258 }
theorem Tryz.Builder_Extra_156:Builder.Extra Tryz.prog Tryz.lays156_ren:={
 sizeBuilder:=by kernel_rfl
 liesBuilder:=by kernel_rfl
 t5:=Tryz.underlying5
 a5:=Tryz.isAgg5
 z5:=Tryz.sizeOf5
 v5:=Tryz.zeroValue5
 infoByte:=by kernel_rfl
 cellsByte:=by kernel_rfl
 sizeByte:=by kernel_rfl
 neB5:=by decide }
open Go.RowKit in
theorem Tryz.strings_Join_none (a:Option Addr) (c:Nat) (sep:ByteArray) (w:World) :
 Calls Tryz.prog 173 #[.slice a 0 c,.string sep] w fun e w'=>e=.returned (.string ⟨#[]⟩)/\w'=w:=Any.strings_Join_none Tryz.lays156 Tryz.Builder_Extra_156 a c sep w
open Go.RowKit in
theorem Tryz.strings_Join (bk o c:Nat) (xs:List ByteArray) (sep:ByteArray) (w:World) (hcells:∀(j:Nat) x,xs[j]?=some x->w.cell? ⟨bk,o+j,none⟩=some (.string x)) (hbk:bk<w.heap.size) (hN:xs.length<=140737488355328) (hcap:xs.length<=c) (hlen:(Lib.join (xs.map (·.data.toList)) sep.data.toList).length<=140737488355328) :
 Calls Tryz.prog 173 #[.slice (some ⟨bk,o,none⟩) xs.length c,.string sep] w fun e w'=>e=.returned (.string ⟨(Lib.join (xs.map (·.data.toList)) sep.data.toList).toArray⟩)/\Below w.heap.size w w':=Any.strings_Join Tryz.lays156 Tryz.Builder_Extra_156 bk o c xs sep w hcells hbk hN hcap hlen
def Tryz.laysM246_ren:Go.Shelf.Ren:=⟨fun|246=>132|283=>178|284=>179|285=>180|286=>181|129=>233|317=>232|318=>234|319=>235|320=>236|337=>261|338=>262|n=>n,fun|2=>2|3=>3|9=>9|4=>4|171=>297|0=>0|53=>102|37=>93|5=>5|173=>300|212=>353|51=>354|20=>20|213=>355|46=>163|232=>399|233=>400|n=>n,fun|17=>1|18=>8|19=>9|n=>n⟩
def Tryz.laysM243_ren:Go.Shelf.Ren:=⟨fun|243=>156|246=>132|283=>178|284=>179|285=>180|286=>181|129=>233|317=>232|318=>234|319=>235|320=>236|337=>261|338=>262|n=>n,fun|3=>3|9=>9|2=>2|4=>4|171=>297|0=>0|53=>102|37=>93|5=>5|173=>300|212=>353|51=>354|20=>20|213=>355|46=>163|232=>399|233=>400|n=>n,fun|17=>1|18=>8|19=>9|n=>n⟩
def Tryz.laysM171_ren:Go.Shelf.Ren:=⟨fun|171=>105|243=>156|246=>132|283=>178|284=>179|285=>180|286=>181|129=>233|317=>232|318=>234|319=>235|320=>236|337=>261|338=>262|n=>n,fun|3=>3|9=>9|2=>2|4=>4|171=>297|0=>0|53=>102|37=>93|5=>5|173=>300|212=>353|51=>354|20=>20|213=>355|46=>163|232=>399|233=>400|n=>n,fun|17=>1|18=>8|19=>9|n=>n⟩
theorem Tryz.laysM171:Go.Proofs.LaysM.n171 Tryz.prog Tryz.laysM171_ren:={
 mixed:=by kernel_rfl
 f129:=Tryz.func233.trans (congrArg some (by kernel_rfl))
 f171:=Tryz.func105.trans (congrArg some (by kernel_rfl))
 f243:=Tryz.func156.trans (congrArg some (by kernel_rfl))
 f246:=Tryz.func132.trans (congrArg some (by kernel_rfl))
 f283:=Tryz.func178.trans (congrArg some (by kernel_rfl))
 f284:=Tryz.func179.trans (congrArg some (by kernel_rfl))
 f285:=Tryz.func180.trans (congrArg some (by kernel_rfl))
 f286:=Tryz.func181.trans (congrArg some (by kernel_rfl))
 f317:=Tryz.func232.trans (congrArg some (by kernel_rfl))
 f318:=Tryz.func234.trans (congrArg some (by kernel_rfl))
 f319:=Tryz.func235.trans (congrArg some (by kernel_rfl))
 f320:=Tryz.func236.trans (congrArg some (by kernel_rfl))
 f337:=Tryz.func261.trans (congrArg some (by kernel_rfl))
 f338:=Tryz.func262.trans (congrArg some (by kernel_rfl))
 t0:=Tryz.underlying0
 a0:=Tryz.isAgg0
 z0:=Tryz.sizeOf0
 v0:=Tryz.zeroValue0
 t2:=Tryz.underlying2
 a2:=Tryz.isAgg2
 z2:=Tryz.sizeOf2
 v2:=Tryz.zeroValue2
 t3:=Tryz.underlying3
 a3:=Tryz.isAgg3
 z3:=Tryz.sizeOf3
 v3:=Tryz.zeroValue3
 t4:=Tryz.underlying4
 a4:=Tryz.isAgg4
 z4:=Tryz.sizeOf4
 v4:=Tryz.zeroValue4
 t5:=Tryz.underlying5
 a5:=Tryz.isAgg5
 z5:=Tryz.sizeOf5
 v5:=Tryz.zeroValue5
 t9:=Tryz.underlying9
 a9:=Tryz.isAgg9
 z9:=Tryz.sizeOf9
 v9:=Tryz.zeroValue9
 t20:=Tryz.underlying20
 a20:=Tryz.isAgg20
 z20:=Tryz.sizeOf20
 v20:=Tryz.zeroValue20
 t37:=Tryz.underlying93
 a37:=Tryz.isAgg93
 z37:=Tryz.sizeOf93
 v37:=Tryz.zeroValue93
 t46:=Tryz.underlying163
 a46:=Tryz.isAgg163
 z46:=Tryz.sizeOf163
 v46:=Tryz.zeroValue163
 t51:=Tryz.underlying354
 a51:=Tryz.isAgg354
 z51:=Tryz.sizeOf354
 v51:=Tryz.zeroValue354
 t53:=Tryz.underlying102
 a53:=Tryz.isAgg102
 z53:=Tryz.sizeOf102
 v53:=Tryz.zeroValue102
 t171:=Tryz.underlying297
 a171:=Tryz.isAgg297
 z171:=Tryz.sizeOf297
 v171:=Tryz.zeroValue297
 t173:=Tryz.underlying300
 a173:=Tryz.isAgg300
 z173:=Tryz.sizeOf300
 v173:=Tryz.zeroValue300
 t212:=Tryz.underlying353
 a212:=Tryz.isAgg353
 z212:=Tryz.sizeOf353
 v212:=Tryz.zeroValue353
 t213:=Tryz.underlying355
 a213:=Tryz.isAgg355
 z213:=Tryz.sizeOf355
 t232:=Tryz.underlying399
 a232:=Tryz.isAgg399
 z232:=Tryz.sizeOf399
 v232:=Tryz.zeroValue399
 t233:=Tryz.underlying400
 a233:=Tryz.isAgg400
 z233:=Tryz.sizeOf400
 v233:=Tryz.zeroValue400
 g17:=by kernel_rfl
 g18:=by kernel_rfl
 g19:=by kernel_rfl
 i0:=by kernel_rfl
 i2:=by kernel_rfl
 i3:=by kernel_rfl
 i4:=by kernel_rfl
 i5:=by kernel_rfl
 i9:=by kernel_rfl
 i20:=by kernel_rfl
 i37:=by kernel_rfl
 i46:=by kernel_rfl
 i51:=by kernel_rfl
 i53:=by kernel_rfl
 i171:=by kernel_rfl
 i173:=by kernel_rfl
 i212:=by kernel_rfl
 i232:=by kernel_rfl
 i233:=by kernel_rfl
 m17:=by kernel_rfl
 m18:=by kernel_rfl
 m19:=by kernel_rfl }
open Go.RowKit Go.Sort Go.Lib in
theorem Tryz.strconv_Itoa (n : Int) (h0 : -9223372036854775808 <= n) (h1 : n <= 9223372036854775807) (w : World) (htab : Lib.TabIs Tryz.prog w "internal/strconv.uint64pow10" .u64 Lib.pow10Tab) :
 Calls Tryz.prog 105 #[.int .i64 n] w fun e w'=>e=.returned (.string ⟨(Lib.itoa n).toArray⟩)/\∃k os,w'=grow (w.drewN k) os:=Any.strconv_Itoa Tryz.laysM171 n h0 h1 w htab
def Tryz.laysM173_ren:Go.Shelf.Ren:=⟨fun|173=>90|246=>132|283=>178|284=>179|285=>180|286=>181|129=>233|317=>232|318=>234|319=>235|320=>236|337=>261|338=>262|n=>n,fun|2=>2|3=>3|9=>9|4=>4|171=>297|0=>0|53=>102|37=>93|5=>5|173=>300|212=>353|51=>354|20=>20|213=>355|46=>163|232=>399|233=>400|n=>n,fun|17=>1|18=>8|19=>9|n=>n⟩
theorem Tryz.laysM173:Go.Proofs.LaysM.n173 Tryz.prog Tryz.laysM173_ren:={
 mixed:=by kernel_rfl
 f129:=Tryz.func233.trans (congrArg some (by kernel_rfl))
 f173:=Tryz.func90.trans (congrArg some (by kernel_rfl))
 f246:=Tryz.func132.trans (congrArg some (by kernel_rfl))
 f283:=Tryz.func178.trans (congrArg some (by kernel_rfl))
 f284:=Tryz.func179.trans (congrArg some (by kernel_rfl))
 f285:=Tryz.func180.trans (congrArg some (by kernel_rfl))
 f286:=Tryz.func181.trans (congrArg some (by kernel_rfl))
 f317:=Tryz.func232.trans (congrArg some (by kernel_rfl))
 f318:=Tryz.func234.trans (congrArg some (by kernel_rfl))
 f319:=Tryz.func235.trans (congrArg some (by kernel_rfl))
 f320:=Tryz.func236.trans (congrArg some (by kernel_rfl))
 f337:=Tryz.func261.trans (congrArg some (by kernel_rfl))
 f338:=Tryz.func262.trans (congrArg some (by kernel_rfl))
 t0:=Tryz.underlying0
 a0:=Tryz.isAgg0
 z0:=Tryz.sizeOf0
 v0:=Tryz.zeroValue0
 t2:=Tryz.underlying2
 a2:=Tryz.isAgg2
 z2:=Tryz.sizeOf2
 v2:=Tryz.zeroValue2
 t3:=Tryz.underlying3
 a3:=Tryz.isAgg3
 z3:=Tryz.sizeOf3
 v3:=Tryz.zeroValue3
 t4:=Tryz.underlying4
 a4:=Tryz.isAgg4
 z4:=Tryz.sizeOf4
 v4:=Tryz.zeroValue4
 t5:=Tryz.underlying5
 a5:=Tryz.isAgg5
 z5:=Tryz.sizeOf5
 v5:=Tryz.zeroValue5
 t9:=Tryz.underlying9
 a9:=Tryz.isAgg9
 z9:=Tryz.sizeOf9
 v9:=Tryz.zeroValue9
 t20:=Tryz.underlying20
 a20:=Tryz.isAgg20
 z20:=Tryz.sizeOf20
 v20:=Tryz.zeroValue20
 t37:=Tryz.underlying93
 a37:=Tryz.isAgg93
 z37:=Tryz.sizeOf93
 v37:=Tryz.zeroValue93
 t46:=Tryz.underlying163
 a46:=Tryz.isAgg163
 z46:=Tryz.sizeOf163
 v46:=Tryz.zeroValue163
 t51:=Tryz.underlying354
 a51:=Tryz.isAgg354
 z51:=Tryz.sizeOf354
 v51:=Tryz.zeroValue354
 t53:=Tryz.underlying102
 a53:=Tryz.isAgg102
 z53:=Tryz.sizeOf102
 v53:=Tryz.zeroValue102
 t171:=Tryz.underlying297
 a171:=Tryz.isAgg297
 z171:=Tryz.sizeOf297
 v171:=Tryz.zeroValue297
 t173:=Tryz.underlying300
 a173:=Tryz.isAgg300
 z173:=Tryz.sizeOf300
 v173:=Tryz.zeroValue300
 t212:=Tryz.underlying353
 a212:=Tryz.isAgg353
 z212:=Tryz.sizeOf353
 v212:=Tryz.zeroValue353
 t213:=Tryz.underlying355
 a213:=Tryz.isAgg355
 z213:=Tryz.sizeOf355
 t232:=Tryz.underlying399
 a232:=Tryz.isAgg399
 z232:=Tryz.sizeOf399
 v232:=Tryz.zeroValue399
 t233:=Tryz.underlying400
 a233:=Tryz.isAgg400
 z233:=Tryz.sizeOf400
 v233:=Tryz.zeroValue400
 g17:=by kernel_rfl
 g18:=by kernel_rfl
 g19:=by kernel_rfl
 i0:=by kernel_rfl
 i2:=by kernel_rfl
 i3:=by kernel_rfl
 i4:=by kernel_rfl
 i5:=by kernel_rfl
 i9:=by kernel_rfl
 i20:=by kernel_rfl
 i37:=by kernel_rfl
 i46:=by kernel_rfl
 i51:=by kernel_rfl
 i53:=by kernel_rfl
 i171:=by kernel_rfl
 i173:=by kernel_rfl
 i212:=by kernel_rfl
 i232:=by kernel_rfl
 i233:=by kernel_rfl
 m17:=by kernel_rfl
 m18:=by kernel_rfl
 m19:=by kernel_rfl }
open Go.RowKit Go.Sort Go.Lib in
theorem Tryz.strconv_FormatInt_10 (n : Int) (h0 : -9223372036854775808 <= n) (h1 : n <= 9223372036854775807) (w : World) (htab : Lib.TabIs Tryz.prog w "internal/strconv.uint64pow10" .u64 Lib.pow10Tab) :
 Calls Tryz.prog 90 #[.int .i64 n,.int .i64 10] w fun e w'=>e=.returned (.string ⟨(Lib.itoa n).toArray⟩)/\∃k os,w'=grow (w.drewN k) os:=Any.strconv_FormatInt_10 Tryz.laysM173 n h0 h1 w htab
def Tryz.laysC172_ren:Go.Shelf.Ren:=⟨fun|172=>175|244=>230|245=>144|247=>143|279=>194|280=>195|281=>196|282=>197|287=>193|316=>249|171=>105|205=>250|321=>247|322=>248|243=>156|246=>132|283=>178|284=>179|285=>180|286=>181|129=>233|317=>232|318=>234|319=>235|320=>236|337=>261|338=>262|n=>n,fun|9=>9|3=>3|75=>175|76=>186|4=>4|5=>5|167=>312|37=>93|0=>0|85=>176|2=>2|168=>315|53=>102|175=>313|46=>163|210=>366|127=>249|145=>386|143=>384|21=>21|171=>297|173=>300|212=>353|51=>354|20=>20|213=>355|232=>399|233=>400|80=>190|n=>n,fun|15=>2|16=>3|17=>1|18=>8|19=>9|n=>n⟩
theorem Tryz.laysC172:Go.Proofs.LaysC.n172 Tryz.prog Tryz.laysC172_ren:={
 mixed:=by kernel_rfl
 f129:=Tryz.func233.trans (congrArg some (by kernel_rfl))
 f171:=Tryz.func105.trans (congrArg some (by kernel_rfl))
 f172:=Tryz.func175.trans (congrArg some (by kernel_rfl))
 f205:=Tryz.func250.trans (congrArg some (by kernel_rfl))
 f243:=Tryz.func156.trans (congrArg some (by kernel_rfl))
 f244:=Tryz.func230.trans (congrArg some (by kernel_rfl))
 f245:=Tryz.func144.trans (congrArg some (by kernel_rfl))
 f246:=Tryz.func132.trans (congrArg some (by kernel_rfl))
 f247:=Tryz.func143.trans (congrArg some (by kernel_rfl))
 f279:=Tryz.func194.trans (congrArg some (by kernel_rfl))
 f280:=Tryz.func195.trans (congrArg some (by kernel_rfl))
 f281:=Tryz.func196.trans (congrArg some (by kernel_rfl))
 f282:=Tryz.func197.trans (congrArg some (by kernel_rfl))
 f283:=Tryz.func178.trans (congrArg some (by kernel_rfl))
 f284:=Tryz.func179.trans (congrArg some (by kernel_rfl))
 f285:=Tryz.func180.trans (congrArg some (by kernel_rfl))
 f286:=Tryz.func181.trans (congrArg some (by kernel_rfl))
 f287:=Tryz.func193.trans (congrArg some (by kernel_rfl))
 f316:=Tryz.func249.trans (congrArg some (by kernel_rfl))
 f317:=Tryz.func232.trans (congrArg some (by kernel_rfl))
 f318:=Tryz.func234.trans (congrArg some (by kernel_rfl))
 f319:=Tryz.func235.trans (congrArg some (by kernel_rfl))
 f320:=Tryz.func236.trans (congrArg some (by kernel_rfl))
 f321:=Tryz.func247.trans (congrArg some (by kernel_rfl))
 f322:=Tryz.func248.trans (congrArg some (by kernel_rfl))
 f337:=Tryz.func261.trans (congrArg some (by kernel_rfl))
 f338:=Tryz.func262.trans (congrArg some (by kernel_rfl))
 t0:=Tryz.underlying0
 a0:=Tryz.isAgg0
 z0:=Tryz.sizeOf0
 v0:=Tryz.zeroValue0
 t2:=Tryz.underlying2
 a2:=Tryz.isAgg2
 z2:=Tryz.sizeOf2
 v2:=Tryz.zeroValue2
 t3:=Tryz.underlying3
 a3:=Tryz.isAgg3
 z3:=Tryz.sizeOf3
 v3:=Tryz.zeroValue3
 t4:=Tryz.underlying4
 a4:=Tryz.isAgg4
 z4:=Tryz.sizeOf4
 v4:=Tryz.zeroValue4
 t5:=Tryz.underlying5
 a5:=Tryz.isAgg5
 z5:=Tryz.sizeOf5
 v5:=Tryz.zeroValue5
 t9:=Tryz.underlying9
 a9:=Tryz.isAgg9
 z9:=Tryz.sizeOf9
 v9:=Tryz.zeroValue9
 t20:=Tryz.underlying20
 a20:=Tryz.isAgg20
 z20:=Tryz.sizeOf20
 v20:=Tryz.zeroValue20
 t21:=Tryz.underlying21
 a21:=Tryz.isAgg21
 z21:=Tryz.sizeOf21
 v21:=Tryz.zeroValue21
 t37:=Tryz.underlying93
 a37:=Tryz.isAgg93
 z37:=Tryz.sizeOf93
 v37:=Tryz.zeroValue93
 t46:=Tryz.underlying163
 a46:=Tryz.isAgg163
 z46:=Tryz.sizeOf163
 v46:=Tryz.zeroValue163
 t51:=Tryz.underlying354
 a51:=Tryz.isAgg354
 z51:=Tryz.sizeOf354
 v51:=Tryz.zeroValue354
 t53:=Tryz.underlying102
 a53:=Tryz.isAgg102
 z53:=Tryz.sizeOf102
 v53:=Tryz.zeroValue102
 t75:=Tryz.underlying175
 a75:=Tryz.isAgg175
 z75:=Tryz.sizeOf175
 v75:=Tryz.zeroValue175
 t76:=Tryz.underlying186
 a76:=Tryz.isAgg186
 z76:=Tryz.sizeOf186
 v76:=Tryz.zeroValue186
 t85:=Tryz.underlying176
 a85:=Tryz.isAgg176
 z85:=Tryz.sizeOf176
 v85:=Tryz.zeroValue176
 t127:=Tryz.underlying249
 a127:=Tryz.isAgg249
 z127:=Tryz.sizeOf249
 v127:=Tryz.zeroValue249
 t143:=Tryz.underlying384
 a143:=Tryz.isAgg384
 z143:=Tryz.sizeOf384
 v143:=Tryz.zeroValue384
 t145:=Tryz.underlying386
 a145:=Tryz.isAgg386
 z145:=Tryz.sizeOf386
 v145:=Tryz.zeroValue386
 t167:=Tryz.underlying312
 a167:=Tryz.isAgg312
 z167:=Tryz.sizeOf312
 v167:=Tryz.zeroValue312
 t168:=Tryz.underlying315
 a168:=Tryz.isAgg315
 z168:=Tryz.sizeOf315
 v168:=Tryz.zeroValue315
 t171:=Tryz.underlying297
 a171:=Tryz.isAgg297
 z171:=Tryz.sizeOf297
 v171:=Tryz.zeroValue297
 t173:=Tryz.underlying300
 a173:=Tryz.isAgg300
 z173:=Tryz.sizeOf300
 v173:=Tryz.zeroValue300
 t175:=Tryz.underlying313
 a175:=Tryz.isAgg313
 z175:=Tryz.sizeOf313
 v175:=Tryz.zeroValue313
 t210:=Tryz.underlying366
 a210:=Tryz.isAgg366
 z210:=Tryz.sizeOf366
 v210:=Tryz.zeroValue366
 t212:=Tryz.underlying353
 a212:=Tryz.isAgg353
 z212:=Tryz.sizeOf353
 v212:=Tryz.zeroValue353
 t213:=Tryz.underlying355
 a213:=Tryz.isAgg355
 z213:=Tryz.sizeOf355
 t232:=Tryz.underlying399
 a232:=Tryz.isAgg399
 z232:=Tryz.sizeOf399
 v232:=Tryz.zeroValue399
 t233:=Tryz.underlying400
 a233:=Tryz.isAgg400
 z233:=Tryz.sizeOf400
 v233:=Tryz.zeroValue400
 g15:=by kernel_rfl
 g16:=by kernel_rfl
 g17:=by kernel_rfl
 g18:=by kernel_rfl
 g19:=by kernel_rfl
 t80:=Tryz.underlying190
 a80:=Tryz.isAgg190
 z80:=Tryz.sizeOf190
 v80:=Tryz.zeroValue190
 i0:=by kernel_rfl
 i2:=by kernel_rfl
 i3:=by kernel_rfl
 i4:=by kernel_rfl
 i5:=by kernel_rfl
 i9:=by kernel_rfl
 i20:=by kernel_rfl
 i21:=by kernel_rfl
 i37:=by kernel_rfl
 i46:=by kernel_rfl
 i51:=by kernel_rfl
 i53:=by kernel_rfl
 i75:=by kernel_rfl
 i76:=by kernel_rfl
 i80:=by kernel_rfl
 i85:=by kernel_rfl
 i127:=by kernel_rfl
 i143:=by kernel_rfl
 i145:=by kernel_rfl
 i167:=by kernel_rfl
 i168:=by kernel_rfl
 i171:=by kernel_rfl
 i173:=by kernel_rfl
 i175:=by kernel_rfl
 i210:=by kernel_rfl
 i212:=by kernel_rfl
 i232:=by kernel_rfl
 i233:=by kernel_rfl
 m15:=by kernel_rfl
 m16:=by kernel_rfl
 m17:=by kernel_rfl
 m18:=by kernel_rfl
 m19:=by kernel_rfl
 c0:=by kernel_rfl
 c2:=by kernel_rfl
 c3:=by kernel_rfl
 c4:=by kernel_rfl
 c5:=by kernel_rfl
 c9:=by kernel_rfl
 c20:=by kernel_rfl
 c21:=by kernel_rfl
 c37:=by kernel_rfl
 c46:=by kernel_rfl
 c51:=by kernel_rfl
 c53:=by kernel_rfl
 c75:=by kernel_rfl
 c76:=by kernel_rfl
 c80:=by kernel_rfl
 c85:=by kernel_rfl
 c127:=by kernel_rfl
 c143:=by kernel_rfl
 c145:=by kernel_rfl
 c167:=by kernel_rfl
 c168:=by kernel_rfl
 c171:=by kernel_rfl
 c173:=by kernel_rfl
 c175:=by kernel_rfl
 c210:=by kernel_rfl
 c212:=by kernel_rfl
 c213:=by kernel_rfl
 c232:=by kernel_rfl
 c233:=by kernel_rfl }
open Go.RowKit in
theorem Tryz.strconv_Atoi_ok (s:ByteArray) (hmax:s.size<=9223372036854775806) (v:Int) (h:Lib.atoiAll s.data.toList=.ok v) (w:World) :
 Calls Tryz.prog 175 #[.string s] w fun e w'=>e=.returned (.tuple #[.int .i64 v,.nilIface])/\(w'=w\/∃t,w'=Lib.bytesWorld w 5 t):=Any.strconv_Atoi_ok Tryz.laysC172 s hmax v h w
open Go.RowKit in
theorem Tryz.strconv_Atoi_syntax (s:ByteArray) (hlim:s.size<=281474976710656) (h:Lib.atoiAll s.data.toList=Lib.NumEnd.syntax) (ev:Value) (w:World) (hv:w.cell? ⟨2,0,none⟩=some ev) (hev:ev=.nilIface\/∃te pe,ev=.iface te pe) :
 Calls Tryz.prog 175 #[.string s] w fun e w'=>∃N,e=.returned (.tuple #[.int .i64 (0),.iface 315 (.pointer (some ⟨N,0,none⟩))])/\w.heap.size<=N/\w'.heap[N]?=some (.cells #[.string ⟨#[65,116,111,105]⟩,.string s,ev] 366 (0,0))/\Below w.heap.size w w':=Any.strconv_Atoi_syntax Tryz.laysC172 s hlim h ev w hv hev
open Go.RowKit in
theorem Tryz.strconv_Atoi_range (s:ByteArray) (hlim:s.size<=281474976710656) (h:Lib.atoiAll s.data.toList=.range) (ev:Value) (w:World) (hv:w.cell? ⟨3,0,none⟩=some ev) (hev:ev=.nilIface\/∃te pe,ev=.iface te pe) :
 Calls Tryz.prog 175 #[.string s] w fun e w'=>∃N,e=.returned (.tuple #[.int .i64 (Lib.atoiSat s.data.toList),.iface 315 (.pointer (some ⟨N,0,none⟩))])/\w.heap.size<=N/\w'.heap[N]?=some (.cells #[.string ⟨#[65,116,111,105]⟩,.string s,ev] 366 (0,0))/\Below w.heap.size w w':=Any.strconv_Atoi_range Tryz.laysC172 s hlim h ev w hv hev
def Tryz.laysC174_ren:Go.Shelf.Ren:=⟨fun|174=>94|247=>143|245=>144|287=>193|279=>194|280=>195|281=>196|282=>197|321=>247|322=>248|316=>249|171=>105|205=>250|243=>156|246=>132|283=>178|284=>179|285=>180|286=>181|129=>233|317=>232|318=>234|319=>235|320=>236|337=>261|338=>262|n=>n,fun|9=>9|3=>3|2=>2|75=>175|85=>176|4=>4|167=>312|5=>5|53=>102|175=>313|46=>163|168=>315|37=>93|0=>0|210=>366|21=>21|127=>249|145=>386|143=>384|171=>297|173=>300|212=>353|51=>354|20=>20|213=>355|232=>399|233=>400|80=>190|n=>n,fun|15=>2|16=>3|17=>1|18=>8|19=>9|n=>n⟩
theorem Tryz.laysC174:Go.Proofs.LaysC.n174 Tryz.prog Tryz.laysC174_ren:={
 mixed:=by kernel_rfl
 f129:=Tryz.func233.trans (congrArg some (by kernel_rfl))
 f171:=Tryz.func105.trans (congrArg some (by kernel_rfl))
 f174:=Tryz.func94.trans (congrArg some (by kernel_rfl))
 f205:=Tryz.func250.trans (congrArg some (by kernel_rfl))
 f243:=Tryz.func156.trans (congrArg some (by kernel_rfl))
 f245:=Tryz.func144.trans (congrArg some (by kernel_rfl))
 f246:=Tryz.func132.trans (congrArg some (by kernel_rfl))
 f247:=Tryz.func143.trans (congrArg some (by kernel_rfl))
 f279:=Tryz.func194.trans (congrArg some (by kernel_rfl))
 f280:=Tryz.func195.trans (congrArg some (by kernel_rfl))
 f281:=Tryz.func196.trans (congrArg some (by kernel_rfl))
 f282:=Tryz.func197.trans (congrArg some (by kernel_rfl))
 f283:=Tryz.func178.trans (congrArg some (by kernel_rfl))
 f284:=Tryz.func179.trans (congrArg some (by kernel_rfl))
 f285:=Tryz.func180.trans (congrArg some (by kernel_rfl))
 f286:=Tryz.func181.trans (congrArg some (by kernel_rfl))
 f287:=Tryz.func193.trans (congrArg some (by kernel_rfl))
 f316:=Tryz.func249.trans (congrArg some (by kernel_rfl))
 f317:=Tryz.func232.trans (congrArg some (by kernel_rfl))
 f318:=Tryz.func234.trans (congrArg some (by kernel_rfl))
 f319:=Tryz.func235.trans (congrArg some (by kernel_rfl))
 f320:=Tryz.func236.trans (congrArg some (by kernel_rfl))
 f321:=Tryz.func247.trans (congrArg some (by kernel_rfl))
 f322:=Tryz.func248.trans (congrArg some (by kernel_rfl))
 f337:=Tryz.func261.trans (congrArg some (by kernel_rfl))
 f338:=Tryz.func262.trans (congrArg some (by kernel_rfl))
 t0:=Tryz.underlying0
 a0:=Tryz.isAgg0
 z0:=Tryz.sizeOf0
 v0:=Tryz.zeroValue0
 t2:=Tryz.underlying2
 a2:=Tryz.isAgg2
 z2:=Tryz.sizeOf2
 v2:=Tryz.zeroValue2
 t3:=Tryz.underlying3
 a3:=Tryz.isAgg3
 z3:=Tryz.sizeOf3
 v3:=Tryz.zeroValue3
 t4:=Tryz.underlying4
 a4:=Tryz.isAgg4
 z4:=Tryz.sizeOf4
 v4:=Tryz.zeroValue4
 t5:=Tryz.underlying5
 a5:=Tryz.isAgg5
 z5:=Tryz.sizeOf5
 v5:=Tryz.zeroValue5
 t9:=Tryz.underlying9
 a9:=Tryz.isAgg9
 z9:=Tryz.sizeOf9
 v9:=Tryz.zeroValue9
 t20:=Tryz.underlying20
 a20:=Tryz.isAgg20
 z20:=Tryz.sizeOf20
 v20:=Tryz.zeroValue20
 t21:=Tryz.underlying21
 a21:=Tryz.isAgg21
 z21:=Tryz.sizeOf21
 v21:=Tryz.zeroValue21
 t37:=Tryz.underlying93
 a37:=Tryz.isAgg93
 z37:=Tryz.sizeOf93
 v37:=Tryz.zeroValue93
 t46:=Tryz.underlying163
 a46:=Tryz.isAgg163
 z46:=Tryz.sizeOf163
 v46:=Tryz.zeroValue163
 t51:=Tryz.underlying354
 a51:=Tryz.isAgg354
 z51:=Tryz.sizeOf354
 v51:=Tryz.zeroValue354
 t53:=Tryz.underlying102
 a53:=Tryz.isAgg102
 z53:=Tryz.sizeOf102
 v53:=Tryz.zeroValue102
 t75:=Tryz.underlying175
 a75:=Tryz.isAgg175
 z75:=Tryz.sizeOf175
 v75:=Tryz.zeroValue175
 t85:=Tryz.underlying176
 a85:=Tryz.isAgg176
 z85:=Tryz.sizeOf176
 v85:=Tryz.zeroValue176
 t127:=Tryz.underlying249
 a127:=Tryz.isAgg249
 z127:=Tryz.sizeOf249
 v127:=Tryz.zeroValue249
 t143:=Tryz.underlying384
 a143:=Tryz.isAgg384
 z143:=Tryz.sizeOf384
 v143:=Tryz.zeroValue384
 t145:=Tryz.underlying386
 a145:=Tryz.isAgg386
 z145:=Tryz.sizeOf386
 v145:=Tryz.zeroValue386
 t167:=Tryz.underlying312
 a167:=Tryz.isAgg312
 z167:=Tryz.sizeOf312
 v167:=Tryz.zeroValue312
 t168:=Tryz.underlying315
 a168:=Tryz.isAgg315
 z168:=Tryz.sizeOf315
 v168:=Tryz.zeroValue315
 t171:=Tryz.underlying297
 a171:=Tryz.isAgg297
 z171:=Tryz.sizeOf297
 v171:=Tryz.zeroValue297
 t173:=Tryz.underlying300
 a173:=Tryz.isAgg300
 z173:=Tryz.sizeOf300
 v173:=Tryz.zeroValue300
 t175:=Tryz.underlying313
 a175:=Tryz.isAgg313
 z175:=Tryz.sizeOf313
 v175:=Tryz.zeroValue313
 t210:=Tryz.underlying366
 a210:=Tryz.isAgg366
 z210:=Tryz.sizeOf366
 v210:=Tryz.zeroValue366
 t212:=Tryz.underlying353
 a212:=Tryz.isAgg353
 z212:=Tryz.sizeOf353
 v212:=Tryz.zeroValue353
 t213:=Tryz.underlying355
 a213:=Tryz.isAgg355
 z213:=Tryz.sizeOf355
 t232:=Tryz.underlying399
 a232:=Tryz.isAgg399
 z232:=Tryz.sizeOf399
 v232:=Tryz.zeroValue399
 t233:=Tryz.underlying400
 a233:=Tryz.isAgg400
 z233:=Tryz.sizeOf400
 v233:=Tryz.zeroValue400
 g15:=by kernel_rfl
 g16:=by kernel_rfl
 g17:=by kernel_rfl
 g18:=by kernel_rfl
 g19:=by kernel_rfl
 t80:=Tryz.underlying190
 a80:=Tryz.isAgg190
 z80:=Tryz.sizeOf190
 v80:=Tryz.zeroValue190
 i0:=by kernel_rfl
 i2:=by kernel_rfl
 i3:=by kernel_rfl
 i4:=by kernel_rfl
 i5:=by kernel_rfl
 i9:=by kernel_rfl
 i20:=by kernel_rfl
 i21:=by kernel_rfl
 i37:=by kernel_rfl
 i46:=by kernel_rfl
 i51:=by kernel_rfl
 i53:=by kernel_rfl
 i75:=by kernel_rfl
 i80:=by kernel_rfl
 i85:=by kernel_rfl
 i127:=by kernel_rfl
 i143:=by kernel_rfl
 i145:=by kernel_rfl
 i167:=by kernel_rfl
 i168:=by kernel_rfl
 i171:=by kernel_rfl
 i173:=by kernel_rfl
 i175:=by kernel_rfl
 i210:=by kernel_rfl
 i212:=by kernel_rfl
 i232:=by kernel_rfl
 i233:=by kernel_rfl
 m15:=by kernel_rfl
 m16:=by kernel_rfl
 m17:=by kernel_rfl
 m18:=by kernel_rfl
 m19:=by kernel_rfl
 c0:=by kernel_rfl
 c2:=by kernel_rfl
 c3:=by kernel_rfl
 c4:=by kernel_rfl
 c5:=by kernel_rfl
 c9:=by kernel_rfl
 c20:=by kernel_rfl
 c21:=by kernel_rfl
 c37:=by kernel_rfl
 c46:=by kernel_rfl
 c51:=by kernel_rfl
 c53:=by kernel_rfl
 c75:=by kernel_rfl
 c80:=by kernel_rfl
 c85:=by kernel_rfl
 c127:=by kernel_rfl
 c143:=by kernel_rfl
 c145:=by kernel_rfl
 c167:=by kernel_rfl
 c168:=by kernel_rfl
 c171:=by kernel_rfl
 c173:=by kernel_rfl
 c175:=by kernel_rfl
 c210:=by kernel_rfl
 c212:=by kernel_rfl
 c213:=by kernel_rfl
 c232:=by kernel_rfl
 c233:=by kernel_rfl }
open Go.RowKit in
theorem Tryz.strconv_ParseInt_10_at64_ok (s:ByteArray) (hmax:s.size<=9223372036854775806) (v:Int) (h:Lib.parseIntB 64 s.data.toList=.ok v) (w:World) :
 Calls Tryz.prog 94 #[.string s,.int .i64 10,.int .i64 64] w fun e w'=>e=.returned (.tuple #[.int .i64 v,.nilIface])/\(w'=w\/∃t,w'=Lib.bytesWorld w 5 t):=Any.strconv_ParseInt_10_at64_ok Tryz.laysC174 s hmax v h w
open Go.RowKit in
theorem Tryz.strconv_ParseInt_10_at64_syntax (s:ByteArray) (hlim:s.size<=281474976710656) (h:Lib.parseIntB 64 s.data.toList=Lib.NumEnd.syntax) (ev:Value) (w:World) (hv:w.cell? ⟨2,0,none⟩=some ev) (hev:ev=.nilIface\/∃te pe,ev=.iface te pe) :
 Calls Tryz.prog 94 #[.string s,.int .i64 10,.int .i64 64] w fun e w'=>∃N,e=.returned (.tuple #[.int .i64 (0),.iface 315 (.pointer (some ⟨N,0,none⟩))])/\w.heap.size<=N/\w'.heap[N]?=some (.cells #[.string ⟨#[80,97,114,115,101,73,110,116]⟩,.string s,ev] 366 (0,0))/\Below w.heap.size w w':=Any.strconv_ParseInt_10_at64_syntax Tryz.laysC174 s hlim h ev w hv hev
open Go.RowKit in
theorem Tryz.strconv_ParseInt_10_at64_range (s:ByteArray) (hlim:s.size<=281474976710656) (h:Lib.parseIntB 64 s.data.toList=.range) (ev:Value) (w:World) (hv:w.cell? ⟨3,0,none⟩=some ev) (hev:ev=.nilIface\/∃te pe,ev=.iface te pe) :
 Calls Tryz.prog 94 #[.string s,.int .i64 10,.int .i64 64] w fun e w'=>∃N,e=.returned (.tuple #[.int .i64 (Lib.intSat 64 s.data.toList),.iface 315 (.pointer (some ⟨N,0,none⟩))])/\w.heap.size<=N/\w'.heap[N]?=some (.cells #[.string ⟨#[80,97,114,115,101,73,110,116]⟩,.string s,ev] 366 (0,0))/\Below w.heap.size w w':=Any.strconv_ParseInt_10_at64_range Tryz.laysC174 s hlim h ev w hv hev
def Tryz.lays220_ren:Go.Shelf.Ren:=⟨fun|220=>200|219=>243|217=>264|225=>265|224=>266|267=>267|266=>276|314=>277|n=>n,fun|9=>9|4=>4|3=>3|5=>5|46=>163|146=>357|51=>354|n=>n,fun|1=>5|n=>n⟩
def Tryz.lays145_ren:Go.Shelf.Ren:=⟨fun|145=>149|220=>200|219=>243|217=>264|225=>265|224=>266|267=>267|266=>276|314=>277|n=>n,fun|9=>9|4=>4|59=>246|3=>3|5=>5|46=>163|146=>357|51=>354|n=>n,fun|1=>5|n=>n⟩
theorem Tryz.lays145:Go.Proofs.Lays.n145 Tryz.prog Tryz.lays145_ren:={
 mixed:=by kernel_rfl
 f145:=Tryz.func149.trans (congrArg some (by kernel_rfl))
 f217:=Tryz.func264.trans (congrArg some (by kernel_rfl))
 f219:=Tryz.func243.trans (congrArg some (by kernel_rfl))
 f220:=Tryz.func200.trans (congrArg some (by kernel_rfl))
 f224:=Tryz.func266.trans (congrArg some (by kernel_rfl))
 f225:=Tryz.func265.trans (congrArg some (by kernel_rfl))
 f266:=Tryz.func276.trans (congrArg some (by kernel_rfl))
 f267:=Tryz.func267.trans (congrArg some (by kernel_rfl))
 f314:=Tryz.func277.trans (congrArg some (by kernel_rfl))
 t3:=Tryz.underlying3
 a3:=Tryz.isAgg3
 z3:=Tryz.sizeOf3
 v3:=Tryz.zeroValue3
 t4:=Tryz.underlying4
 a4:=Tryz.isAgg4
 z4:=Tryz.sizeOf4
 v4:=Tryz.zeroValue4
 t5:=Tryz.underlying5
 a5:=Tryz.isAgg5
 z5:=Tryz.sizeOf5
 v5:=Tryz.zeroValue5
 t9:=Tryz.underlying9
 a9:=Tryz.isAgg9
 z9:=Tryz.sizeOf9
 v9:=Tryz.zeroValue9
 t46:=Tryz.underlying163
 a46:=Tryz.isAgg163
 z46:=Tryz.sizeOf163
 v46:=Tryz.zeroValue163
 t51:=Tryz.underlying354
 a51:=Tryz.isAgg354
 z51:=Tryz.sizeOf354
 v51:=Tryz.zeroValue354
 t59:=Tryz.underlying246
 a59:=Tryz.isAgg246
 z59:=Tryz.sizeOf246
 v59:=Tryz.zeroValue246
 t146:=Tryz.underlying357
 a146:=Tryz.isAgg357
 z146:=Tryz.sizeOf357
 v146:=Tryz.zeroValue357
 g1:=by kernel_rfl }
open Go.RowKit Go.Lib in
theorem Tryz.strings_Cut (s sep:ByteArray) (m:Int) (w:World) (hs:s.size<4294967281) (hm:w.cell? ⟨5,0,none⟩=some (.int .i64 m)) :
 Calls Tryz.prog 149 #[.string s,.string sep] w fun e w'=>e=.returned (.tuple #[.string ⟨(Lib.cut s.data.toList sep.data.toList).1.toArray⟩,.string ⟨(Lib.cut s.data.toList sep.data.toList).2.1.toArray⟩,.bool (Lib.cut s.data.toList sep.data.toList).2.2])/\∃n,w'=w.drewN n:=Any.strings_Cut Tryz.lays145 s sep m w hs hm
def Tryz.lays221_ren:Go.Shelf.Ren:=⟨fun|221=>135|268=>186|138=>187|143=>188|195=>241|197=>190|218=>242|219=>243|260=>244|217=>264|225=>265|224=>266|267=>267|266=>276|314=>277|n=>n,fun|9=>9|3=>3|31=>22|4=>4|0=>0|105=>309|21=>21|5=>5|46=>163|119=>379|139=>382|138=>381|146=>357|51=>354|n=>n,fun|1=>5|3=>6|4=>7|n=>n⟩
def Tryz.lays146_ren:Go.Shelf.Ren:=⟨fun|146=>92|221=>135|268=>186|138=>187|143=>188|195=>241|197=>190|218=>242|219=>243|260=>244|217=>264|225=>265|224=>266|267=>267|266=>276|314=>277|n=>n,fun|9=>9|31=>22|3=>3|4=>4|0=>0|105=>309|21=>21|5=>5|46=>163|119=>379|139=>382|138=>381|146=>357|51=>354|n=>n,fun|1=>5|3=>6|4=>7|n=>n⟩
theorem Tryz.lays146:Go.Proofs.Lays.n146 Tryz.prog Tryz.lays146_ren:={
 mixed:=by kernel_rfl
 f138:=Tryz.func187.trans (congrArg some (by kernel_rfl))
 f143:=Tryz.func188.trans (congrArg some (by kernel_rfl))
 f146:=Tryz.func92.trans (congrArg some (by kernel_rfl))
 f195:=Tryz.func241.trans (congrArg some (by kernel_rfl))
 f197:=Tryz.func190.trans (congrArg some (by kernel_rfl))
 f217:=Tryz.func264.trans (congrArg some (by kernel_rfl))
 f218:=Tryz.func242.trans (congrArg some (by kernel_rfl))
 f219:=Tryz.func243.trans (congrArg some (by kernel_rfl))
 f221:=Tryz.func135.trans (congrArg some (by kernel_rfl))
 f224:=Tryz.func266.trans (congrArg some (by kernel_rfl))
 f225:=Tryz.func265.trans (congrArg some (by kernel_rfl))
 f260:=Tryz.func244.trans (congrArg some (by kernel_rfl))
 f266:=Tryz.func276.trans (congrArg some (by kernel_rfl))
 f267:=Tryz.func267.trans (congrArg some (by kernel_rfl))
 f268:=Tryz.func186.trans (congrArg some (by kernel_rfl))
 f314:=Tryz.func277.trans (congrArg some (by kernel_rfl))
 t0:=Tryz.underlying0
 a0:=Tryz.isAgg0
 z0:=Tryz.sizeOf0
 v0:=Tryz.zeroValue0
 t3:=Tryz.underlying3
 a3:=Tryz.isAgg3
 z3:=Tryz.sizeOf3
 v3:=Tryz.zeroValue3
 t4:=Tryz.underlying4
 a4:=Tryz.isAgg4
 z4:=Tryz.sizeOf4
 v4:=Tryz.zeroValue4
 t5:=Tryz.underlying5
 a5:=Tryz.isAgg5
 z5:=Tryz.sizeOf5
 v5:=Tryz.zeroValue5
 t9:=Tryz.underlying9
 a9:=Tryz.isAgg9
 z9:=Tryz.sizeOf9
 v9:=Tryz.zeroValue9
 t21:=Tryz.underlying21
 a21:=Tryz.isAgg21
 z21:=Tryz.sizeOf21
 v21:=Tryz.zeroValue21
 t31:=Tryz.underlying22
 a31:=Tryz.isAgg22
 z31:=Tryz.sizeOf22
 v31:=Tryz.zeroValue22
 t46:=Tryz.underlying163
 a46:=Tryz.isAgg163
 z46:=Tryz.sizeOf163
 v46:=Tryz.zeroValue163
 t51:=Tryz.underlying354
 a51:=Tryz.isAgg354
 z51:=Tryz.sizeOf354
 v51:=Tryz.zeroValue354
 t105:=Tryz.underlying309
 a105:=Tryz.isAgg309
 z105:=Tryz.sizeOf309
 v105:=Tryz.zeroValue309
 t119:=Tryz.underlying379
 a119:=Tryz.isAgg379
 z119:=Tryz.sizeOf379
 t138:=Tryz.underlying381
 a138:=Tryz.isAgg381
 z138:=Tryz.sizeOf381
 v138:=Tryz.zeroValue381
 t139:=Tryz.underlying382
 a139:=Tryz.isAgg382
 z139:=Tryz.sizeOf382
 v139:=Tryz.zeroValue382
 t146:=Tryz.underlying357
 a146:=Tryz.isAgg357
 z146:=Tryz.sizeOf357
 v146:=Tryz.zeroValue357
 g1:=by kernel_rfl
 g3:=by kernel_rfl
 g4:=by kernel_rfl }
open Go.RowKit Go.Lib in
theorem Tryz.strings_Split (s sep:ByteArray) (m:Int) (w:World) (hs:s.size<4294967281) (hm:w.cell? ⟨5,0,none⟩=some (.int .i64 m)) (h1:1<=sep.size) :
 Calls Tryz.prog 92 #[.string s,.string sep] w fun e w' =>
  e=.returned (.slice (some ⟨w.heap.size,0,none⟩) (Lib.countB s sep+1) (Lib.countB s sep+1))/\w'=w.alloc (.cells ((Lib.splitB sep 0 (Lib.countB s sep) s).map Value.string).toArray 9):=Any.strings_Split Tryz.lays146 (by kernel_rfl) s sep m w hs hm h1
def Tryz.lays153_ren:Go.Shelf.Ren:=⟨fun|153=>275|152=>245|226=>284|227=>138|228=>189|137=>268|119=>269|224=>266|225=>265|217=>264|266=>276|n=>n,fun|9=>9|3=>3|4=>4|5=>5|21=>21|117=>240|116=>239|0=>0|46=>163|124=>243|n=>n,fun|n=>n⟩
theorem Tryz.lays153:Go.Proofs.Lays.n153 Tryz.prog Tryz.lays153_ren:={
 mixed:=by kernel_rfl
 f119:=Tryz.func269.trans (congrArg some (by kernel_rfl))
 f137:=Tryz.func268.trans (congrArg some (by kernel_rfl))
 f152:=Tryz.func245.trans (congrArg some (by kernel_rfl))
 f153:=Tryz.func275.trans (congrArg some (by kernel_rfl))
 f217:=Tryz.func264.trans (congrArg some (by kernel_rfl))
 f224:=Tryz.func266.trans (congrArg some (by kernel_rfl))
 f225:=Tryz.func265.trans (congrArg some (by kernel_rfl))
 f226:=Tryz.func284.trans (congrArg some (by kernel_rfl))
 f227:=Tryz.func138.trans (congrArg some (by kernel_rfl))
 f228:=Tryz.func189.trans (congrArg some (by kernel_rfl))
 f266:=Tryz.func276.trans (congrArg some (by kernel_rfl))
 t0:=Tryz.underlying0
 a0:=Tryz.isAgg0
 z0:=Tryz.sizeOf0
 v0:=Tryz.zeroValue0
 t3:=Tryz.underlying3
 a3:=Tryz.isAgg3
 z3:=Tryz.sizeOf3
 v3:=Tryz.zeroValue3
 t4:=Tryz.underlying4
 a4:=Tryz.isAgg4
 z4:=Tryz.sizeOf4
 v4:=Tryz.zeroValue4
 t5:=Tryz.underlying5
 a5:=Tryz.isAgg5
 z5:=Tryz.sizeOf5
 v5:=Tryz.zeroValue5
 t9:=Tryz.underlying9
 a9:=Tryz.isAgg9
 z9:=Tryz.sizeOf9
 v9:=Tryz.zeroValue9
 t21:=Tryz.underlying21
 a21:=Tryz.isAgg21
 z21:=Tryz.sizeOf21
 v21:=Tryz.zeroValue21
 t46:=Tryz.underlying163
 a46:=Tryz.isAgg163
 z46:=Tryz.sizeOf163
 v46:=Tryz.zeroValue163
 t116:=Tryz.underlying239
 a116:=Tryz.isAgg239
 z116:=Tryz.sizeOf239
 t117:=Tryz.underlying240
 a117:=Tryz.isAgg240
 z117:=Tryz.sizeOf240
 v117:=Tryz.zeroValue240
 t124:=Tryz.underlying243
 a124:=Tryz.isAgg243
 z124:=Tryz.sizeOf243
 v124:=Tryz.zeroValue243 }
end Go.Proofs
namespace Go.Sx
open Go.RowKit
variable {P:Program} {α:Type} [DecidableEq α]
theorem zbQ{β γ:Type}(f:β->γ):∀(l:List β)(j:Nat),(l.eraseIdx j).map f=(l.map f).eraseIdx j
 |[],_ => by simp
 |_::_,0 => by simp
 |a::l,j+1 => by simp[zbQ f l j]
structure zBk(P:Program)(k:TypeId)(enc:α->Value)(d:TypeDesc):Prop where
 u:P.underlying k=some d
 same:∀a b,Instr.sameNow d (enc a) (enc b)=some (decide (a=b))
 check:∀(em:Bool)(a:α)(w:World),(Instr.checkKey em 10000 k (enc a)).run P w=.ok () w
 stay:∀a,Instr.sameBits 10000 (enc a) (enc a)=true
theorem zGw{k:TypeId}{kk:IntKind}(h:P.underlying k=some (.int kk)):zBk P k (Value.int kk) (.int kk) :=
 ⟨h,fun a b=>by simp[Instr.sameNow];rfl,fun em a w=>by
  show(Instr.checkKey em (9999+1) k (.int kk a)).run P w=_
  unfold Instr.checkKey;simp only[Sem.run_bind,run_underlying h,Result.andThen_ok];rfl,fun a=>by
  show Instr.sameBits (9999+1) (.int kk a) (.int kk a)=true
  unfold Instr.sameBits;simp⟩
theorem zuf(a b:ByteArray):(a==b)=decide (a=b):=by
 have h:(a==b)=(a.data==b.data):=by cases a;cases b;rfl
 rw[h]
 by_cases he:a=b
 ·subst he;simp
 ·have:a.data≠b.data:=fun hd=>he (by cases a;cases b;simp_all)
  simp[he,this]
theorem zsQ{k:TypeId}(h:P.underlying k=some .string):zBk P k Value.string .string :=
 ⟨h,fun a b=>by simp[Instr.sameNow,zuf],fun em a w=>by
  show(Instr.checkKey em (9999+1) k (.string a)).run P w=_
  unfold Instr.checkKey;simp only[Sem.run_bind,run_underlying h,Result.andThen_ok];rfl,fun a=>by
  show Instr.sameBits (9999+1) (.string a) (.string a)=true
  unfold Instr.sameBits;rw[zuf];simp⟩
def ziC:List (α×Value)->α->Option Value
 |[],_ => none
 |(b,u)::r,a => if b=a then some u else ziC r a
def zqz:List (α×Value)->α->Value->List (α×Value)
 |[],a,v => [(a,v)]
 |(b,u)::r,a,v => if b=a then (a,v)::r else (b,u)::zqz r a v
def zu2:List (α×Value)->α->List (α×Value)
 |[],_ => []
 |(b,u)::r,a => if b=a then r else (b,u)::zu2 r a
def zjS:List (α×Value)->α->Nat->Option (Nat×Value)
 |[],_,_ => none
 |(b,u)::r,a,i => if b=a then some (i,u) else zjS r a (i+1)
def zdE(m:List (α×Value)):List α:=m.map (·.1)
theorem zlA(m:List (α×Value))(a b:α)(v:Value):ziC (zqz m a v) b=if a=b then some v else ziC m b:=by
 induction m with
 |nil => rfl
 |cons x r ih =>
  obtain⟨c,u⟩:=x
  simp only[zqz]
  by_cases h:c=a
  ·subst h;rw[if_pos rfl];simp only[ziC]
   by_cases hb:c=b
   ·rw[if_pos hb,if_pos hb]
   ·rw[if_neg hb,if_neg hb,if_neg hb]
  ·rw[if_neg h];simp only[ziC,ih]
   by_cases hb:c=b
   ·rw[if_pos hb,if_neg (fun he=>h (hb.trans he.symm)),if_pos hb]
   ·rw[if_neg hb,if_neg hb]
theorem zrV(m:List (α×Value))(a:α)(v:Value):zdE (zqz m a v)=if a∈zdE m then zdE m else zdE m++[a]:=by
 induction m with
 |nil => rfl
 |cons x r ih =>
  obtain⟨c,u⟩:=x
  simp only[zqz]
  by_cases h:c=a
  ·subst h;rw[if_pos rfl];simp[zdE]
  ·rw[if_neg h]
   have e:zdE ((c,u)::zqz r a v)=c::zdE (zqz r a v):=rfl
   rw[e,ih]
   have e2:zdE ((c,u)::r)=c::zdE r:=rfl
   rw[e2]
   by_cases hm:a∈zdE r
   ·rw[if_pos hm,if_pos (by simp[hm])]
   ·rw[if_neg hm,if_neg (by simp[hm];exact fun he=>h he.symm)];rfl
theorem zDn{m:List (α×Value)}{a:α}:ziC m a=none↔a∉zdE m:=by
 induction m with
 |nil => simp[ziC,zdE]
 |cons x r ih =>
  obtain⟨c,u⟩:=x
  have e2:zdE ((c,u)::r)=c::zdE r:=rfl
  rw[e2]
  simp only[ziC]
  by_cases h:c=a
  ·subst h;simp
  ·rw[if_neg h,ih];simp;exact fun _ he=>h he.symm
theorem zu3(m:List (α×Value))(hn:(zdE m).Nodup)(a b:α):ziC (zu2 m a) b=if a=b then none else ziC m b:=by
 induction m with
 |nil => simp[zu2,ziC]
 |cons x r ih =>
  obtain⟨c,u⟩:=x
  have e2:zdE ((c,u)::r)=c::zdE r:=rfl
  rw[e2,List.nodup_cons] at hn
  simp only[zu2]
  by_cases h:c=a
  ·subst h;rw[if_pos rfl];simp only[ziC]
   by_cases hb:c=b
   ·subst hb;rw[if_pos rfl];exact zDn.2 hn.1
   ·rw[if_neg hb,if_neg hb]
  ·rw[if_neg h];simp only[ziC,ih hn.2]
   by_cases hb:c=b
   ·subst hb;rw[if_pos rfl,if_neg (fun he=>h he.symm),if_pos rfl]
   ·rw[if_neg hb,if_neg hb]
theorem zrU(m:List (α×Value))(a:α):zdE (zu2 m a)=(zdE m).erase a:=by
 induction m with
 |nil => rfl
 |cons x r ih =>
  obtain⟨c,u⟩:=x
  simp only[zu2]
  have e2:zdE ((c,u)::r)=c::zdE r:=rfl
  by_cases h:c=a
  ·subst h;rw[if_pos rfl,e2];simp
  ·rw[if_neg h,e2,List.erase_cons_tail (by simpa using h),<-ih];rfl
theorem zfj{m:List (α×Value)}{a:α}{i j:Nat}{u:Value}(h:zjS m a i=some (j,u)):i<=j/\m[j-i]?=some (a,u)/\(∀v,zqz m a v=m.set (j-i) (a,v))/\zu2 m a=m.eraseIdx (j-i)/\ziC m a=some u:=by
 induction m generalizing i with
 |nil => simp[zjS] at h
 |cons x r ih =>
  obtain⟨c,v⟩:=x
  simp only[zjS] at h
  by_cases hc:c=a
  ·subst hc
   rw[if_pos rfl] at h
   obtain⟨rfl,rfl⟩:=Prod.mk.inj (Option.some.inj h)
   refine⟨Nat.le_refl _,by simp,fun w=>by simp[zqz],by simp[zu2],by simp[ziC]⟩
  ·rw[if_neg hc] at h
   obtain⟨h1,h2,h3,h4,h5⟩:=ih h
   have e:j-i=(j-(i+1))+1:=by omega
   refine⟨by omega,by rw[e];simpa using h2,fun w=>?_,?_,?_⟩
   ·rw[e];simp only[zqz,if_neg hc,h3 w,List.set_cons_succ]
   ·rw[e];simp only[zu2,if_neg hc,h4,List.eraseIdx_cons_succ]
   ·simp only[ziC,if_neg hc,h5]
theorem zfi{m:List (α×Value)}{a:α}{i:Nat}(h:zjS m a i=none):(∀v,zqz m a v=m++[(a,v)])/\zu2 m a=m/\ziC m a=none:=by
 induction m generalizing i with
 |nil => exact⟨fun _ => rfl,rfl,rfl⟩
 |cons x r ih =>
  obtain⟨c,v⟩:=x
  simp only[zjS] at h
  by_cases hc:c=a
  ·rw[if_pos hc] at h;cases h
  ·rw[if_neg hc] at h
   obtain⟨h1,h2,h3⟩:=ih h
   exact⟨fun w=>by simp[zqz,hc,h1 w],by simp[zu2,hc,h2],by simp[ziC,hc,h3]⟩
section
variable {k:TypeId} {enc:α->Value} {d:TypeDesc}
theorem zuu(K:zBk P k enc d)(a:α):∀(m:List (α×Value)) (es:List MapEntry) (i:Nat),es.map (fun e=>(e.key,e.val))=m.map (fun x=>(enc x.1,x.2))->Instr.findNow d (enc a) es i=some (zjS m a i)
 |[],es,i,h => by
  simp at h;subst h;rfl
 |(b,u)::m,es,i,h => by
  cases es with
  |nil => simp at h
  |cons e es =>
   simp only[List.map_cons,List.cons.injEq,Prod.mk.injEq] at h
   obtain⟨⟨h1,h2⟩,h3⟩:=h
   unfold Instr.findNow
   rw[h1,K.same]
   by_cases hab:b=a
   ·subst hab;simp[zjS,h2]
   ·have:decide (a=b)=false:=by simp;exact fun he=>hab he.symm
    rw[this];simp only[zjS,if_neg hab]
    exact zuu K a m es (i+1) h3
structure zdc(enc:α->Value)(w:World)(r:Nat)(m:List (α×Value)):Prop where
 nodup:(zdE m).Nodup
 es:∃es clock,w.heap[r]?=some (.map es clock)/\es.toList.map (fun e=>(e.key,e.val))=m.map (fun x=>(enc x.1,x.2))
theorem zdc.lt{w:World}{r:Nat}{m:List (α×Value)}(h:zdc enc w r m):r<w.heap.size:=by
 obtain⟨es,c,h1,_⟩:=h.es
 exact(Array.getElem?_eq_some_iff.1 h1).1
theorem zdc.ext{w w':World}{r:Nat}{m:List (α×Value)}(h:zdc enc w r m)(he:Ext w w'):zdc enc w' r m:=by
 have hl:=h.lt
 obtain⟨es,c,h1,h2⟩:=h.es
 exact⟨h.nodup,es,c,by rw[he.block r hl];exact h1,h2⟩
theorem zdc.grew{w w':World}{r:Nat}{m:List (α×Value)}{p q:Option Addr}(h:zdc enc w r m)(hp:∀x,p=some x->x.block≠r)(hg:zco w w' p q):zdc enc w' r m:=by
 have hl:=h.lt
 obtain⟨es,c,h1,h2⟩:=h.es
 refine⟨h.nodup,es,c,?_,h2⟩
 rw[hg.by_.block r hl fun he=>?_]
 ·exact h1
 ·cases p with
  |none => cases he
  |some x => simp[blk] at he;exact hp x rfl he.symm
theorem zkS{t:TypeId}{w:World}{K:Value->World->Prop}(hk:∀w',zdc enc w' w.heap.size []->Ext w w'->K (.map (some w.heap.size)) w'):Run P (.makeMap t) w K:=by
 refine⟨_,w.alloc (.map #[] 0),rfl,hk _ ⟨by simp[zdE],#[],0,?_,rfl⟩ (Below.alloc (Below.refl _ _) (Nat.le_refl _) _)⟩
 exact heap_alloc_new w _
theorem zdT(K:zBk P k enc d){w:World}{m:List (α×Value)}{es:Array MapEntry}(h:es.toList.map (fun e=>(e.key,e.val))=m.map (fun x=>(enc x.1,x.2)))(a:α):(Instr.findKey k (enc a) es.toList).run P w=.ok (zjS m a 0) w:=by
 unfold Instr.findKey
 rw[Sem.run_bind,run_underlying K.u,Result.andThen_ok,zuu K a m _ 0 h]
 simp
theorem zcz{w:World}{r:Nat}{es:Array MapEntry}{c:Nat}(h:w.heap[r]?=some (.map es c)):(getObj r).run P w=.ok (.map es c) w:=by simp[getObj,Sem.run,h]
theorem znf(K:zBk P k enc d){t e:TypeId}(ht:P.underlying t=some (.map k e)){i:TypeInfo}{z:Value}(hi:P.info? e=some i)(hz:i.zero=some z){w:World}{r:Nat}{m:List (α×Value)}(h:zdc enc w r m){a:α}{ok:Bool}{Q:Value->World->Prop}
  (hk:Q (if ok then .tuple #[(ziC m a).getD z,.bool (ziC m a).isSome] else (ziC m a).getD z) w):Run P (.lookup t (.map (some r)) (enc a) ok) w Q:=by
 obtain⟨es,c,h1,h2⟩:=h.es
 refine⟨_,w,?_,hk⟩
 show(Instr.lookup t (.map (some r)) (enc a) ok).run P w=_
 have hzv:(zeroValue e).run P w=.ok z w:=by simp[zeroValue,typeInfo,hi,hz]
 unfold Instr.lookup
 simp only[Sem.run_bind,run_underlying ht,Result.andThen_ok,zcz h1,Sem.run_pure,K.check,zdT K h2]
 cases hf:zjS m a 0 with
 |none =>
  have:=(zfi hf).2.2
  cases ok<;>simp[this,hzv]
 |some x =>
  obtain⟨j,u⟩:=x
  have:=(zfj hf).2.2.2.2
  cases ok<;>simp[this]
theorem zG9(K:zBk P k enc d){t e:TypeId}(ht:P.underlying t=some (.map k e)){sz b:Nat}{t':TypeId}{z:Value}(he:zfW P t'=some (e,sz,b,z)){w:World}{r:Nat}{m:List (α×Value)}(h:zdc enc w r m){a:α}{Q:Value->World->Prop}
  (hk:Q ((ziC m a).getD z) w):Run P (.lookup t (.map (some r)) (enc a) false) w Q:=by
 obtain⟨i,_,h2,h6,_⟩:=zd0 he
 exact znf K ht h2 h6 h hk
theorem zch{w:World}{r:Nat}{es es':Array MapEntry}{c c':Nat}(h:w.heap[r]?=some (.map es c)):∃w',(setObj r (.map es' c')).run P w=.ok () w'/\w'.heap[r]?=some (.map es' c')/\zco w w' (some ⟨r,0,none⟩) (some ⟨r,0,none⟩):=by
 have hl:=(Array.getElem?_eq_some_iff.1 h).1
 refine⟨{ w with heap:=w.heap.setIfInBounds r (.map es' c') },by simp[setObj,Sem.run,h],by simp[hl],⟨⟨rfl,rfl,rfl,by simp,fun j hj hne=>?_⟩,.inl rfl⟩⟩
 have:r≠j:=fun he=>hne (by simp[blk,he])
 simp[Array.getElem?_setIfInBounds,this]
theorem zh0(K:zBk P k enc d){t e:TypeId}(ht:P.underlying t=some (.map k e)){w:World}{r:Nat}{m:List (α×Value)}(h:zdc enc w r m){a:α}{v:Value}{Q:Value->World->Prop}
  (hk:∀w',zdc enc w' r (zqz m a v)->zco w w' (some ⟨r,0,none⟩) (some ⟨r,0,none⟩)->Q undef w'):Run P (.mapUpdate t (.map (some r)) (enc a) v) w Q:=by
 obtain⟨es,c,h1,h2⟩:=h.es
 have hn:(zdE (zqz m a v)).Nodup:=by
  rw[zrV]
  split
  ·exact h.nodup
  ·rename_i hm
   rw[List.nodup_append]
   exact⟨h.nodup,by simp,fun x hx y hy he=>by simp at hy;subst hy;subst he;exact hm hx⟩
 cases hf:zjS m a 0 with
 |none =>
  obtain⟨g1,_,g3⟩:=zfi hf
  obtain⟨w',r1,r2,r3⟩:=zch (P:=P) (es':=es.push { key:=enc a,val:=v,born:=c }) (c':=c+1) h1
  refine⟨_,w',?_,hk w' ⟨hn,_,_,r2,?_⟩ r3⟩
  ·show(do Instr.mapUpdate t (.map (some r)) (enc a) v;pure undef:Sem Value).run P w=_
   unfold Instr.mapUpdate
   simp only[Sem.run_bind,run_underlying ht,Result.andThen_ok,zcz h1,K.check,zdT K h2,hf,r1,Sem.run_pure]
  ·rw[g1];simp[h2]
 |some x =>
  obtain⟨j,u⟩:=x
  obtain⟨_,g2,g3,_,_⟩:=zfj hf
  rw[Nat.sub_zero] at g2
  have hj:j<es.size:=by
   have:=congrArg List.length h2
   simp at this
   have:=(List.getElem?_eq_some_iff.1 g2).1
   omega
  have hkey:es[j].key=enc a:=by
   have:=congrArg (fun l=>l[j]?) h2
   simp[g2,hj] at this
   exact this.1
  have hst:(Instr.keyThatStays (enc a) (enc a)).run P w=.ok (enc a) w:=by unfold Instr.keyThatStays;rw[K.stay];simp
  obtain⟨w',r1,r2,r3⟩:=zch (P:=P) (es':=es.modify j fun e=>{ e with key:=enc a,val:=v }) (c':=c) h1
  refine⟨_,w',?_,hk w' ⟨hn,_,_,r2,?_⟩ r3⟩
  ·show(do Instr.mapUpdate t (.map (some r)) (enc a) v;pure undef:Sem Value).run P w=_
   unfold Instr.mapUpdate
   simp only[Sem.run_bind,run_underlying ht,Result.andThen_ok,zcz h1,K.check,zdT K h2,hf]
   simp only[Array.getElem?_eq_getElem hj,Option.map_some,Option.getD_some,hkey,hst,Result.andThen_ok,r1,Sem.run_pure]
  ·rw[g3,Nat.sub_zero]
   apply List.ext_getElem?
   intro i
   rw[List.map_set,<-h2]
   simp only[List.getElem?_map,Array.getElem?_toList,Array.getElem?_modify,List.getElem?_set,List.length_map,Array.length_toList]
   by_cases hij:j=i
   ·subst hij;simp[hj]
   ·simp[hij]
theorem zA5(K:zBk P k enc d){t e ty:TypeId}{ts:List TypeId}(ht:P.underlying t=some (.map k e)){w:World}{r:Nat}{m:List (α×Value)}(h:zdc enc w r m){a:α}{Q:Value->World->Prop}
  (hk:∀w',zdc enc w' r (zu2 m a)->zco w w' (some ⟨r,0,none⟩) (some ⟨r,0,none⟩)->Q (.tuple #[]) w'):Run P (.delete (t::ts).toArray ty [.map (some r),enc a]) w Q:=by
 obtain⟨es,c,h1,h2⟩:=h.es
 have hn:(zdE (zu2 m a)).Nodup:=by rw[zrU];exact h.nodup.erase _
 cases hf:zjS m a 0 with
 |none =>
  obtain⟨_,g1,g3⟩:=zfi hf
  obtain⟨w',r1,r2,r3⟩:=zch (P:=P) (es':=es) (c':=c) h1
  refine⟨_,w',?_,hk w' ⟨hn,_,_,r2,by rw[g1];exact h2⟩ r3⟩
  show(Builtin.delete_ (t::ts).toArray ty #[.map (some r),enc a]).run P w=_
  unfold Builtin.delete_
  simp[run_underlying ht,zcz h1,K.check,zdT K h2,hf,r1]
 |some x =>
  obtain⟨j,u⟩:=x
  obtain⟨_,g2,_,g4,_⟩:=zfj hf
  rw[Nat.sub_zero] at g2 g4
  obtain⟨w',r1,r2,r3⟩:=zch (P:=P) (es':=es.eraseIdxIfInBounds j) (c':=c) h1
  refine⟨_,w',?_,hk w' ⟨hn,_,_,r2,?_⟩ r3⟩
  ·show(Builtin.delete_ (t::ts).toArray ty #[.map (some r),enc a]).run P w=_
   unfold Builtin.delete_
   simp[run_underlying ht,zcz h1,K.check,zdT K h2,hf,r1]
  ·have hj:j<es.size:=by
    have:=congrArg List.length h2
    simp at this
    have:=(List.getElem?_eq_some_iff.1 g2).1
    omega
   rw[g4]
   have:(es.eraseIdxIfInBounds j).toList=es.toList.eraseIdx j:=by simp[Array.eraseIdxIfInBounds,hj]
   rw[this,zbQ,h2,<-zbQ]
end
variable {P:Program}
structure zn3 where
 e:TypeId
 s:Nat
 p:Option Addr
 n:Nat
 c:Nat
 xs:List Value
def zn3.ok(B:Nat)(w:World)(r:zn3):Prop:=Own B w r.e r.s r.p r.n r.c r.xs
structure zc7(w0:World)(ns:List Nat)(w:World)(rs:List zn3):Prop where
 ext:Ext w0 w
 own:∀(i:Nat)(r:zn3),rs[i]?=some r->r.ok w0.heap.size w
 apart:∀(i j:Nat)(a b:zn3),i≠j->rs[i]?=some a->rs[j]?=some b->zbU a.p b.p
 free:∀(i:Nat)(r:zn3),rs[i]?=some r->∀b∈ns,∀x,r.p=some x->x.block≠b
theorem zc7.nil{w0 w:World}{ns:List Nat}(h:Ext w0 w):zc7 w0 ns w [] :=
 ⟨h,fun i r hr=>by simp at hr,fun i j a b _ ha=>by simp at ha,fun i r hr=>by simp at hr⟩
theorem zc7.get{w0 w:World}{ns:List Nat}{rs:List zn3}(h:zc7 w0 ns w rs)(i:Nat){e:TypeId}{s:Nat}{p:Option Addr}{n c:Nat}{xs:List Value}(hi:rs[i]?=some ⟨e,s,p,n,c,xs⟩):Own w0.heap.size w e s p n c xs:=h.own i _ hi
theorem zc7.to{w0 w w':World}{ns:List Nat}{rs:List zn3}(h:zc7 w0 ns w rs)(he:Ext w w'):zc7 w0 ns w' rs :=
 ⟨h.ext.trans he,fun i r hr=>(h.own i r hr).ext he,h.apart,h.free⟩
theorem zc7.put{w0 w w':World}{ns:List Nat}{rs:List zn3}(h:zc7 w0 ns w rs)(i:Nat){r r':zn3}(hi:rs[i]?=some r)(o:r'.ok w0.heap.size w')(g:zco w w' r.p r'.p)(hf:∀b∈ns,b<w.heap.size):zc7 w0 ns w' (rs.set i r'):=by
 have hlt:i<rs.length:=by
  rcases Nat.lt_or_ge i rs.length with h|h
  ·exact h
  ·rw[List.getElem?_eq_none h] at hi;cases hi
 have key:∀(j:Nat)(a:zn3),(rs.set i r')[j]?=some a->(j=i/\a=r')\/(j≠i/\rs[j]?=some a):=by
  intro j a ha
  rw[List.getElem?_set] at ha
  by_cases hij:i=j
  ·subst hij
   rw[if_pos rfl,if_pos hlt] at ha
   exact .inl ⟨rfl,(Option.some.inj ha).symm⟩
  ·rw[if_neg hij] at ha
   exact .inr ⟨fun h=>hij h.symm,ha⟩
 have hap:∀(j:Nat)(a:zn3),j≠i->rs[j]?=some a->zbU a.p r'.p:=fun j a hj ha=>(h.apart j i a r hj ha hi).grew (h.own j a ha) g
 refine⟨g.ext h.ext (h.own i r hi),fun j a ha=>?_,fun j k a b hjk ha hb=>?_,fun j a ha b hb x hx=>?_⟩
 ·rcases key j a ha with⟨h1,h2⟩|⟨hj,ha'⟩
  ·rw[h2];exact o
  ·exact(h.own j a ha').st (h.apart j i a r hj ha' hi) g
 ·rcases key j a ha with⟨h1,h2⟩|⟨hj,ha'⟩
  ·rcases key k b hb with⟨h3,h4⟩|⟨hk,hb'⟩
   ·exact absurd (h1.trans h3.symm) hjk
   ·rw[h2];exact(hap k b hk hb').symm
  ·rcases key k b hb with⟨h3,h4⟩|⟨hk,hb'⟩
   ·rw[h4];exact hap j a hj ha'
   ·exact h.apart j k a b hjk ha' hb'
 ·rcases key j a ha with⟨h1,h2⟩|⟨hj,ha'⟩
  ·subst h2
   rcases g.new with hn|hn
   ·cases hp:r.p with
    |none => rw[hp,hx] at hn;simp[blk] at hn
    |some y =>
     rw[hp,hx] at hn
     simp only[blk,Option.map_some,Option.some.injEq] at hn
     rw[hn]
     exact h.free _ r hi b hb y hp
   ·have:=hn x hx
    have:=hf b hb
    omega
  ·exact h.free j a ha' b hb x hx
theorem zc7.new{w0 w w':World}{ns:List Nat}{rs:List zn3}(h:zc7 w0 ns w rs){r:zn3}(o:r.ok w0.heap.size w')(he:Ext w w')(hn:∀a,r.p=some a->w.heap.size<=a.block)(hf:∀b∈ns,b<w.heap.size):zc7 w0 ns w' (r::rs):=by
 refine⟨h.ext.trans he,fun j a ha=>?_,fun j k a b hjk ha hb=>?_,fun j a ha b hb x hx=>?_⟩
 ·cases j with
  |zero => simp at ha;subst ha;exact o
  |succ j => exact(h.own j a (by simpa using ha)).ext he
 ·have hnew:∀(j:Nat)(a:zn3),rs[j]?=some a->zbU a.p r.p:=fun j a ha x y hx hy hxy=>by
   have:=(h.own j a ha).lt x hx
   have:=hn y hy
   omega
  cases j with
  |zero =>
   simp at ha;subst ha
   cases k with
   |zero => exact absurd rfl hjk
   |succ k => exact(hnew k b (by simpa using hb)).symm
  |succ j =>
   cases k with
   |zero => simp at hb;subst hb;exact hnew j a (by simpa using ha)
   |succ k => exact h.apart j k a b (fun h => hjk (by omega)) (by simpa using ha) (by simpa using hb)
 ·cases j with
  |zero =>
   simp at ha;subst ha
   have:=hn x hx
   have:=hf b hb
   omega
  |succ j => exact h.free j a (by simpa using ha) b hb x hx
theorem zc7.new0{w0 w w':World}{ns:List Nat}{rs:List zn3}(h:zc7 w0 ns w rs){e:TypeId}{s n c:Nat}{xs:List Value}(o:∀B,B<=w.heap.size->Own B w' e s (some ⟨w.heap.size,0,none⟩) n c xs)(he:Ext w w')(hf:∀b∈ns,b<w.heap.size):zc7 w0 ns w' (⟨e,s,some ⟨w.heap.size,0,none⟩,n,c,xs⟩::rs) :=
 h.new (o _ h.ext.size) he (fun a ha=>by obtain rfl:=Option.some.inj ha;simp) hf
theorem zc7.store{w0 w:World}{ns:List Nat}{rs:List zn3}(h:zc7 w0 ns w rs)(i:Nat){e:TypeId}{s:Nat}{p a:Option Addr}{n c:Nat}{xs vs:List Value}(hi:rs[i]?=some ⟨e,s,p,n,c,xs⟩)(off:Nat){K:World->Prop}(ha:a=p.map (·.add off))(hlen:off+vs.length<=xs.length)(hpos:vs≠[])
  (h1:∀v∈vs,v.oneCell'=true) (hf:∀b∈ns,b<w.heap.size) (hk:∀w',zc7 w0 ns w' (rs.set i ⟨e,s,p,n,c,zdt xs off vs⟩)->zco w w' p p->K w'):zan w a vs ns K :=
 zaS (h.get i hi) ha hlen hpos h1 (fun b hb x hx=>h.free i _ hi b hb x hx) fun w' o g=>hk w' (h.put i hi o g hf) g
section make
variable {w0 w:World} {ns:List Nat} {rs:List zn3}
theorem zc7.new_row{t:TypeId}{vs:List Value}(h:zc7 w0 ns w rs)(h1:∀v∈vs,v.oneCell'=true)(hf:∀b∈ns,b<w.heap.size){K:Option Addr->World->Prop}
  (hk:∀p w',zc7 w0 ns w' (⟨t,vs.length,p,1,1,vs⟩::rs)->Ext w w'->K p w'):New w t vs K :=
 zbp h1 fun w' o e=>hk _ w' (h.new0 o e hf) e
end make
variable {P:Program}
structure Fr(S:Nat->Prop)(w w':World):Prop where
 os:w'.os=w.os
 tape:w'.tape=w.tape
 output:w'.output=w.output
 size:w.heap.size<=w'.heap.size
 block:∀k,k<w.heap.size->¬S k->w'.heap[k]?=w.heap[k]?
theorem Fr.refl(S:Nat->Prop)(w:World):Fr S w w:=⟨rfl,rfl,rfl,Nat.le_refl _,fun _ _ _=>rfl⟩
theorem Fr.trans{S S':Nat->Prop}{w w' w'':World}(h:Fr S w w')(k:Fr S' w' w'')(hs:∀b,S' b->S b\/w.heap.size<=b):Fr S w w'' :=
 ⟨k.os.trans h.os,k.tape.trans h.tape,k.output.trans h.output,Nat.le_trans h.size k.size,fun b hb hn =>
  (k.block b (Nat.lt_of_lt_of_le hb h.size) fun h'=>(hs b h').elim hn fun h=>by omega).trans (h.block b hb hn)⟩
theorem Fr.tr{S:Nat->Prop}{w w' w'':World}(h:Fr S w w')(k:Fr S w' w''):Fr S w w'':=h.trans k fun _ h=>.inl h
theorem Fr.mono{S S':Nat->Prop}{w w':World}(h:Fr S w w')(hs:∀b,S b->S' b):Fr S' w w':=⟨h.os,h.tape,h.output,h.size,fun b hb hn=>h.block b hb fun h'=>hn (hs b h')⟩
theorem zac{S:Nat->Prop}{w w':World}(h:Ext w w'):Fr S w w':=⟨h.os,h.tape,h.output,h.size,fun b hb _=>h.block b hb⟩
theorem zbL{S:Nat->Prop}{ds ns:List Nat}{w w':World}(h:zag ds ns w w')(hd:∀d∈ds,S d\/w.heap.size<=d):Fr S w w':=⟨h.os,h.tape,h.output,h.size,fun b hb hn=>h.block b hb fun h'=>(hd b h').elim hn fun h=>by omega⟩
theorem zaP{S:Nat->Prop}{w w':World}{p q:Option Addr}(h:zco w w' p q)(hs:∀a,p=some a->S a.block):Fr S w w' :=
 ⟨h.by_.os,h.by_.tape,h.by_.output,h.by_.size,fun b hb hn=>h.by_.block b hb fun he=>by
  cases p with
  |none => simp[blk] at he
  |some a => simp[blk] at he;exact hn (he▸hs a rfl)⟩
theorem Fr.ext{S:Nat->Prop}{w0 w w':World}(h:Fr S w w')(h0:Ext w0 w)(hs:∀b,S b->w0.heap.size<=b):Ext w0 w' :=
 ⟨h.os.trans h0.os,h.tape.trans h0.tape,h.output.trans h0.output,Nat.le_trans h0.size h.size,fun b hb=>(h.block b (Nat.lt_of_lt_of_le hb h0.size) fun h'=>by have:=hs b h';omega).trans (h0.block b hb)⟩
theorem Fr.kept{S:Nat->Prop}{w w':World}{ns:List Nat}(h:Fr S w w')(hn:∀b∈ns,b<w.heap.size/\¬S b):zbK ns w w':=fun b hb=>h.block b (hn b hb).1 (hn b hb).2
theorem Own.fr{B:Nat}{S:Nat->Prop}{w w':World}{e:TypeId}{s:Nat}{p:Option Addr}{n c:Nat}{xs:List Value}(h:Own B w e s p n c xs)(k:Fr S w w')(hp:∀a,p=some a->¬S a.block):Own B w' e s p n c xs:=by
 cases p with
 |none =>
  refine⟨h.1,?_⟩
  rcases h.2 with hn|⟨g,cap,cur,hv,_⟩
  ·exact .inl hn
  ·simp at hv
 |some a =>
  refine⟨h.1,?_⟩
  rcases h.2 with hn|⟨g,cap,cur,hv,hb,hg,zat⟩
  ·exact .inl hn
  ·refine .inr ⟨g,cap,cur,hv,hb,?_,zat⟩
   have:a=⟨g,0,none⟩:=by simp at hv;exact hv.1
   have hlt:=(h.lt a rfl).2
   subst this
   rw[k.block g hlt (hp _ rfl)];exact hg
theorem zau.fr{S:Nat->Prop}{w w':World}{p:Option Addr}{vs:List Value}(h:zau w p vs)(k:Fr S w w')(hp:∀a,p=some a->¬S a.block):zau w' p vs:=by
 intro i v hv
 obtain⟨a,rfl,hb,hc⟩:=zdQ (h i v hv)
 show w'.cell? (a.add i)=some v
 rw[World.cell?_of_block (w:=w) (by rw[zaU];exact k.block _ hb (hp a rfl))]
 exact hc
theorem zdP{S:Nat->Prop}{w w':World}{p:Option Addr}{i:Nat}{v:Value}(h:cell w p i=some v)(k:Fr S w w')(hp:∀a,p=some a->¬S a.block):cell w' p i=some v:=by
 obtain⟨a,rfl,hb,hc⟩:=zdQ h
 show w'.cell? (a.add i)=some v
 rw[World.cell?_of_block (w:=w) (by rw[zaU];exact k.block _ hb (hp a rfl))]
 exact hc
theorem zdc.fr{α:Type}[DecidableEq α]{enc:α->Value}{S:Nat->Prop}{w w':World}{r:Nat}{m:List (α×Value)}(h:zdc enc w r m)(k:Fr S w w')(hp:¬S r):zdc enc w' r m:=by
 obtain⟨es,c,h1,h2⟩:=h.es
 exact⟨h.nodup,es,c,(k.block r h.lt hp).trans h1,h2⟩
theorem Own.cellAt{B:Nat}{w:World}{e:TypeId}{s:Nat}{p:Option Addr}{n c:Nat}{xs:List Value}(h:Own B w e s p n c xs){i:Nat}{v:Value}(hv:xs[i]?=some v):cell w p i=some v:=h.cells i v hv
theorem Own.cellAt0{B:Nat}{w:World}{e:TypeId}{s:Nat}{p:Option Addr}{n c:Nat}{xs:List Value}(h:Own B w e s p n c xs){i:Nat}{v:Value}(hv:xs[i]?=some v):cell w (pAdd p i) 0=some v:=by rw[zak];exact h.cells i v hv
theorem zaR(p:Option Addr):pAdd p 0=p:=by cases p<;>simp[pAdd,add_zero]
theorem zct{B:Nat}{w:World}{e:TypeId}{s:Nat}{q:Option Addr}{n c off:Nat}{xs:List Value}{v:Value}{ns:List Nat}{K:World->Prop}
  (ho:Own B w e s q n c xs) (hlen:off<xs.length) (h1:v.oneCell'=true) (hns:∀b∈ns,∀x,q=some x->x.block≠b)
  (hk:∀w',Own B w' e s q n c (xs.set off v)->zco w w' q q->K w'):zan w (pAdd q off) [v] ns K :=
 zaS ho rfl (by simp;omega) (by simp) (by simpa using h1) hns hk
theorem zDm{t:TypeId}{i:TypeInfo}{m:Method}{f:FuncId}{pr:Bool}{name:String}{v r:Value}{w:World}{n:Nat}(hi:P.info? t=some i)(hm:i.methods.find? (·.name==name)=some m)(hp:m.path=#[])(hf:m.func=some (f,pr))
  (hr : (receiverAt t (.val v) pr (some ((name.splitOn ".").getLastD name))).run P w = .ok r w) : (method (n + 1) t v name).run P w = .ok (f, r) w := by
 have h1:(typeInfo t).run P w=.ok i w:=by
  unfold typeInfo
  simp only[Sem.run_bind]
  rw[show Sem.run P program w=.ok P w from rfl]
  simp[hi]
 simp only[method,Sem.run_bind,h1,Result.andThen_ok,hm,hp,hf]
 simp[follow] at hr ⊢
 rw[hr];rfl
theorem zzK{t e:TypeId}(ht:P.underlying t=some (.pointer e)){v:Value}{o:Option String}{w:World}:(receiverAt t (.val v) true o).run P w=.ok v w:=by
 unfold receiverAt
 simp only[Sem.run_bind]
 rw[show(underlying t).run P w=.ok (.pointer e) w from by
  unfold underlying
  simp only[Sem.run_bind]
  rw[show Sem.run P program w=.ok P w from rfl]
  simp[ht]]
 simp[Place.get]
theorem zDX{t e:TypeId}{d:TypeDesc}(ht:P.underlying t=some (.pointer e))(hd:P.underlying e=some d)(ha:zda P e=false){a:Addr}{v:Value}{o:Option String}{w:World}(hc:cell w (some a) 0=some v):(receiverAt t (.val (.pointer (some a))) false o).run P w=.ok v w:=by
 have hc':w.cell? a=some v:=by simpa[cell,add_zero] using hc
 unfold receiverAt
 simp only[Sem.run_bind]
 rw[show(underlying t).run P w=.ok (.pointer e) w from run_underlying ht w]
 cases o with
 |none => simp[Place.get,loadVar,zeo hd,ha,hc',asAddr]
 |some name =>
  have e : Builtin.ssaWrapNilChk_ #[t] t #[.pointer (some a), strVal "", strVal name] = pure (.pointer (some a)) := rfl
  simp[Place.get,e,loadVar,zeo hd,ha,hc',asAddr]
theorem zfH{t:TypeId}{d:TypeDesc}(ht:P.underlying t=some d)(hn:∀m,d≠.interface m){v:Value}{w:World}{K:Value->World->Prop}(h:K (.iface t v) w):Run P (.makeInterface t v) w K:=by
 refine⟨.iface t v,w,?_,h⟩
 simp only[MC.sem,Instr.makeInterface,Sem.run_bind,run_underlying ht,Result.andThen_ok]
 cases d<;>first|rfl|exact absurd rfl (hn _)
theorem zr7{t x:TypeId}{d:TypeDesc}(ht:P.underlying t=some d)(hn:∀m,d≠.interface m){v:Value}{w:World}{K:Value->World->Prop}(h:K v w):Run P (.typeAssert (.iface t v) x t false) w K:=by
 refine⟨v,w,?_,h⟩
 simp only[MC.sem,Instr.typeAssert,Sem.run_bind,run_underlying ht,Result.andThen_ok]
 cases d<;>first|simp|exact absurd rfl (hn _)
theorem zp0{t ty e:TypeId}{s b:Nat}{z:Value}(he:zfW P t=some (e,s,b,z))(hs:0<s){B:Nat}{w:World}{p:Option Addr}{n c:Nat}{xs:List Value}{v:Value}{ns:List Nat}
  {K:Option Addr->Nat->Nat->World->Prop} (ho:Own B w e s p n c xs) (hB:B<=w.heap.size) (hns:∀b∈ns,∀x,p=some x->x.block≠b) (hv:v.cells.size=s) (h1:∀u∈v.cells.toList,u.oneCell'=true) (hb:(n+1)*b<=140737488355328) (hs24:s<=16777216) (hm:n+1<=9223372036854775807)
  (hk:∀p' c' w',Own B w' e s p' (n+1) c' (xs++v.cells.toList)->zco w w' p p'->p'≠none->(∀b∈ns,∀x,p'=some x->x.block≠b)->K p' (n+1) c' w') :
  ∀w1,zag [] ns w w1->Run P (.buildSlice t 1 [(0,v)]) w1 fun v2 w2=>Ext w1 w2/\∃q:Option Addr,∃m:Nat,∃d:Nat,v2=.slice q m d/\∀w3,zag [] ns w2 w3 ->
   Run P (.append #[t,t] ty [.slice p n c,.slice q m d]) w3 fun v4 w4=>zbK ns w3 w4/\∃q':Option Addr,∃m':Nat,∃d':Nat,v4=.slice q' m' d'/\K q' m' d' w4:=by
 intro w1 x1
 have e1:=zaa x1
 refine zcG he [v] rfl rfl (fun u hu=>by simp at hu;subst hu;exact hv) (by omega) (by omega) fun w2 o2 e2=>⟨e2,_,_,_,rfl,fun w3 x3=>?_⟩
 have e3:=zaa x3
 have o2:=(o2 w1.heap.size (Nat.le_refl _)).ext e3
 have ho':=((ho.ext e1).ext e2).ext e3
 have hsz:B<=w3.heap.size:=Nat.le_trans hB (Nat.le_trans e1.size (Nat.le_trans e2.size e3.size))
 refine zkR he hs ho' hsz (by simp) (news:=v.cells.toList) (by simp[hv]) (by simpa using o2.cells) h1 hb hm fun p' c' w4 h2 h3 h4=>⟨fun b hb=>?_,_,_,_,rfl,hk p' c' w4 h2 ?_ ?_ ?_⟩
 ·refine h3.by_.block b (x3.lt b hb) fun he=>?_
  cases p with
  |none => cases he
  |some y => simp[blk] at he;exact hns b hb y rfl he.symm
 ·exact zco.of_ext e1 (zco.of_ext e2 (zco.of_ext e3 h3))
 ·intro hn;have:=h4.1 hn;omega
 ·intro b hb y hy heq
  rcases h3.new with hn|hn
  ·subst hy
   cases p with
   |none => simp[blk] at hn
   |some z' => simp[blk] at hn;exact hns b hb z' rfl (by omega)
  ·have:=hn y hy
   have:=x3.lt b hb
   omega
end Go.Sx
namespace Go.Proofs.YtcceeahmcecbnaaGreatDoor
open Go.Sx Go.RowKit
theorem i64{x:Int}(h:-9223372036854775808<=x/\x<=9223372036854775807):InR .i64 x:=h
theorem zLg{x:Int}(h:InR .i64 x):-9223372036854775808<=x/\x<=9223372036854775807:=h
theorem wrap64{x:Int}(h:-9223372036854775808<=x/\x<=9223372036854775807):IntKind.wrap .i64 x=x:=by
 simp[IntKind.wrap,IntKind.signed,IntKind.bits];omega
def ofL(l:List UInt8):ByteArray:=⟨l.toArray⟩
theorem zcn(l:List UInt8):(ofL l).data.toList=l:=rfl
theorem zas(l:List UInt8):(ofL l).size=l.length:=rfl
theorem zcb(s:ByteArray):ofL s.data.toList=s:=by cases s;rfl
theorem zgW(a b:ByteArray):(a++b).data.toList=a.data.toList++b.data.toList:=by simp
theorem zxv(a b:List UInt8):ofL a++ofL b=ofL (a++b):=by
 rw[<-zcb (ofL a++ofL b),zgW];rfl
theorem zmR{a b:List UInt8}(h:ofL a=ofL b):a=b:=by
 have:=congrArg (fun s:ByteArray=>s.data.toList) h
 exact this
theorem zse{n:Nat}(h:n<256):(UInt8.ofNat n).toNat=n:=by simp;omega
theorem zc2:∀(u:Nat),∀c∈Lib.decDigits u,48<=c.toNat/\c.toNat<=57:=by
 intro u
 induction u using Nat.strongRecOn with
 |_ u ih =>
  intro c hc
  rw[Lib.decDigits] at hc
  split at hc
  ·obtain rfl:=List.mem_singleton.1 hc
   rw[zse (by omega)];omega
  ·rcases List.mem_append.1 hc with h|h
   ·exact ih (u/10) (by omega) c h
   ·obtain rfl:=List.mem_singleton.1 h
    rw[zse (by omega)];omega
theorem zpb(u:Nat):Lib.decDigits u≠[]:=by
 rw[Lib.decDigits];split<;>simp
theorem zna{M:Nat}:∀{l:List UInt8}{acc v:Nat}(r:List UInt8),Lib.parseUintM M acc l=.ok v->Lib.parseUintM M acc (l++r)=Lib.parseUintM M v r
 |[],acc,v,r,h => by
  simp only[Lib.parseUintM,Lib.NumEnd.ok.injEq] at h
  subst h;rfl
 |c::l,acc,v,r,h => by
  simp only[Lib.parseUintM,List.cons_append] at h ⊢
  split at h
  ·rename_i hd
   rw[if_pos hd]
   split at h
   ·cases h
   ·rename_i h2
    rw[if_neg h2]
    split at h
    ·cases h
    ·rename_i h3
     rw[if_neg h3]
     exact zna r h
  ·cases h
theorem zvB:∀(u:Nat),u<=1099511627776->Lib.parseUintM 18446744073709551615 0 (Lib.decDigits u)=.ok u:=by
 intro u
 induction u using Nat.strongRecOn with
 |_ u ih =>
  intro hu
  rw[Lib.decDigits]
  split
  ·rename_i h
   simp only[Lib.parseUintM]
   rw[zse (by omega),if_pos (by omega),if_neg (by omega),if_neg (by omega)]
   congr 1;omega
  ·rename_i h
   rw[zna _ (ih (u/10) (by omega) (by omega))]
   simp only[Lib.parseUintM]
   rw[zse (by omega),if_pos (by omega),if_neg (by omega),if_neg (by omega)]
   congr 1;omega
theorem zdU{n:Int}(h:0<=n):Lib.itoa n=Lib.decDigits n.toNat:=by
 unfold Lib.itoa;rw[if_neg (by omega)]
theorem zen{n:Int}(h:0<=n/\n<=1099511627776):Lib.parseIntB 64 (Lib.itoa n)=.ok n:=by
 rw[zdU h.1]
 have hd:=zc2 n.toNat
 cases hl:Lib.decDigits n.toNat with
 |nil => exact absurd hl (zpb _)
 |cons c r =>
  have hc:=hd c (by rw[hl];exact List.mem_cons_self ..)
  rw[Lib.parseIntB_plain 64 c r (by omega) (by omega),<-hl]
  unfold Lib.parseUintB
  rw[if_neg (zpb _),show(2:Nat)^64-1=18446744073709551615 by decide,zvB _ (by omega)]
  show(if (2:Nat)^(64-1)<=n.toNat then _ else _)=_
  rw[if_neg (by
   have:(2:Nat)^(64-1)=9223372036854775808:=by decide
   omega)]
  congr 1;omega
theorem zi5{n:Int}(h:0<=n){c:UInt8}(hc:c.toNat<48):c∉Lib.itoa n:=fun hm=>by
 rw[zdU h] at hm
 have:=zc2 _ _ hm
 omega
theorem zzm{n:Int}(h:0<=n){c:UInt8}(hc:57<c.toNat):c∉Lib.itoa n:=fun hm=>by
 rw[zdU h] at hm
 have:=zc2 _ _ hm
 omega
theorem zsG{c:UInt8}:∀{a:List UInt8}(b:List UInt8),c∉a->Lib.index (a++c::b) [c]=a.length
 |[],b,_ => by rw[Lib.index_one];simp[Lib.indexByte]
 |x::a,b,h => by
  have hx:¬x=c:=fun he=>h (by rw[he];exact List.mem_cons_self ..)
  have:=zsG (a:=a) b fun hm=>h (List.mem_cons_of_mem _ hm)
  rw[Lib.index_one] at this ⊢
  simp only[List.cons_append,Lib.indexByte,this,beq_iff_eq,hx,if_false]
  rw[if_neg (by omega)]
  simp
theorem zsH{c:UInt8}:∀{a:List UInt8},c∉a->Lib.index a [c]=-1
 |[],_ => rfl
 |x::a,h => by
  have hx:¬x=c:=fun he=>h (by rw[he];exact List.mem_cons_self ..)
  have:=zsH (a:=a) fun hm=>h (List.mem_cons_of_mem _ hm)
  rw[Lib.index_one] at this ⊢
  simp only[Lib.indexByte,this,beq_iff_eq,hx,if_false,if_true]
def one(c:UInt8):ByteArray:=⟨#[c]⟩
theorem zCI{c:UInt8}(a b:List UInt8):(ofL (a++c::b)).extract 0 (a.length+0)=ofL a:=by
 rw[<-zcb ((ofL (a++c::b)).extract 0 (a.length+0))]
 congr 1
 simp[ofL]
theorem zzf{c:UInt8}(a b:List UInt8):(ofL (a++c::b)).extract (a.length+(one c).size) (ofL (a++c::b)).size=ofL b:=by
 rw[<-zcb ((ofL (a++c::b)).extract _ _)]
 congr 1
 have hd:(one c).size=1:=rfl
 rw[hd,zas]
 simp[ofL]
 exact List.take_of_length_le (by omega)
theorem zEh{c:UInt8}{a b:List UInt8}(h:c∉a)(k:Nat):Lib.splitB (one c) 0 (k+1) (ofL (a++c::b))=ofL a::Lib.splitB (one c) 0 k (ofL b):=by
 rw[Lib.splitB_hit (one c) 0 k _ a.length (zsG b h),zCI,zzf]
theorem zCp{c:UInt8}{a b:List UInt8}(h:c∉a):Lib.countB (ofL (a++c::b)) (one c)=1+Lib.countB (ofL b) (one c):=by
 rw[Lib.countB_hit (ofL (a++c::b)) (one c) a.length (Nat.le_refl 1) (zsG b h),zzf]
theorem zAx{c:UInt8}{a:List UInt8}(h:c∉a):Lib.countB (ofL a) (one c)=0:=Lib.countB_miss _ _ (zsH h)
theorem zwX{c:UInt8}{a:List UInt8}(b:List UInt8)(h:c∉a):Lib.cut (a++c::b) [c]=(a,b,true):=by
 unfold Lib.cut
 rw[zsG b h,if_pos (by omega)]
 simp
theorem zdz{c:UInt8}:∀(l:List (List UInt8)) (x:List UInt8),(∀y∈x::l,c∉y)->Lib.countB (ofL (Lib.join (x::l) [c])) (one c)=l.length/\Lib.splitB (one c) 0 l.length (ofL (Lib.join (x::l) [c]))=(x::l).map ofL
 |[],x,h => by
  rw[Lib.join_one]
  exact⟨zAx (h x (List.mem_cons_self ..)),rfl⟩
 |y::l,x,h => by
  obtain⟨h1,h2⟩:=zdz l y fun z hz=>h z (List.mem_cons_of_mem _ hz)
  have e:Lib.join (x::y::l) [c]=x++c::Lib.join (y::l) [c]:=by
   rw[Lib.join_cons,Lib.join_cons]
   simp[Lib.joinTail]
  rw[e]
  have hx:=h x (List.mem_cons_self ..)
  refine⟨by rw[zCp hx,h1,List.length_cons];omega,?_⟩
  rw[List.length_cons,zEh hx,h2]
  rfl
theorem zcA{c:UInt8}:∀(k:Nat)(s:ByteArray)(i:Nat)(p:ByteArray),(Lib.splitB (one c) 0 k s)[i]?=some p->p.size+i<=s.size
 |0,s,i,p,h => by
  rw[Lib.splitB_zero] at h
  cases i with
  |zero => simp at h;subst h;omega
  |succ i => simp at h
 |k+1,s,i,p,h => by
  rcases Lib.indexB_cases s (one c) with hm|⟨j,hj,hle⟩
  ·rw[Lib.splitB_miss (one c) 0 _ s hm] at h
   cases i with
   |zero => simp at h;subst h;omega
   |succ i => simp at h
  ·have hd:(one c).size=1:=rfl
   rw[Lib.splitB_hit (one c) 0 k s j hj] at h
   cases i with
   |zero =>
    simp only[List.getElem?_cons_zero,Option.some.injEq] at h
    subst h
    rw[ByteArray.size_extract];omega
   |succ i =>
    simp only[List.getElem?_cons_succ] at h
    have:=zcA k _ i p h
    rw[ByteArray.size_extract] at this
    omega
theorem zhF(s:List UInt8)(c:UInt8):(Lib.cut s [c]).2.1.length<=s.length:=by
 unfold Lib.cut
 split
 ·simp only[List.length_drop];omega
 ·simp
def isErr(v:Value):Prop:=v=.nilIface\/∃te pe,v=.iface te pe
structure GB(w:World):Prop where
 pow : Lib.TabIs Tryz.prog w "internal/strconv.uint64pow10" .u64 Lib.pow10Tab
 maxLen:∃m,cell w (some (⟨5,0,none⟩:Addr)) 0=some (.int .i64 m)
 eSyn:∃v,cell w (some (⟨2,0,none⟩:Addr)) 0=some v/\isErr v
 eRan:∃v,cell w (some (⟨3,0,none⟩:Addr)) 0=some v/\isErr v
theorem zEt{P:Program}{w w':World}{name:String}{k:IntKind}{zs:List Int}(h:Lib.TabIs P w name k zs)(e:Ext w w'):Lib.TabIs P w' name k zs:=by
 unfold Lib.TabIs World.var? at *
 cases hg:P.globalNamed name with
 |none => simp[hg] at h
 |some g =>
  simp only[hg,Option.bind_some] at h ⊢
  have hlt:g<w.heap.size:=by
   rcases Nat.lt_or_ge g w.heap.size with h'|h'
   ·exact h'
   ·rw[Array.getElem?_eq_none h'] at h;simp at h
  rw[e.block g hlt];exact h
theorem GB.ext{w w':World}(g:GB w)(e:Ext w w'):GB w' :=
 ⟨zEt g.pow e,by obtain⟨m,h⟩:=g.maxLen;exact⟨m,zaz e h⟩,by obtain⟨v,h,k⟩:=g.eSyn;exact⟨v,zaz e h,k⟩,by obtain⟨v,h,k⟩:=g.eRan;exact⟨v,zaz e h,k⟩⟩
theorem zwU{w:World}{b:Nat}{v:Value}(h:cell w (some (⟨b,0,none⟩:Addr)) 0=some v):w.cell? ⟨b,0,none⟩=some v:=by simpa[cell,add_zero] using h
theorem zmw{w:World}{k:Nat}{os:Array Obj}:Ext w (Go.Sort.grow (w.drewN k) os) :=
 ⟨rfl,rfl,rfl,by simp[Go.Sort.grow],fun b hb=>Go.Sort.heap_grow_old (w.drewN k) os hb⟩
theorem zFR{w:World}{n:Nat}:Ext w (w.drewN n):=⟨rfl,rfl,rfl,Nat.le_refl _,fun _ _=>rfl⟩
theorem zoW(n:Int)(h:-9223372036854775808<=n/\n<=9223372036854775807)(w:World)(g:GB w):FnP Tryz.prog zbz #[.int .i64 n,.int .i64 10] w fun v w'=>Ext w w'/\v=.string (ofL (Lib.itoa n)) :=
 ⟨fun args w=>Tryz.call90 args w,(Tryz.strconv_FormatInt_10 n h.1 h.2 w g.pow).mono fun e w' ⟨he,k,os,hw⟩=>⟨_,he,by rw[hw];exact zmw,rfl⟩⟩
theorem zjA(s:ByteArray)(hs:s.size<=281474976710656)(w:World)(g:GB w):FnP Tryz.prog zbP #[.string s,.int .i64 10,.int .i64 64] w fun v w'=>Ext w w'/\∃(n:Int) (ev:Value),v=.tuple #[.int .i64 n,ev] /\
  ((ev=.nilIface/\Lib.parseIntB 64 s.data.toList=.ok n)\/((∃a b,ev=.iface a b)/\∀m,Lib.parseIntB 64 s.data.toList≠.ok m)):=by
 have en:znF Tryz.prog zbP:=fun args w=>Tryz.call94 args w
 cases hp:Lib.parseIntB 64 s.data.toList with
 |ok v =>
  refine⟨en,(Tryz.strconv_ParseInt_10_at64_ok s (by omega) v hp w).mono fun e w' ⟨he,hw⟩=>⟨_,he,?_,v,.nilIface,rfl,.inl ⟨rfl,rfl⟩⟩⟩
  rcases hw with rfl|⟨t,rfl⟩
  ·exact Ext.refl _
  ·exact Lib.bytesWorld_below w 5 t
 |range =>
  obtain⟨ev,h1,h2⟩:=g.eRan
  exact⟨en,(Tryz.strconv_ParseInt_10_at64_range s hs hp ev w (zwU h1) h2).mono fun e w' ⟨N,he,_,_,hb⟩=>⟨_,he,hb,_,_,rfl,.inr ⟨⟨_,_,rfl⟩,fun m h=>by cases h⟩⟩⟩
 |_ =>
  obtain⟨ev,h1,h2⟩:=g.eSyn
  exact⟨en,(Tryz.strconv_ParseInt_10_at64_syntax s hs hp ev w (zwU h1) h2).mono fun e w' ⟨N,he,_,_,hb⟩=>⟨_,he,hb,_,_,rfl,.inr ⟨⟨_,_,rfl⟩,fun m h=>by cases h⟩⟩⟩
theorem zvC{l:List UInt8}{n:Int}(h:Lib.parseIntB 64 l=.ok n)(hn:0<n):n<=9223372036854775807:=by
 unfold Lib.parseIntB at h
 split at h
 ·cases h
 ·simp only at h
  split at h
  ·cases h
  ·cases h
  ·rename_i u _
   split at h
   ·cases h
   ·rename_i h1
    split at h
    ·cases h
    ·injection h with h
     split at h
     ·omega
     ·rename_i h2
      have e:(2:Nat)^(64-1)=9223372036854775808:=by decide
      rw[e] at h1
      omega
theorem zkx{P:Program}(d:Nat){t:TypeId}{m:Array (String×TypeId)}(ht:P.underlying t=some (.interface m))(w:World):(Op.equalIn (d+1) t .nilIface .nilIface).run P w=.ok true w:=by
 simp only[Op.equalIn,Sem.run_bind,run_underlying ht,Result.andThen_ok,Sem.run_pure]
theorem zkw{P:Program}(d:Nat){t:TypeId}{m:Array (String×TypeId)}(ht:P.underlying t=some (.interface m))(a:TypeId)(b:Value)(w:World):(Op.equalIn (d+1) t (.iface a b) .nilIface).run P w=.ok false w:=by
 simp only[Op.equalIn,Sem.run_bind,run_underlying ht,Result.andThen_ok,Sem.run_pure]
theorem ne_nil{P:Program}{t:TypeId}{m:Array (String×TypeId)}(ht:P.underlying t=some (.interface m)){v:Value}(hv:isErr v){cx:Bool}{w:World}{K:Value->World->Prop}(hk:∀b:Bool,(b=false↔v=.nilIface)->K (.bool b) w):Run P (.eq .neq t cx true v .nilIface) w K:=by
 have hb:∀x:Value,∀r:Bool,(Op.equal t x .nilIface).run P w=.ok r w->(eqGuard .neq t (opd cx) (opd true) x .nilIface).run P w=.ok () w->binOp .neq t x .nilIface=(do pure (.bool (!(<-Op.equal t x .nilIface))))->(MC.sem (.eq .neq t cx true x .nilIface)).run P w=.ok (.bool (!r)) w:=fun x r h1 h2 h3=>by
  show(do eqGuard .neq t (opd cx) (opd true) x .nilIface;binOp .neq t x .nilIface:Sem Value).run P w=_
  rw[Sem.run_bind,h2,Result.andThen_ok,h3,Sem.run_bind,h1,Result.andThen_ok,Sem.run_pure]
 rcases hv with rfl|⟨a,b,rfl⟩
 ·exact⟨_,w,hb _ true (zkx 9999 ht w) (by cases cx<;>rfl) rfl,hk false (by simp)⟩
 ·exact⟨_,w,hb _ false (zkw 9999 ht a b w) (by cases cx<;>rfl) rfl,hk true (by simp)⟩
def zuN(P:Program)(t:TypeId):Bool:=match P.underlying t with|some (.interface _)=>true|_=>false
theorem zi8{P:Program}{t:TypeId}(ht:zuN P t=true){v:Value}(hv:isErr v){cx:Bool}{w:World}{K:Value->World->Prop}(hk:∀b:Bool,(b=false↔v=.nilIface)->K (.bool b) w):Run P (.eq .neq t cx true v .nilIface) w K:=by
 unfold zuN at ht
 split at ht
 ·rename_i m h;exact ne_nil h hv hk
 ·cases ht
theorem zeX(c:UInt8)(s:ByteArray)(hs:s.size<4294967281)(w:World)(g:GB w):FnP Tryz.prog zbj #[.string s,.string (one c)] w fun v w'=>Ext w w'/\v=.slice (some ⟨w.heap.size,0,none⟩) (Lib.countB s (one c)+1) (Lib.countB s (one c)+1) /\
  zau w' (some ⟨w.heap.size,0,none⟩) ((Lib.splitB (one c) 0 (Lib.countB s (one c)) s).map Value.string)/\w.heap.size<w'.heap.size:=by
 obtain⟨m,hm⟩:=g.maxLen
 refine⟨fun args w=>Tryz.call92 args w,(Tryz.strings_Split s (one c) m w hs (zwU hm) (Nat.le_refl 1)).mono fun e w' ⟨he,hw⟩=>⟨_,he,?_,rfl,fun i p hp=>?_,?_⟩⟩
 ·rw[hw];exact Below.alloc (Below.refl _ _) (Nat.le_refl _) _
 ·rw[hw]
  show World.cell? _ _=_
  have:(Addr.add ⟨w.heap.size,0,none⟩ i)=⟨w.heap.size,i,none⟩:=by simp[Addr.add];intro h;exact h.symm
  rw[this]
  rw[World.cell?_alloc_mark]
  simpa using hp
 ·rw[hw];show w.heap.size<(w.heap.push _).size;rw[Array.size_push];omega
theorem zwA(c:UInt8)(s:ByteArray)(hs:s.size<4294967281)(w:World)(g:GB w):FnP Tryz.prog zdM #[.string s,.string (one c)] w fun v w'=>Ext w w'/\v=.tuple #[.string (ofL (Lib.cut s.data.toList [c]).1),.string (ofL (Lib.cut s.data.toList [c]).2.1),.bool (Lib.cut s.data.toList [c]).2.2]:=by
 obtain⟨m,hm⟩:=g.maxLen
 exact⟨fun args w=>Tryz.call149 args w,(Tryz.strings_Cut s (one c) m w hs (zwU hm)).mono fun e w' ⟨he,n,hw⟩=>⟨_,he,by rw[hw];exact zFR,rfl⟩⟩
theorem zBD(L:List (List UInt8))(c:UInt8)(q:Option Addr)(m d B:Nat)(e:TypeId)(w:World)(o:Own B w e 1 q m d (L.map fun l=>Value.string (ofL l)))(hne:L≠[])(hlen:(Lib.join L [c]).length<=140737488355327) :
  FnP Tryz.prog zbd #[.slice q m d,.string (one c)] w fun v w'=>Ext w w'/\v=.string (ofL (Lib.join L [c])):=by
 have hm:=o.leni
 have hmd:=o.le
 have hcl:=o.cells
 have hlt:=o.lt
 obtain⟨b,rfl⟩:∃b,q=some ⟨b,0,none⟩:=by
  rcases o.2 with⟨h,_⟩|⟨g,cap,cur,hv,_⟩
  ·have:L=[]:=by
    simp at h
    have:L.length=0:=by omega
    exact List.eq_nil_of_length_eq_zero this
   exact absurd this hne
  ·injection hv with h1
   exact⟨g,h1⟩
 have hl:L.length<=140737488355328:=by
  have key:∀(L:List (List UInt8)) (x:List UInt8),L.length<=(Lib.join (x::L) [c]).length:=by
   intro L x
   rw[Lib.join_cons,List.length_append,Lib.joinTail_length,show([c]:List UInt8).length=1 from rfl];omega
  cases L with
  |nil => exact absurd rfl hne
  |cons x L =>
   have:=key L x
   rw[List.length_cons];omega
 have e1:(L.map ofL).map (·.data.toList)=L:=by
  rw[List.map_map]
  simp[Function.comp_def,ofL]
 have key:=Tryz.strings_Join b 0 d (L.map ofL) (one c) w (fun j x hx=>by
  rw[List.getElem?_map,Option.map_eq_some_iff] at hx
  obtain⟨l,hl,rfl⟩:=hx
  have:=hcl j (.string (ofL l)) (by rw[List.getElem?_map,hl];rfl)
  simp only[cell,Option.bind_some] at this
  have ha:(Addr.add ⟨b,0,none⟩ j)=⟨b,0+j,none⟩:=by simp[Addr.add];intro h;exact h.symm
  rwa [ha] at this) (hlt _ rfl).2 (by simpa using hl) (by rw[List.length_map,hm];exact hmd.1) (by rw[e1];show(Lib.join L [c]).length<=_;omega)
 rw[List.length_map,hm,e1] at key
 exact⟨fun args w=>Tryz.call173 args w,key.mono fun e w' ⟨he,hw⟩=>⟨_,he,hw,rfl⟩⟩
structure Nd where
 c:Int
 m:Int
 g:Int
deriving DecidableEq,Inhabited
abbrev zww(x:Nd):List Value:=[.int .i64 x.c,.int .i64 x.m,.int .i64 x.g]
abbrev nv(x:Nd):Value:=.agg #[.int .i64 x.c,.int .i64 x.m,.int .i64 x.g]
def okN(x:Nd):Prop:=(0<=x.c/\x.c<=1099511627776)/\(0<=x.m/\x.m<=1099511627776)/\(0<=x.g/\x.g<=1099511627776)
instance (x:Nd):Decidable (okN x):=by unfold okN;infer_instance
def zj4(a b:Nd):Prop:=a.c<=b.c/\a.m<=b.m/\a.g<=b.g
instance (a b:Nd):Decidable (zj4 a b):=by unfold zj4;infer_instance
def zwu(a b:Nd):Nd:=⟨a.c+b.c,a.m+b.m,a.g+b.g⟩
def zit(a b:Nd):Nd:=⟨a.c-b.c,a.m-b.m,a.g-b.g⟩
def za6:Nd:=⟨0,0,0⟩
def zzd(x:Nd):Int:=if okN x then 0 else 4
theorem zba{x:Nd}:zzd x=0↔okN x:=by unfold zzd;split<;>simp_all
theorem zmE{x:Nd}(h:¬okN x):zzd x=4:=if_neg h
theorem zKj{a b:Nd}:a=b↔[a.c,a.m,a.g]=[b.c,b.m,b.g]:=by cases a;cases b;simp
def zcg(x:Nd)(i:Nat):Int:=match i with|0=>x.c|1=>x.m|_=>x.g
theorem zpH{x:Nd}:okN x↔∀i,i<3->0<=zcg x i/\zcg x i<=1099511627776:=by
 constructor
 ·rintro⟨h1,h2,h3⟩ i hi
  match i,hi with
  |0,_ => exact h1
  |1,_ => exact h2
  |2,_ => exact h3
 ·intro h
  exact⟨h 0 (by omega),h 1 (by omega),h 2 (by omega)⟩
theorem eqN_k{a b:Nd}{w:World}{K:Value->World->Prop}(hk:K (.bool (decide (a=b))) w):Run Tryz.prog (.eq .eql zim false false (nv a) (nv b)) w K :=
 zKB (n:=3) (k:=.i64) (by kernel_rfl) (by kernel_rfl) (by kernel_rfl) (by kernel_rfl) [a.c,a.m,a.g] [b.c,b.m,b.g] rfl rfl (by
  have:decide (a=b)=decide ([a.c,a.m,a.g]=[b.c,b.m,b.g]):=decide_eq_decide.2 zKj
  rwa [this] at hk)
def pn(i:Nat):ByteArray:=match i with|0=>⟨#[99,112,117]⟩|1=>⟨#[109,101,109]⟩|_=>⟨#[103,112,117]⟩
abbrev zvF(a:Option Addr):List Value:=[.string (pn 0),.pointer (pAdd a 0),.string (pn 1),.pointer (pAdd a 1),.string (pn 2),.pointer (pAdd a 2)]
theorem ztl{w:World}{q a:Option Addr}(h:zau w q (zvF a)){k:Int}(h0:0<=k)(h1:k<3):Go.Sx.cell w (pIdx q k 2) 0=some (.string (pn k.toNat))/\Go.Sx.cell w (pIdx q k 2) 1=some (.pointer (pAdd a k.toNat)):=by
 have hk:k=0\/k=1\/k=2:=by omega
 rcases hk with rfl|rfl|rfl
 ·exact⟨by rw[zae];exact h 0 _ rfl,by rw[zae];exact h 1 _ rfl⟩
 ·exact⟨by rw[zae];exact h 2 _ rfl,by rw[zae];exact h 3 _ rfl⟩
 ·exact⟨by rw[zae];exact h 4 _ rfl,by rw[zae];exact h 5 _ rfl⟩
theorem ztm(a:Option Addr)(ha:a≠none)(w:World):FnP Tryz.prog zeC #[.pointer a] w fun v w'=>Ext w w'/\∃q,v=.slice q 3 3/\zau w' q (zvF a)/\∀x,q=some x->w.heap.size<=x.block:=by
 refine ztf a w _ ⟨ha,ha,ha,ha,ha,ha,fun w0 h0=>?_⟩
 refine zcG zmC [_,_,_] rfl rfl (by intro v hv;simp at hv;rcases hv with rfl|rfl|rfl<;>rfl) (by omega) (by omega) fun w1 o1 e1=>⟨e1,_,_,_,rfl,fun w5 h5=>⟨(h0.trans e1).trans h5,_,rfl,?_,fun x hx=>?_⟩⟩
 ·have o5:=((o1 0 (Nat.zero_le _)).ext h5).cells
  exact o5
 ·obtain rfl:=Option.some.inj hx
  exact h0.size
abbrev zBF(w:World)(p:Option Addr)(x:Nd):Prop:=zau w p (zww x)
theorem nd_at{w:World}{p:Option Addr}{x:Nd}(h:zBF w p x){i:Nat}(hi:i<3):Go.Sx.cell w (pAdd p i) 0=some (.int .i64 (zcg x i)):=by
 rw[zak,Nat.add_zero]
 match i,hi with
 |0,_ => exact h 0 _ rfl
 |1,_ => exact h 1 _ rfl
 |2,_ => exact h 2 _ rfl
theorem zex(x:Nd)(w:World):FnP Tryz.prog zbh #[nv x] w fun v w'=>Ext w w'/\v=.int .i64 (zzd x):=by
 refine zte x.c x.m x.g w _ fun w0 h0=>?_
 refine zbp (by simp[Value.oneCell']) fun w1 o1 e1=>fun w2 h2=>?_
 have c1:zBF w1 (some ⟨w0.heap.size,0,none⟩) x:=(o1 0 (Nat.zero_le _)).cells
 have n1:(some (⟨w0.heap.size,0,none⟩:Addr))≠none:=by simp
 generalize (some (⟨w0.heap.size,0,none⟩:Addr))=p1 at c1 n1 ⊢
 refine(ztm p1 n1 w2).mono fun v w3 ⟨e3,q,hv,hq,_⟩=>⟨e3,q,3,3,hv,?_⟩
 have c3:=(c1.ext h2).ext e3
 have x3:=((h0.trans e1).trans h2).trans e3
 refine⟨fun k w'=>w'=w3/\0<=k/\k<=3/\∀i:Nat,(i:Int)<k->0<=zcg x i/\zcg x i<=1099511627776,fun k _=>(3-k).toNat,⟨rfl,by omega,by omega,fun i hi=>by omega⟩,?_⟩
 rintro k w3 ⟨rfl,hk0,hk1,hall⟩
 refine⟨fun hlt=>?_,fun hge w10 h10=>⟨x3.trans h10,?_⟩⟩
 ·obtain⟨d1,d2⟩:=ztl hq hk0 hlt
  have ci:=nd_at c3 (i:=k.toNat) (by omega)
  have hne:pAdd p1 k.toNat≠none:=fun h=>n1 (zdk.1 h)
  have bad:¬(0<=zcg x k.toNat/\zcg x k.toNat<=1099511627776)->zzd x=4:=fun h=>zmE fun ho=>h (zpH.1 ho _ (by omega))
  refine⟨fun hq=>zaj d1 (zah.2 hq),hk0,hlt,zaj d1,_,d1,_,d2,fun b12 _=>⟨hne,_,ci,fun _=>hne,fun hn w14 h14=>⟨x3.trans h14,by rw[bad (by omega)]⟩,fun hp=>⟨_,ci,fun hb w15 h15=>⟨x3.trans h15,by rw[bad (by omega)]⟩,fun hl=>⟨i64 (by omega),⟨rfl,by omega,by omega,fun i hi=>?_⟩,by simp only[];omega⟩⟩⟩⟩
  by_cases hik:(i:Int)<k
  ·exact hall i hik
  ·obtain rfl:i=k.toNat:=by omega
   omega
 ·rw[zba.2 (zpH.2 fun i hi=>hall i (by omega))]
def rng(x:Nd):Prop:=∀i,i<3->-9223372036854775808<=zcg x i/\zcg x i<=9223372036854775807
theorem okN.rng{x:Nd}(h:okN x):rng x:=fun i hi=>by have:=zpH.1 h i hi;omega
def idx(x:Nd)(k:Nat):List Nat:=(List.range k).filter fun i=>decide (zcg x i≠0)
def zgE(x:Nd)(i:Nat):List UInt8:=(pn i).data.toList++61::Lib.itoa (zcg x i)
def pcs(x:Nd)(k:Nat):List (List UInt8):=(idx x k).map (zgE x)
def zbq(x:Nd):List UInt8:=if pcs x 3=[] then [45] else Lib.join (pcs x 3) [44]
theorem zGn(x:Nd)(k:Nat):idx x (k+1)=idx x k++if zcg x k≠0 then [k] else []:=by
 unfold idx
 rw[List.range_succ,List.filter_append]
 congr 1
 by_cases h:zcg x k=0<;>simp[h]
theorem ztn(x:Nd)(k:Nat):pcs x (k+1)=pcs x k++if zcg x k≠0 then [zgE x k] else []:=by
 unfold pcs
 rw[zGn,List.map_append]
 congr 1
 split<;>rfl
theorem zpr{x:Nd}{k i:Nat}(h:i∈idx x k):i<k/\zcg x i≠0:=by
 unfold idx at h
 rw[List.mem_filter,List.mem_range] at h
 exact⟨h.1,by simpa using h.2⟩
theorem zzH(i:Nat):(pn i).size=3:=by
 match i with
 |0 => rfl
 |1 => rfl
 |n+2 => rfl
theorem zDM{x:Nd}(hx:rng x){i:Nat}(hi:i<3):(zgE x i).length<=25:=by
 unfold zgE
 have:=Lib.itoa_length_le (zcg x i) (hx i hi).1 (hx i hi).2
 have h3:(pn i).data.toList.length=3:=zzH i
 rw[List.length_append,List.length_cons,h3];omega
theorem zhM{c:UInt8}{m:Nat}:∀(L:List (List UInt8)),(∀y∈L,y.length<=m)->(Lib.join L [c]).length<=L.length*(m+1)
 |[],_ => by simp[Lib.join_nil]
 |[x],h => by rw[Lib.join_one];have:=h x (List.mem_cons_self ..);simp;omega
 |x::y::L,h => by
  have ih:=zhM (c:=c) (y::L) fun z hz=>h z (List.mem_cons_of_mem _ hz)
  have hx:=h x (List.mem_cons_self ..)
  have e:Lib.join (x::y::L) [c]=x++c::Lib.join (y::L) [c]:=by
   rw[Lib.join_cons,Lib.join_cons]
   simp[Lib.joinTail]
  rw[e,List.length_append,List.length_cons,List.length_cons,Nat.add_mul]
  omega
theorem zC0(x:Nd)(k:Nat):(idx x k).length<=k:=by
 unfold idx
 have:=List.length_filter_le (fun i=>decide (zcg x i≠0)) (List.range k)
 rwa [List.length_range] at this
theorem zzo{x:Nd}(hx:rng x):(Lib.join (pcs x 3) [44]).length<=78:=by
 have h1:=zhM (c:=44) (m:=25) (pcs x 3) fun y hy=>by
  obtain⟨i,hi,rfl⟩:=List.mem_map.1 hy
  exact zDM hx (zpr hi).1
 have h2:(pcs x 3).length<=3:=by unfold pcs;rw[List.length_map];exact zC0 x 3
 omega
theorem zxu(x:Nd)(hx:rng x)(w:World)(g:GB w):FnP Tryz.prog zef #[nv x] w fun v w'=>Ext w w'/\v=.string (ofL (zbq x)):=by
 refine zvu x.c x.m x.g w _ fun w0 h0=>?_
 refine zbp (by simp[Value.oneCell']) fun w1 o1 e1=>fun w2 h2=>?_
 have c1:zBF w1 (some ⟨w0.heap.size,0,none⟩) x:=(o1 0 (Nat.zero_le _)).cells
 have n1:(some (⟨w0.heap.size,0,none⟩:Addr))≠none:=by simp
 have l1:∀a,(some (⟨w0.heap.size,0,none⟩:Addr))=some a->a.block<w1.heap.size:=c1.lt (by simp)
 generalize (some (⟨w0.heap.size,0,none⟩:Addr))=p1 at c1 n1 l1 ⊢
 refine(ztm p1 n1 w2).mono fun v w3 ⟨e3,q,hv,hq,hqb⟩=>⟨e3,q,3,3,hv,?_⟩
 have x3:=((h0.trans e1).trans h2).trans e3
 refine⟨fun out outl outc k w'=>Ext w w'/\0<=k/\k<=3/\zBF w' p1 x/\zau w' q (zvF p1)/\Own w.heap.size w' zay 1 out outl outc ((pcs x k.toNat).map fun l=>Value.string (ofL l))/\zbU p1 out/\zbU q out/\(out=none↔pcs x k.toNat=[]),fun _ _ _ k _=>(3-k).toNat,
  ⟨x3,by omega,by omega,(c1.ext h2).ext e3,hq,Own.nil,zbU.nil,zbU.nil,by simp[pcs,idx]⟩,?_⟩
 rintro out outl outc k w10 ⟨x10,hk0,hk3,c10,q10,o10,a1,a2,hout⟩
 refine⟨fun hlt=>?_,fun hge=>?_⟩
 ·obtain⟨d1,d2⟩:=ztl q10 hk0 hlt
  have ci:=nd_at c10 (i:=k.toNat) (by omega)
  have hne:pAdd p1 k.toNat≠none:=fun h=>n1 (zdk.1 h)
  have hr:=hx k.toNat (by omega)
  have hil:=Lib.itoa_length_le (zcg x k.toNat) hr.1 hr.2
  have hlen:(pcs x k.toNat).length<=3:=by unfold pcs;rw[List.length_map];have:=zC0 x k.toNat;omega
  have hol:=o10.leni
  have hps:(pn k.toNat).size=3:=zzH _
  refine⟨fun hq=>zaj d1 (zah.2 hq),hk0,hlt,zaj d1,_,d1,_,d2,fun b13 hb13=>⟨hne,_,ci,fun hnz=>?_,fun hz=>?_⟩⟩
  ·refine⟨by unfold zdl;rw[hps];decide,hne,_,ci,fun w16 h16=>?_⟩
   refine(zoW _ hr w16 ((g.ext x10).ext h16)).mono fun v w17 ⟨e17,hv⟩=>⟨e17,_,hv,?_,?_⟩
   ·unfold zdl
    rw[ByteArray.size_append,hps,zas]
    show 3+1+_<=_
    omega
   ·have hpc:(pn k.toNat++(⟨#[61]⟩:ByteArray))++ofL (Lib.itoa (zcg x k.toNat))=ofL (zgE x k.toNat):=by
     rw[<-zcb ((pn k.toNat++(⟨#[61]⟩:ByteArray))++ofL (Lib.itoa (zcg x k.toNat))),zgW,zgW]
     unfold zgE
     rw[zcn]
     simp
    rw[hpc]
    refine zp0 zbY (by omega) o10 x10.size (fun b hb y hy=>by simp at hb;subst hb;have:=(o10.lt y hy).2;omega) rfl (by intro u hu;simp[Value.cells] at hu;subst hu;rfl) (by omega) (by omega) (by omega) fun p' c' w' o' g' np _=>⟨i64 (by omega),⟨g'.ext x10 o10,by omega,by omega,c10.grew a1 g',q10.grew a2 g',?_,a1.grewC (c10.lt (by simp)) g',a2.grewC (q10.lt (by simp)) g',?_⟩,by simp only[];omega⟩
    ·rw[show(k+1).toNat=k.toNat+1 by omega,ztn,if_pos hnz,List.map_append]
     simpa[Value.cells] using o'
    ·rw[show(k+1).toNat=k.toNat+1 by omega,ztn,if_pos hnz]
     simp[np]
  ·have hp:pcs x (k+1).toNat=pcs x k.toNat:=by
    rw[show(k+1).toNat=k.toNat+1 by omega,ztn,if_neg (by simpa using hz),List.append_nil]
   exact⟨i64 (by omega),⟨x10,by omega,by omega,c10,q10,by rw[hp];exact o10,a1,a2,by rw[hp];exact hout⟩,by simp only[];omega⟩
 ·obtain rfl:k=3:=by omega
  have hout:out=none↔pcs x 3=[]:=hout
  have o10:Own w.heap.size w10 zay 1 out outl outc ((pcs x 3).map fun l=>Value.string (ofL l)):=o10
  refine⟨fun hn w11 h11=>⟨x10.trans h11,?_⟩,fun hn w11 h11=>?_⟩
  ·unfold zbq;rw[if_pos (hout.1 hn)];rfl
  ·have hpn:pcs x 3≠[]:=fun h=>hn (hout.2 h)
   refine(zBD (pcs x 3) 44 out outl outc w.heap.size zay w11 (o10.ext h11) hpn (by have:=zzo hx;omega)).mono fun v w12 ⟨e12,hv⟩=>⟨e12,_,hv,fun w14 h14=>⟨x10.trans h14,?_⟩⟩
   unfold zbq;rw[if_neg hpn]
theorem zDq(x:Nd)(w:World)(g:GB w):FnP Tryz.prog zhs #[nv x] w fun v w'=>Ext w w'/\∃(t:ByteArray) (e:Int),v=.tuple #[.string t,.int .i64 e]/\(e=0↔okN x)/\(e≠0->t=⟨#[]⟩)/\(e=0->t=ofL (zbq x)):=by
 refine zvs x.c x.m x.g w _ fun b0 _ w1 h1=>(zex x w1).mono fun v w2 ⟨e2,hv⟩=>⟨e2,_,hv,fun hne w4 h4=>⟨h4,_,_,rfl,zba,fun _=>rfl,fun h=>absurd h hne⟩,fun hz w4 h4=>?_⟩
 have ok:=zba.1 hz
 exact(zxu x ok.rng w4 (g.ext h4)).mono fun v w5 ⟨e5,hv⟩=>⟨e5,_,hv,fun w7 h7=>⟨h7,_,_,rfl,⟨fun _=>ok,fun _=>rfl⟩,fun h=>absurd rfl h,fun _=>rfl⟩⟩
theorem zhC(s:ByteArray):s.data.toList.length=s.size:=by simp
theorem zeK{c:UInt8}:∀(k:Nat)(s:ByteArray),Lib.countB s (one c)=k->(Lib.splitB (one c) 0 k s).length=k+1
 |0,s,_ => by rw[Lib.splitB_zero];rfl
 |k+1,s,h => by
  rcases Lib.indexB_cases s (one c) with hm|⟨j,hj,hle⟩
  ·rw[Lib.countB_miss _ _ hm] at h;omega
  ·rw[Lib.countB_hit s (one c) j (Nat.le_refl 1) hj] at h
   rw[Lib.splitB_hit (one c) 0 k s j hj,List.length_cons,zeK k _ (by omega)]
def upN(cur:Nd)(name:ByteArray)(v:Int)(k:Nat):Nd:=⟨if 0<k/\pn 0=name then v else cur.c,if 1<k/\pn 1=name then v else cur.m,if 2<k/\pn 2=name then v else cur.g⟩
theorem zAb(cur:Nd)(name:ByteArray)(v:Int):upN cur name v 0=cur:=by cases cur;simp[upN]
theorem zEE{cur:Nd}{name:ByteArray}{v:Int}{k:Nat}(hk:k<3)(h:pn k=name):(zww (upN cur name v k)).set k (.int .i64 v)=zww (upN cur name v (k+1)):=by
 match k,hk with
 |0,_ => simp[zww,upN,h]
 |1,_ => simp[zww,upN,h]
 |2,_ => simp[zww,upN,h]
theorem zAa{cur:Nd}{name:ByteArray}{v:Int}{k:Nat}(hk:k<3)(h:pn k≠name):upN cur name v (k+1)=upN cur name v k:=by
 match k,hk with
 |0,_ => simp[upN,h]
 |1,_ => simp[upN,h]
 |2,_ => simp[upN,h]
theorem zED{cur:Nd}{name:ByteArray}{v:Int}{i:Nat}(hi:i<3):zcg (upN cur name v 3) i=if pn i=name then v else zcg cur i:=by
 match i,hi with
 |0,_ => simp[upN,zcg]
 |1,_ => simp[upN,zcg]
 |2,_ => simp[upN,zcg]
theorem pn_inj:∀{i j:Nat},i<3->j<3->pn i=pn j->i=j:=by
 intro i j hi hj h
 match i,j,hi,hj with
 |0,0,_,_ => rfl
 |1,1,_,_ => rfl
 |2,2,_,_ => rfl
 |0,1,_,_ => exact absurd h (by decide)
 |0,2,_,_ => exact absurd h (by decide)
 |1,0,_,_ => exact absurd h (by decide)
 |1,2,_,_ => exact absurd h (by decide)
 |2,0,_,_ => exact absurd h (by decide)
 |2,1,_,_ => exact absurd h (by decide)
theorem zGR:∀{i:Nat},i<3->(61:UInt8)∉(pn i).data.toList/\(44:UInt8)∉(pn i).data.toList:=by
 intro i hi
 match i,hi with
 |0,_ => decide
 |1,_ => decide
 |2,_ => decide
theorem zGQ{x:Nd}(hx:okN x){i:Nat}(hi:i<3):(44:UInt8)∉zgE x i:=fun hm=>by
 have h0:=(zpH.1 hx i hi).1
 unfold zgE at hm
 rcases List.mem_append.1 hm with h|h
 ·exact(zGR hi).2 h
 ·rcases List.mem_cons.1 h with h|h
  ·exact absurd h (by decide)
  ·exact zi5 h0 (by decide) h
theorem zBe{x:Nd}(hx:okN x)(hne:zbq x≠[45]):Lib.countB (ofL (zbq x)) (one 44)+1=(idx x 3).length/\Lib.splitB (one 44) 0 (Lib.countB (ofL (zbq x)) (one 44)) (ofL (zbq x))=(pcs x 3).map ofL:=by
 have hp:pcs x 3≠[]:=fun h=>hne (by unfold zbq;rw[if_pos h])
 have ht:zbq x=Lib.join (pcs x 3) [44]:=by unfold zbq;rw[if_neg hp]
 rw[ht]
 cases hl:pcs x 3 with
 |nil => exact absurd hl hp
 |cons a l =>
  obtain⟨h1,h2⟩:=zdz (c:=44) l a fun y hy=>by
   rw[<-hl] at hy
   obtain⟨i,hi,rfl⟩:=List.mem_map.1 hy
   exact zGQ hx (zpr hi).1
  have hlen:(idx x 3).length=l.length+1:=by
   have:=congrArg List.length hl
   unfold pcs at this
   rw[List.length_map] at this
   simpa using this
  rw[h1,h2]
  exact⟨by omega,rfl⟩
def good(x cur:Nd)(k:Nat):Prop:=∀i,i<3->zcg cur i=if i∈(idx x 3).take k then zcg x i else 0
theorem zou{x cur:Nd}(h:good x cur (idx x 3).length):cur=x:=by
 have key:∀i,i<3->zcg cur i=zcg x i:=fun i hi=>by
  rw[h i hi,List.take_length]
  split
  ·rfl
  ·rename_i hn
   by_cases h0:zcg x i=0
   ·exact h0.symm
   ·exact absurd (List.mem_filter.2 ⟨List.mem_range.2 hi,by simpa using h0⟩) hn
 have a:=key 0 (by omega)
 have b:=key 1 (by omega)
 have c:=key 2 (by omega)
 cases cur;cases x
 simp only[zcg] at a b c
 simp[a,b,c]
theorem zuD{x cur:Nd}{k i:Nat}(h:good x cur k)(hi:(idx x 3)[k]?=some i):good x (upN cur (pn i) (zcg x i) 3) (k+1):=by
 have hm:=zpr (List.mem_of_getElem? hi)
 intro j hj
 rw[zED hj,List.take_add_one,hi]
 simp only[Option.toList_some,List.mem_append,List.mem_singleton]
 by_cases e:j=i
 ·subst e;simp
 ·rw[if_neg (fun hp=>e (pn_inj hj hm.1 hp)),h j hj]
  simp[e]
theorem zjE{x:Nd}:good x za6 0:=fun i hi=>by
 match i,hi with
 |0,_ => simp[zcg,za6]
 |1,_ => simp[zcg,za6]
 |2,_ => simp[zcg,za6]
abbrev RQ(w:World)(s:ByteArray)(v:Value)(w':World):Prop:=Ext w w'/\∃(a:Nd) (e:Int),v=.tuple #[nv a,.int .i64 e]/\(e≠0->a=za6)/\(e=0->okN a/\s=ofL (zbq a))/\(∀x,okN x->s=ofL (zbq x)->e=0/\a=x)
def rtail(s:ByteArray)(p2:Option Addr)(b0:Nat)(w10:World)(Q:Value->World->Prop):Prop :=
 p2≠none /\
 ∃t11:Int,cell w10 p2 0=some (.int .i64 t11) /\
 ∃t12:Int,cell w10 p2 1=some (.int .i64 t12) /\
 ∃t13:Int,cell w10 p2 2=some (.int .i64 t13) /\
 ∀w14,Ext w10 w14 ->
 FnP Tryz.prog zef #[(.agg #[(.int .i64 t11),(.int .i64 t12),(.int .i64 t13)])] w14 fun v15 w15 =>
  Ext w14 w15 /\
  ∃t16:ByteArray,v15=(.string t16) /\
  ((t16≠s) ->
   ∀w17,zag [b0] [] w10 w17 ->
   Q (.tuple #[(.agg #[(.int .i64 0),(.int .i64 0),(.int .i64 0)]),(.int .i64 3)]) w17) /\
  ((t16=s) ->
   p2≠none /\
   ∃t17:Int,cell w10 p2 0=some (.int .i64 t17) /\
   ∃t18:Int,cell w10 p2 1=some (.int .i64 t18) /\
   ∃t19:Int,cell w10 p2 2=some (.int .i64 t19) /\
   ∀w20,Ext w10 w20 ->
   FnP Tryz.prog zbh #[(.agg #[(.int .i64 t17),(.int .i64 t18),(.int .i64 t19)])] w20 fun v21 w21 =>
    Ext w20 w21 /\
    ∃t22:Int,v21=(.int .i64 t22) /\
    ((t22≠0) ->
     ∀w23,zag [b0] [] w10 w23 ->
     Q (.tuple #[(.agg #[(.int .i64 0),(.int .i64 0),(.int .i64 0)]),(.int .i64 t22)]) w23) /\
    ((t22=0) ->
     p2≠none /\
     ∃t23:Int,cell w10 p2 0=some (.int .i64 t23) /\
     ∃t24:Int,cell w10 p2 1=some (.int .i64 t24) /\
     ∃t25:Int,cell w10 p2 2=some (.int .i64 t25) /\
     ∀w26,zag [b0] [] w10 w26 ->
     Q (.tuple #[(.agg #[(.int .i64 t23),(.int .i64 t24),(.int .i64 t25)]),(.int .i64 0)]) w26))
theorem zzQ{w w10:World}{s:ByteArray}{p2:Option Addr}{b0:Nat}{cur:Nd}(x10:Ext w w10)(hb0:w.heap.size<=b0)(c10:zBF w10 p2 cur)(hp:p2≠none)(hr:rng cur)(g:GB w)
  (hgood:∀x,okN x->s=ofL (zbq x)->cur=x):rtail s p2 b0 w10 (RQ w s):=by
 have k0:=c10 0 _ rfl
 have k1:=c10 1 _ rfl
 have k2:=c10 2 _ rfl
 have bx:∀{w':World},zag [b0] [] w10 w'->Ext w w':=fun h=>zav h x10 (by intro d hd;simp at hd;omega)
 refine⟨hp,_,k0,_,k1,_,k2,fun w14 h14=>(zxu cur hr w14 (g.ext (x10.trans h14))).mono fun v w15 ⟨e15,hv⟩=>⟨e15,_,hv,fun hne w17 x17=>⟨bx x17,za6,_,rfl,fun _=>rfl,fun h=>by omega,fun x hx hs=>?_⟩,fun heq=>⟨hp,_,k0,_,k1,_,k2,fun w20 h20=>(zex cur w20).mono fun v w21 ⟨e21,hv⟩=>⟨e21,_,hv,fun hne w23 x23=>⟨bx x23,za6,_,rfl,fun _=>rfl,fun h=>absurd h hne,fun x hx hs=>?_⟩,fun hz=>⟨hp,_,k0,_,k1,_,k2,fun w26 x26=>⟨bx x26,cur,0,rfl,fun h=>absurd rfl h,fun _=>⟨zba.1 hz,heq.symm⟩,fun x hx hs=>⟨rfl,hgood x hx hs⟩⟩⟩⟩⟩⟩⟩
 ·exact absurd (by rw[hgood x hx hs];exact hs.symm) hne
 ·exact absurd (zba.2 (by rw[hgood x hx hs];exact hx)) hne
theorem zDp(s:ByteArray)(hs:s.size<4294967281)(w:World)(g:GB w):FnP Tryz.prog zfq #[.string s] w (RQ w s):=by
 refine znS s w _ fun b0 hb0 w1 x1=>zbp (by simp[Value.oneCell']) fun w2 o2 e2=>?_
 have h1:=zaa x1
 have l0:=x1.lt b0 (by simp)
 have o2:=o2 w.heap.size h1.size
 have np:(some (⟨w1.heap.size,0,none⟩:Addr))≠none:=by simp
 have h2:=h1.trans e2
 have rz:rng za6:=fun i hi=>by
  match i,hi with
  |0,_ => simp[zcg,za6]
  |1,_ => simp[zcg,za6]
  |2,_ => simp[zcg,za6]
 have hpb:∀y,(some (⟨w1.heap.size,0,none⟩:Addr))=some y->y.block≠b0:=fun y hy=>by obtain rfl:=Option.some.inj hy;show w1.heap.size≠b0;omega
 have hpl:∀y,(some (⟨w1.heap.size,0,none⟩:Addr))=some y->y.block<w2.heap.size:=fun y hy=>(o2.lt y hy).2
 generalize hpp:(some (⟨w1.heap.size,0,none⟩:Addr))=p at o2 np hpb hpl ⊢
 refine⟨fun hne w3 x3=>?_,fun heq=>?_⟩
 rotate_left
 ·refine zzQ (cur:=za6) h2 hb0 o2.cells np rz g fun x hx hs=>?_
  have hl:zbq x=[45]:=zmR (hs.symm.trans heq)
  by_cases hp:pcs x 3=[]
  ·refine zou ?_
   have:idx x 3=[]:=by simpa[pcs] using hp
   intro i hi
   rw[this]
   exact zjE i hi
  ·exfalso
   unfold zbq at hl
   rw[if_neg hp] at hl
   cases hc:pcs x 3 with
   |nil => exact hp hc
   |cons a l =>
    rw[hc,Lib.join_cons] at hl
    have ha:a∈pcs x 3:=by rw[hc];exact List.mem_cons_self ..
    obtain⟨i,_,rfl⟩:=List.mem_map.1 ha
    have:=congrArg List.length hl
    unfold zgE at this
    have h3:(pn i).data.toList.length=3:=zzH i
    rw[List.length_append,List.length_append,h3] at this
    simp at this
    omega
 have h3:=h2.trans (zaa x3)
 have g3:=g.ext h3
 refine(zeX 44 s hs w3 g3).mono fun v w4 ⟨e4,hv,hc4,_⟩=>⟨e4,_,_,_,hv,?_⟩
 have spn:(some (⟨w3.heap.size,0,none⟩:Addr))≠none:=by simp
 have apsp:zbU (some (⟨w3.heap.size,0,none⟩:Addr)) p:=fun a b ha hb he=>by
  obtain rfl:=Option.some.inj ha
  have h5:=hpl b hb
  have h6:=(zaa x3).size
  have h7:w3.heap.size=b.block:=he
  omega
 generalize (some (⟨w3.heap.size,0,none⟩:Addr))=sp at hc4 spn apsp ⊢
 have slen:=zeK (c:=44) _ s rfl
 have ssz:∀i q,(Lib.splitB (one 44) 0 (Lib.countB s (one 44)) s)[i]?=some q->q.size+i<=s.size:=fun i q h=>zcA _ s i q h
 have sgood:∀x,okN x->s=ofL (zbq x)->Lib.countB s (one 44)+1=(idx x 3).length/\Lib.splitB (one 44) 0 (Lib.countB s (one 44)) s=(pcs x 3).map ofL:=fun x hx hsx=>by
  have:=zBe hx fun h=>hne (by rw[hsx,h];rfl)
  rwa [<-hsx] at this
 generalize Lib.splitB (one 44) 0 (Lib.countB s (one 44)) s=S at hc4 slen ssz sgood
 generalize Lib.countB s (one 44)=n at slen sgood ⊢
 refine⟨fun k w'=>Ext w w'/\0<=k/\k<=(n+1:Nat)/\zau w' sp (S.map Value.string)/\∃cur,Own w.heap.size w' zim 3 p 1 1 (zww cur)/\rng cur/\∀x,okN x->s=ofL (zbq x)->good x cur k.toNat,fun k _=>(n+1-k).toNat,
  ⟨h3.trans e4,by omega,by omega,hc4,za6,(o2.ext (zaa x3)).ext e4,rz,fun x _ _=>zjE⟩,?_⟩
 rintro k w10 ⟨x10,hk0,hk1,c10,cur,o10,hr,hgd⟩
 refine⟨fun hlt=>?_,fun hge=>?_⟩
 rotate_left
 ·refine zzQ (cur:=cur) x10 hb0 o10.cells np hr g fun x hx hsx=>zou ?_
  have:=hgd x hx hsx
  rwa [show k.toNat=(idx x 3).length by have:=(sgood x hx hsx).1;omega] at this
 obtain⟨pc,hpc⟩:∃pc,S[k.toNat]?=some pc:=⟨_,List.getElem?_eq_getElem (by omega)⟩
 have hcell:Go.Sx.cell w10 (pIdx sp k 1) 0=some (.string pc):=by
  rw[zae]
  exact c10 _ _ (by simp[hpc])
 have hpsz:=ssz _ _ hpc
 refine⟨spn,hk0,hlt,_,hcell,fun w12 h12=>(zwA 61 pc (by omega) w12 ((g.ext x10).ext h12)).mono fun v w13 ⟨e13,hv⟩=>⟨e13,_,_,_,hv,fun w17 x17=>?_⟩⟩
 have hx17:=x10.trans (zaa x17)
 have hcsz:(Lib.cut pc.data.toList [61]).2.1.length<=pc.size:=by have:=zhF pc.data.toList 61;rwa [zhC] at this
 have hthis:∀x,okN x->s=ofL (zbq x)->∃i,(idx x 3)[k.toNat]?=some i/\i<3/\0<zcg x i/\ofL (Lib.cut pc.data.toList [61]).1=pn i/\Lib.parseIntB 64 (ofL (Lib.cut pc.data.toList [61]).2.1).data.toList=.ok (zcg x i):=fun x hx hsx=>by
  have hS:=(sgood x hx hsx).2
  rw[hS,List.getElem?_map] at hpc
  unfold pcs at hpc
  rw[List.getElem?_map,Option.map_map,Option.map_eq_some_iff] at hpc
  obtain⟨i,hi,rfl⟩:=hpc
  have hm:=zpr (List.mem_of_getElem? hi)
  have hb:=zpH.1 hx i hm.1
  have hcut:Lib.cut (ofL (zgE x i)).data.toList [61]=((pn i).data.toList,Lib.itoa (zcg x i),true):=zwX _ (zGR hm.1).1
  have hcut':Lib.cut ((ofL∘zgE x) i).data.toList [61]=((pn i).data.toList,Lib.itoa (zcg x i),true):=hcut
  rw[hcut']
  exact⟨i,hi,hm.1,by omega,zcb _,zen hb⟩
 generalize (ofL (Lib.cut pc.data.toList [61]).1)=name at hthis ⊢
 have hnsz:(ofL (Lib.cut pc.data.toList [61]).2.1).size<=281474976710656:=by rw[zas];omega
 generalize (ofL (Lib.cut pc.data.toList [61]).2.1)=num at hthis hnsz ⊢
 refine(zjA num hnsz w17 (g.ext hx17)).mono fun v w18 ⟨e18,vn,ev,hv,hcase⟩=>⟨e18,vn,ev,hv,fun w21 h21=>?_⟩
 have hx18:=hx17.trans e18
 refine zi8 (by kernel_rfl) (hcase.elim (fun h=>.inl h.1) fun h=>.inr h.1) fun t ht=>⟨Ext.refl _,t,rfl,fun hbad w24 x24=>⟨zav x24 hx18 (by intro d hd;simp at hd;omega),za6,3,rfl,fun _=>rfl,fun h=>by omega,fun x hx hsx=>?_⟩,fun hok w24 x24=>?_⟩
 ·exfalso
  obtain⟨i,_,_,hpos,_,hpar⟩:=hthis x hx hsx
  rcases hcase with⟨h1,h2⟩|⟨_,h2⟩
  ·rw[hpar] at h2
   injection h2 with h2
   rcases hbad with h|h
   ·rw[ht.2 h1] at h;cases h
   ·omega
  ·exact h2 _ hpar
 have hx24:=hx18.trans (zaa x24)
 obtain⟨hev,hpar⟩:ev=.nilIface/\Lib.parseIntB 64 num.data.toList=.ok vn:=by
  rcases hcase with h|⟨⟨a,b,h⟩,_⟩
  ·exact h
  ·have:=ht.1 hok.1
   rw[h] at this;cases this
 have o24:Own w.heap.size w24 zim 3 p 1 1 (zww cur):=(((o10.ext (zaa x17)).ext e18).ext (zaa x24))
 have c24:zau w24 sp (S.map Value.string):=(((c10.ext (zaa x17)).ext e18).ext (zaa x24))
 refine(ztm p np w24).mono fun v w25 ⟨e25,q,hv,hq,hqb⟩=>⟨e25,q,3,3,hv,?_⟩
 have apq:zbU q p:=fun a b ha hb he=>by
  have h5:=hqb a ha
  have h6:=(o24.lt b hb).2
  omega
 refine⟨fun k30 w'=>Ext w w'/\0<=k30/\k30<=3/\zau w' sp (S.map Value.string)/\zau w' q (zvF p)/\Own w.heap.size w' zim 3 p 1 1 (zww (upN cur name vn k30.toNat)),fun k30 _=>(3-k30).toNat,
  ⟨hx24.trans e25,by omega,by omega,c24.ext e25,hq,by rw[show(0:Int).toNat=0 from rfl,zAb];exact o24.ext e25⟩,?_⟩
 rintro k30 w31 ⟨x31,hj0,hj3,c31,q31,o31⟩
 refine⟨fun hjlt=>?_,fun hjge=>?_⟩
 ·obtain⟨d1,d2⟩:=ztl q31 hj0 hjlt
  have hj:k30.toNat<3:=by omega
  refine⟨fun hq=>zaj d1 (zah.2 hq),hj0,hjlt,zaj d1,_,d1,_,d2,fun b34 hb34=>⟨fun heq=>⟨fun h=>np (zdk.1 h),?_⟩,fun hne=>⟨i64 (by omega),⟨x31,by omega,by omega,c31,q31,?_⟩,by simp only[];omega⟩⟩⟩
  ·refine zct o31 (by simpa using hj) rfl (fun b hb y hy=>?_) fun w35 o35 g35=>⟨i64 (by omega),⟨g35.ext x31 o31,by omega,by omega,c31.grew apsp g35,q31.grew apq g35,?_⟩,by simp only[];omega⟩
   ·simp only[List.mem_cons,List.mem_singleton,List.mem_nil_iff,or_false] at hb
    rcases hb with rfl|rfl
    ·exact hpb y hy
    ·have:=(o31.lt y hy).2;omega
   ·rw[show(k30+1).toNat=k30.toNat+1 by omega,<-zEE hj heq]
    exact o35
  ·rw[show(k30+1).toNat=k30.toNat+1 by omega,zAa hj hne]
   exact o31
 ·obtain rfl:k30=3:=by omega
  refine⟨i64 (by omega),⟨x31,by omega,by omega,c31,upN cur name vn 3,o31,fun i hi=>?_,fun x hx hsx=>?_⟩,by simp only[];omega⟩
  ·rw[zED hi]
   split
   ·have:=zvC hpar hok.2
    omega
   ·exact hr i hi
  ·obtain⟨i,hi,hi3,_,hname,hp2⟩:=hthis x hx hsx
   rw[hpar] at hp2
   injection hp2 with hp2
   rw[hp2,hname,show(k+1).toNat=k.toNat+1 by omega]
   exact zuD (hgd x hx hsx) hi
def zfw(s:ByteArray):List Int:=s.data.toList.map fun b=>(b.toNat:Int)
theorem zAs(s:ByteArray):(zfw s).length=s.size:=by simp[zfw]
theorem zKF{P:Program}{src dst e:TypeId}{s:ByteArray}(hs:P.underlying src=some .string)(hd:P.underlying dst=some (.slice e))(he:P.underlying e=some (.int .u8)){w:World}{K:Value->World->Prop}
  (hk:∀p c w',Ext w w'->zeh .u8 w' p (zfw s)->K (.slice p s.size c) w'):Run P (.convert src dst (.string s)) w K:=by
 refine⟨_,_,run_bytes_of_string w src dst e s hs hd he,hk _ _ _ ?_ fun i v hv=>?_⟩
 ·exact Below.alloc (B:=w.heap.size) (a:=w) (w:=w.drew) ⟨rfl,rfl,rfl,Nat.le_refl _,fun _ _=>rfl⟩ (Nat.le_refl _) _
 ·obtain⟨hi,hv⟩:=List.getElem?_eq_some_iff.1 hv
  have hi':i<s.data.size:=by simpa[zfw] using hi
  have hc:=World.cell?_alloc_mark w.drew (bytesRow s (grownCap w s.size 0 e)) e ((bytesRow s (grownCap w s.size 0 e)).size,(bytesRow s (grownCap w s.size 0 e)).size+1) i
  rw[bytesRow_at s _ i hi'] at hc
  simp only[cell,Option.bind_some]
  have ha:(Addr.add ⟨w.heap.size,0,none⟩ i)=⟨w.drew.heap.size,i,none⟩:=by simp[Addr.add];intro h;exact h.symm
  rw[ha,hc,<-hv]
  simp[zfw]
inductive AT where
 |mk (k:Int) (key val:ByteArray) (n:Int) (xs:List AT)
def AT.k:AT->Int|.mk k _ _ _ _=>k
def AT.key:AT->ByteArray|.mk _ key _ _ _=>key
def AT.val:AT->ByteArray|.mk _ _ val _ _=>val
def AT.n:AT->Int|.mk _ _ _ n _=>n
def AT.xs:AT->List AT|.mk _ _ _ _ xs=>xs
theorem AT.eta(t:AT):t=.mk t.k t.key t.val t.n t.xs:=by cases t;rfl
theorem AT.ind{P:AT->Prop}(h:∀k key val n xs,(∀x∈xs,P x)->P (.mk k key val n xs))(t:AT):P t:=by
 refine AT.rec (motive_1:=P) (motive_2:=fun l=>∀x∈l,P x) ?_ ?_ ?_ t
 ·intro k key val n xs ih;exact h k key val n xs ih
 ·intro x hx;cases hx
 ·intro x l h1 h2 y hy
  rcases List.mem_cons.1 hy with rfl|hy
  ·exact h1
  ·exact h2 y hy
def zos(t:AT)(p:Option Addr)(c:Nat):List Value:=[.int .i64 t.k,.string t.key,.string t.val,.int .i64 t.n,.slice p t.xs.length c]
abbrev av(t:AT)(p:Option Addr)(c:Nat):Value:=.agg #[.int .i64 t.k,.string t.key,.string t.val,.int .i64 t.n,.slice p t.xs.length c]
mutual
def IsT (w:World):AT->Option Addr->Nat->Prop
 |.mk _ _ _ _ xs,p,c => xs.length<=c/\IsL w xs p 0
def IsL (w:World):List AT->Option Addr->Nat->Prop
 |[],_,_ => True
 |x::r,p,i => (∃p' c',(∀j u,(zos x p' c')[j]?=some u->cell w p (i*5+j)=some u)/\IsT w x p' c')/\IsL w r p (i+1)
end
theorem IsL.get{w:World}:∀{xs:List AT}{p:Option Addr}{i:Nat},IsL w xs p i->∀{j:Nat}{x:AT},xs[j]?=some x->∃p' c',(∀m u,(zos x p' c')[m]?=some u->cell w p ((i+j)*5+m)=some u)/\IsT w x p' c'
 |[],p,i,h,j,x,hx => by simp at hx
 |y::r,p,i,h,j,x,hx => by
  unfold IsL at h
  cases j with
  |zero =>
   simp at hx;subst hx
   exact h.1
  |succ j =>
   have:=IsL.get h.2 (j:=j) (x:=x) (by simpa using hx)
   rw[show i+(j+1)=i+1+j by omega]
   exact this
theorem IsL.of{w:World}:∀{xs:List AT}{p:Option Addr}{i:Nat},(∀(j:Nat)(x:AT),xs[j]?=some x->∃p' c',(∀m u,(zos x p' c')[m]?=some u->cell w p ((i+j)*5+m)=some u)/\IsT w x p' c')->IsL w xs p i
 |[],p,i,h => by unfold IsL;trivial
 |y::r,p,i,h => by
  unfold IsL
  refine⟨h 0 y rfl,IsL.of fun j x hx=>?_⟩
  have:=h (j+1) x (by simpa using hx)
  rw[show i+(j+1)=i+1+j by omega] at this
  exact this
theorem IsT.ext{w w':World}(he:Ext w w'):∀(t:AT)(p:Option Addr)(c:Nat),IsT w t p c->IsT w' t p c:=by
 intro t
 induction t using AT.ind with
 |h k key val n xs ih =>
  intro p c h
  unfold IsT at h ⊢
  refine⟨h.1,IsL.of fun j x hx=>?_⟩
  obtain⟨p',c',h1,h2⟩:=h.2.get hx
  exact⟨p',c',fun m u hu=>zaz he (h1 m u hu),ih x (List.mem_of_getElem? hx) p' c' h2⟩
theorem IsT.at{w:World}{t:AT}{p:Option Addr}{c:Nat}(h:IsT w t p c){k:Int}(h0:0<=k)(hk:k<t.xs.length) :
  ∃x p' c',t.xs[k.toNat]?=some x/\x∈t.xs/\IsT w x p' c'/\p≠none/\pIdx p k 5≠none/\cell w (pIdx p k 5) 0=some (.int .i64 x.k)/\cell w (pIdx p k 5) 1=some (.string x.key)/\cell w (pIdx p k 5) 2=some (.string x.val) /\
   cell w (pIdx p k 5) 3=some (.int .i64 x.n)/\cell w (pIdx p k 5) 4=some (.slice p' x.xs.length c'):=by
 cases t with
 |mk kk key val n xs =>
  unfold IsT at h
  have hk:k<xs.length:=hk
  obtain⟨x,hx⟩:∃x,xs[k.toNat]?=some x:=⟨_,List.getElem?_eq_getElem (by omega)⟩
  obtain⟨p',c',h1,h2⟩:=h.2.get hx
  simp only[Nat.zero_add] at h1
  have g:∀(m:Nat) u,(zos x p' c')[m]?=some u->cell w (pIdx p k 5) m=some u:=fun m u hu=>by rw[zae];exact h1 m u hu
  have g0:=g 0 _ rfl
  exact⟨x,p',c',hx,List.mem_of_getElem? hx,h2,fun hq=>zaj g0 (zah.2 hq),zaj g0,g0,g 1 _ rfl,g 2 _ rfl,g 3 _ rfl,g 4 _ rfl⟩
mutual
def WfA:AT->Prop
 |.mk k key val n xs => InR .i64 k/\key.size<=9223372036854775807/\val.size<=9223372036854775807/\InR .i64 n/\xs.length<=9223372036854775807/\WfL xs
def WfL:List AT->Prop
 |[] => True
 |x::r => WfA x/\WfL r
end
theorem WfL.mem:∀{l:List AT},WfL l->∀x∈l,WfA x
 |[],_,x,hx => by cases hx
 |y::r,h,x,hx => by
  unfold WfL at h
  rcases List.mem_cons.1 hx with rfl|hx
  ·exact h.1
  ·exact WfL.mem h.2 x hx
theorem WfL.of:∀{l:List AT},(∀x∈l,WfA x)->WfL l
 |[],_ => by unfold WfL;trivial
 |y::r,h => by unfold WfL;exact⟨h y (List.mem_cons_self ..),WfL.of fun x hx => h x (List.mem_cons_of_mem _ hx)⟩
theorem WfA.len{t:AT}(h:WfA t):t.xs.length<=9223372036854775807:=by cases t;unfold WfA at h;exact h.2.2.2.2.1
theorem WfA.sub{t:AT}(h:WfA t):∀x∈t.xs,WfA x:=by cases t;unfold WfA at h;exact h.2.2.2.2.2.mem
theorem zFr{w:World}:∀(n:Nat)(cs:List Value),Go.Sx.Good Tryz.prog w n zdN cs->∃t p c,cs=zos t p c/\IsT w t p c/\WfA t:=by
 intro n
 induction n using Nat.strongRecOn with
 |_ n ih =>
 intro cs hg
 have hlv:=zcO (P:=Tryz.prog) 6 zdN [zfR,zay,zay,zde,zcl] n cs (by kernel_rfl) hg
 obtain⟨v0,r0,rfl,l0,hlv⟩:=zai hlv
 obtain⟨v1,r1,rfl,l1,hlv⟩:=zai hlv
 obtain⟨v2,r2,rfl,l2,hlv⟩:=zai hlv
 obtain⟨v3,r3,rfl,l3,hlv⟩:=zai hlv
 obtain⟨v4,r4,rfl,l4,hlv⟩:=zai hlv
 obtain rfl:=zhN hlv
 obtain⟨k,rfl,hk⟩:=zaL (k:=.i64) (by kernel_rfl) l0
 obtain⟨key,rfl,hkey⟩:=zc3 (by kernel_rfl) l1
 obtain⟨val,rfl,hval⟩:=zc3 (by kernel_rfl) l2
 obtain⟨m,rfl,hm⟩:=zaL (k:=.i64) (by kernel_rfl) l3
 have hsl:∃n',n'<n/\Go.Sx.Good Tryz.prog w n' zcl [v4]:=by
  cases n with
  |zero => exact hg.elim
  |succ n =>
   unfold Go.Sx.Good at hg
   have hu:Tryz.prog.underlying zdN=some (.struct (Tryz.prog.fieldsOf zdN)):=by kernel_rfl
   rw[hu] at hg
   have hf:((Tryz.prog.fieldsOf zdN)[4]?).map (fun f=>(f.type,f.offset))=some (zcl,4):=by kernel_rfl
   obtain⟨f,hf1,hf2⟩:=Option.map_eq_some_iff.1 hf
   simp only[Prod.mk.injEq] at hf2
   have:=hg.2 f (by have:=Array.mem_of_getElem? hf1;simpa using this)
   rw[hf2.1,hf2.2] at this
   exact⟨n,by omega,by simpa[show Tryz.prog.cellsOf zcl=1 by kernel_rfl] using this⟩
 obtain⟨n1,hn1,hsl⟩:=hsl
 have hin:∃p l c,v4=.slice p l c/\l<=c/\c<=9223372036854775807/\(p=none->c=0)/\∀a,p=some a->∀i,i<c->∃n2 es,n2<n/\w.cells? 0 (a.add (i*5)) 5=some es/\Go.Sx.Good Tryz.prog w n2 zdN es:=by
  cases n1 with
  |zero => exact hsl.elim
  |succ n1 =>
   unfold Go.Sx.Good at hsl
   have hu:Tryz.prog.underlying zcl=some (.slice zdN):=by kernel_rfl
   have hc5:Tryz.prog.cellsOf zdN=5:=by kernel_rfl
   rw[hu] at hsl
   simp only[hc5] at hsl
   rcases hsl with h|⟨a,len,cap,h,h1,h2,h3⟩
   ·simp only[List.cons.injEq,and_true] at h
    exact⟨none,0,0,h,Nat.le_refl _,by omega,fun _=>rfl,fun a ha=>by cases ha⟩
   ·simp only[List.cons.injEq,and_true] at h
    refine⟨some a,len,cap,h,h1,h2,fun ha=>(by cases ha),fun b hb i hi=>?_⟩
    obtain rfl:=Option.some.inj hb
    obtain⟨es,h4,h5⟩:=h3 i hi
    exact⟨n1,es,by omega,h4,h5⟩
 obtain⟨p,l,c,rfl,hlc,hcm,hpn,hel⟩:=hin
 have hxs:∀(d i:Nat),i+d=l->∃xs:List AT,xs.length=d/\(∀x∈xs,WfA x)/\IsL w xs p i:=by
  intro d
  induction d with
  |zero => exact fun i _ => ⟨[],rfl,fun x hx => (by cases hx),by unfold IsL;trivial⟩
  |succ d ihd =>
   intro i hi
   obtain⟨xs,h1,h2,h3⟩:=ihd (i+1) (by omega)
   cases p with
   |none => have:=hpn rfl;omega
   |some a =>
    obtain⟨n2,es,h4,h5,h6⟩:=hel a rfl i (by omega)
    obtain⟨x,p',c',rfl,h7,h8⟩:=ih n2 h4 es h6
    refine⟨x::xs,by simp[h1],fun y hy=>?_,?_⟩
    ·rcases List.mem_cons.1 hy with rfl|hy
     ·exact h8
     ·exact h2 y hy
    ·unfold IsL
     refine⟨⟨p',c',fun j u hu=>?_,h7⟩,h3⟩
     have:=(cells?_some h5).2 j u hu
     simp only[cell,Option.bind_some] at this ⊢
     rw[<-zft];exact this
 obtain⟨xs,h1,h2,h3⟩:=hxs l 0 (by omega)
 subst h1
 exact⟨.mk k key val m xs,p,c,rfl,by unfold IsT;exact⟨hlc,h3⟩,by unfold WfA;exact⟨hk,hkey,hval,hm,by omega,WfL.of h2⟩⟩
theorem zI8{W:World}{p:Option Addr}{l c:Nat}(h:zaC Tryz.prog W zdN p l c){k:Int}(hk:InR .i64 k){key val:ByteArray}(hkey:key.size<=9223372036854775807)(hval:val.size<=9223372036854775807){n:Int}(hn:InR .i64 n) :
  ∃t:AT,t.k=k/\t.key=key/\t.val=val/\t.n=n/\t.xs.length=l/\IsT W t p c/\WfA t:=by
 have hc5:Tryz.prog.cellsOf zdN=5:=by kernel_rfl
 have hxs:∀(d i:Nat),i+d=l->∃xs:List AT,xs.length=d/\(∀x∈xs,WfA x)/\IsL W xs p i:=by
  intro d
  induction d with
  |zero => exact fun i _ => ⟨[],rfl,fun x hx => (by cases hx),by unfold IsL;trivial⟩
  |succ d ihd =>
   intro i hi
   obtain⟨xs,h1,h2,h3⟩:=ihd (i+1) (by omega)
   have hle:=h.le
   cases p with
   |none => have:=h.nil rfl;omega
   |some a =>
    obtain⟨n2,es,h5,h6⟩:=h.el a rfl i (by omega)
    rw[hc5] at h5
    obtain⟨x,p',c',rfl,h7,h8⟩:=zFr n2 es h6
    refine⟨x::xs,by simp[h1],fun y hy=>?_,?_⟩
    ·rcases List.mem_cons.1 hy with rfl|hy
     ·exact h8
     ·exact h2 y hy
    ·unfold IsL
     refine⟨⟨p',c',fun j u hu=>?_,h7⟩,h3⟩
     have:=(cells?_some h5).2 j u hu
     simp only[cell,Option.bind_some] at this ⊢
     rw[<-zft];exact this
 obtain⟨xs,h1,h2,h3⟩:=hxs l 0 (by omega)
 have:=h.le
 have:=h.max
 subst h1
 exact⟨.mk k key val n xs,rfl,rfl,rfl,rfl,rfl,by unfold IsT;exact⟨h.le,h3⟩,by unfold WfA;exact⟨hk,hkey,hval,hn,by omega,WfL.of h2⟩⟩
def okC(b:Int):Bool:=(decide (97<=b)&&decide (b<=122))||(decide (48<=b)&&decide (b<=57))||decide (b=45)
def lbB(s:ByteArray):Bool:=decide (0<s.size)&&decide (s.size<=20)&&decide (97<=sAt s 0)&&decide (sAt s 0<=122)&&(zfw s).all okC
def zBs:ByteArray:=⟨#[99,112,117]⟩
def memS:ByteArray:=⟨#[109,101,109]⟩
def gpuS:ByteArray:=⟨#[103,112,117]⟩
def unB(s:ByteArray):Bool:=decide (s=zBs)||decide (s=memS)||decide (s=gpuS)
def emS:ByteArray:=⟨#[]⟩
def zfT(k:Int):Nat:=if k=5\/k=6 then 2 else if k=4 then 1 else 0
def zk6(k:Int)(key val:ByteArray)(n:Int)(l:Nat):Int :=
 if k<1\/6<k then 1 else if l≠zfT k then 1
 else if (4<=k/\key≠emS)\/(k≠2/\val≠emS)\/(k≠3/\n≠0) then 1
 else if (k=3/\unB key=false)\/((k=1\/k=2)/\lbB key=false)\/(k=2/\lbB val=false) then 3
 else if n<0\/1099511627776<n then 4 else 0
mutual
def zeO:AT->Int
 |.mk k key val n xs => if zk6 k key val n xs.length≠0 then zk6 k key val n xs.length else zAD xs
def zAD:List AT->Int
 |[] => 0
 |x::r => if zeO x≠0 then zeO x else zAD r
end
mutual
def zJg:AT->Int
 |.mk _ _ _ _ xs => zEZ xs 1
def zEZ:List AT->Int->Int
 |[],n => n
 |x::r,n => zEZ r (IntKind.wrap .i64 (n+zJg x))
end
def zmi(t:AT):Int:=if 60<zJg t then 2 else zeO t
theorem zpe:∀{l:List AT},zAD l=0↔∀x∈l,zeO x=0
 |[] => by unfold zAD;simp
 |y::r => by
  unfold zAD
  have:=zpe (l:=r)
  by_cases h:zeO y=0
  ·simp[h,this]
  ·simp[h]
theorem zrI:∀{l:List AT}{k:Nat}{x:AT},l[k]?=some x->(∀j y,j<k->l[j]?=some y->zeO y=0)->zeO x≠0->zAD l=zeO x
 |[],k,x,h,_,_ => by simp at h
 |y::r,0,x,h,_,hx => by simp at h;subst h;unfold zAD;rw[if_pos hx]
 |y::r,k+1,x,h,hb,hx => by
  unfold zAD
  rw[if_neg (by simp[hb 0 y (by omega) rfl])]
  exact zrI (by simpa using h) (fun j z hj hz=>hb (j+1) z (by omega) (by simpa using hz)) hx
mutual
def zwy (at_:AT->Bool):AT->Bool
 |.mk k key val n xs => if k=4 then !(zHw at_ xs).getD 0 false else if k=5 then (zHw at_ xs).getD 0 false&&(zHw at_ xs).getD 1 false else if k=6 then (zHw at_ xs).getD 0 false||(zHw at_ xs).getD 1 false else at_ (.mk k key val n xs)
def zHw (at_:AT->Bool):List AT->List Bool
 |[] => []
 |x::r => zwy at_ x::zHw at_ r
end
theorem zHx(at_:AT->Bool)(l:List AT):zHw at_ l=l.map (zwy at_):=by
 induction l with
 |nil => unfold zHw;rfl
 |cons x r ih => unfold zHw;rw[ih];rfl
theorem zgX{t:AT}(h:zeO t=0):zk6 t.k t.key t.val t.n t.xs.length=0/\∀x∈t.xs,zeO x=0:=by
 cases t with
 |mk k key val n xs =>
  unfold zeO at h
  split at h
  ·rename_i h1;exact absurd h h1
  ·rename_i h1
   exact⟨Classical.not_not.1 h1,zpe.1 h⟩
theorem zsB{k:Int}{key val:ByteArray}{n:Int}{l:Nat}(h:zk6 k key val n l=0):l=zfT k:=by
 unfold zk6 at h
 split at h
 ·omega
 ·split at h
  ·omega
  ·rename_i h2;exact Classical.not_not.1 h2
theorem zgq(s:ByteArray)(hs:s.size<=9223372036854775807)(w:World):FnP Tryz.prog zbn #[.string s] w fun v w'=>Ext w w'/\v=.bool (lbB s):=by
 have hem:s≠emS↔0<s.size:=by
  constructor
  ·intro h
   refine Nat.pos_of_ne_zero fun h0=>h ?_
   have h1:s.data.size=0:=h0
   have h2:s=ByteArray.empty:=by simpa using h1
   rw[h2];rfl
  ·rintro h rfl
   simp[emS] at h;exact absurd h (by decide)
 refine zvf s w _ ⟨fun _=>by omega,fun h=>?_,fun _=>by omega,fun h=>?_,fun h w0 h0=>⟨h0,?_⟩,fun h w0 h0=>?_⟩
 ·have:=hem.1 h.1;omega
 ·have:=hem.1 h.1.1;omega
 ·congr 1
  symm
  unfold lbB
  rcases h with ((h|h)|h)|h
  ·have:¬ 0<s.size:=fun hp=>(hem.2 hp) h
   simp[this]
  ·have:¬s.size<=20:=by omega
   simp[this]
  ·have:¬ 97<=sAt s 0:=by omega
   simp[this]
  ·have:¬sAt s 0<=122:=by omega
   simp[this]
 ·obtain⟨⟨⟨h1,h2⟩,h3⟩,h4⟩:=h
  have hp:=hem.1 h1
  refine zKF (e:=zaF) (by kernel_rfl) (by kernel_rfl) (by kernel_rfl) fun p c w1 e1 hb=>⟨e1,p,s.size,c,rfl,?_⟩
  have hlen:=zAs s
  refine⟨fun k w'=>w'=w1/\0<=k/\k<=s.size/\∀i:Nat,(i:Int)<k->okC ((zfw s).getD i 0)=true,fun k _=>(s.size-k).toNat,⟨rfl,by omega,by omega,fun i hi=>by omega⟩,?_⟩
  rintro k w1 ⟨rfl,hk0,hk1,hall⟩
  refine⟨fun hlt=>?_,fun hge w8 h8=>⟨(h0.trans e1).trans h8,?_⟩⟩
  ·have g:=zeh.idx hb hk0 (by omega)
   refine⟨fun hq=>zaj g (zah.2 hq),hk0,hlt,_,g,fun hbad w9 h9=>⟨(h0.trans e1).trans h9,?_⟩,fun hok=>⟨i64 (by omega),⟨rfl,by omega,by omega,fun i hi=>?_⟩,by simp only[];omega⟩⟩
   ·congr 1
    symm
    have hno:okC ((zfw s).getD k.toNat 0)=false:=by
     unfold okC
     generalize (zfw s).getD k.toNat 0=b at hbad
     simp;omega
    have:(zfw s).all okC=false:=by
     rw[List.all_eq_false]
     exact⟨_,zaq (zfw s) 0 (i:=k.toNat) (by omega),by rw[hno];simp⟩
    unfold lbB
    simp[this]
   ·by_cases hik:(i:Int)<k
    ·exact hall i hik
    ·obtain rfl:i=k.toNat:=by omega
     unfold okC
     generalize (zfw s).getD k.toNat 0=b at hok
     simp;omega
  ·congr 1
   symm
   have:(zfw s).all okC=true:=by
    rw[List.all_eq_true]
    intro x hx
    obtain⟨i,hi,rfl⟩:=List.getElem_of_mem hx
    have:=hall i (by omega)
    simpa[List.getD_eq_getElem?_getD,hi] using this
   unfold lbB
   simp only[this,Bool.and_true,Bool.and_eq_true,decide_eq_true_eq]
   exact⟨⟨⟨hp,by omega⟩,h3⟩,h4⟩
theorem zJj:∀(t:AT)(p:Option Addr)(c:Nat)(w:World),IsT w t p c->WfA t->FnP Tryz.prog zhj #[av t p c] w fun v w'=>Ext w w'/\v=.int .i64 (zJg t):=by
 intro t
 induction t using AT.ind with
 |h k key val n xs ih =>
  intro p c w hT hW
  have hlen:=hW.len
  refine zvh k key val n p xs.length c w _ fun b0 _=>?_
  refine⟨fun m k2 w'=>w'=w/\0<=k2/\k2<=xs.length/\zEZ (xs.drop k2.toNat) m=zEZ xs 1,fun _ k2 _=>(xs.length-k2).toNat,⟨rfl,by omega,by omega,rfl⟩,?_⟩
  rintro m k2 w ⟨rfl,hk0,hk1,hc⟩
  refine⟨fun hlt=>?_,fun hge w5 h5=>⟨h5,?_⟩⟩
  ·obtain⟨x,p',c',hx,hmem,hIx,hp,hp5,g0,g1,g2,g3,g4⟩:=hT.at hk0 (by exact hlt)
   have hx:xs[k2.toNat]?=some x:=hx
   refine⟨hp,hk0,hlt,hp5,_,g0,_,g1,_,g2,_,g3,_,_,_,g4,fun b12 _ w13 h13=>?_⟩
   refine(ih x hmem p' c' w13 (hIx.ext h13 _ _ _) (hW.sub x hmem)).mono fun v w14 ⟨e14,hv⟩=>⟨e14,_,hv,i64 (by have hlen:xs.length<=9223372036854775807:=hlen;omega),⟨rfl,by omega,by omega,?_⟩,by simp only[];omega⟩
   rw[<-hc,show(k2+1).toNat=k2.toNat+1 by omega]
   obtain⟨hi,he⟩:=List.getElem?_eq_some_iff.1 hx
   rw[List.drop_eq_getElem_cons hi,he]
   show _=zEZ (x::xs.drop (k2.toNat+1)) m
   rw[zEZ]
  ·have hd:xs.drop k2.toNat=[]:=List.drop_of_length_le (by omega)
   rw[hd] at hc
   unfold zJg
   rw[<-hc,zEZ]
theorem unit_k(s:ByteArray)(w:World):FnP Tryz.prog zmk #[.string s] w fun v w'=>Ext w w'/\v=.bool (unB s) :=
 zxB s w _ fun w0 h0=>⟨h0,rfl⟩
theorem zJf:∀(t:AT)(p:Option Addr)(c:Nat)(w:World),IsT w t p c->WfA t->FnP Tryz.prog zhi #[av t p c] w fun v w'=>Ext w w'/\v=.int .i64 (zeO t):=by
 intro t
 induction t using AT.ind with
 |h k key val n xs ih =>
  intro p c w hT hW
  have hlen:xs.length<=9223372036854775807:=hW.len
  have hWn:=hW
  unfold WfA at hWn
  obtain⟨hk,hkey,hval,hn,_,_⟩:=hWn
  have E:zeO (.mk k key val n xs)=if zk6 k key val n xs.length≠0 then zk6 k key val n xs.length else zAD xs:=by rw[zeO]
  rw[E]
  have bad:∀e:Int,zk6 k key val n xs.length=e->e≠0->∀w1,Ext w w1->Ext w w1/\Value.int .i64 e=.int .i64 (if zk6 k key val n xs.length≠0 then zk6 k key val n xs.length else zAD xs):=fun e he hne w1 h1=>⟨h1,by rw[he,if_pos hne]⟩
  refine zvg k key val n p xs.length c w _ fun b0 _=>⟨fun hb w1 h1=>bad 1 (by unfold zk6;rw[if_pos hb]) (by omega) w1 h1,fun hg=>?_⟩
  have hr:¬(k<1\/6<k):=by omega
  refine⟨fun i b w'=>w'=w/\i=zfT k/\(b=true↔k<4),?_,?_⟩
  ·have h5:k=5->(w=w/\((0:Int)+1)+1=zfT k/\(false=true↔k<4)):=fun h=>⟨rfl,by unfold zfT;rw[if_pos (.inl h)];rfl,by simp;omega⟩
   have h6:k=6->(w=w/\((0:Int)+1)+1=zfT k/\(false=true↔k<4)):=fun h=>⟨rfl,by unfold zfT;rw[if_pos (.inr h)];rfl,by simp;omega⟩
   have h4:k=4->(w=w/\(0:Int)+1=zfT k/\(false=true↔k<4)):=fun h=>⟨rfl,by unfold zfT;rw[if_neg (by omega),if_pos h];rfl,by simp;omega⟩
   have h0:k≠4->k≠5->k≠6->(w=w/\(0:Int)=zfT k/\(true=true↔k<4)):=fun h4 h5 h6=>⟨rfl,by unfold zfT;rw[if_neg (by omega),if_neg h4];rfl,by simp;omega⟩
   exact⟨fun h=>⟨fun _=>⟨i64 (by omega),i64 (by omega),h5 h⟩,fun hn=>absurd h hn⟩,fun hn5=>⟨fun h=>⟨i64 (by omega),i64 (by omega),h6 h⟩,fun hn6=>⟨fun h=>⟨i64 (by omega),h4 h⟩,fun hn4=>h0 hn4 hn5 hn6⟩⟩⟩
  rintro i b w ⟨rfl,rfl,hb⟩
  refine⟨fun hbd w5 h5=>bad 1 ?_ (by omega) w5 h5,fun hok=>?_⟩
  ·unfold zk6
   rw[if_neg hr]
   by_cases hl:xs.length=zfT k
   ·rw[if_neg (by simpa using hl),if_pos]
    rcases hbd with ((h|⟨h,h'⟩)|⟨h,h'⟩)|⟨h,h'⟩
    ·omega
    ·left
     refine⟨?_,h'⟩
     cases b
     ·simp at hb;exact hb
     ·cases h
    ·right;left;exact⟨h,h'⟩
    ·right;right;exact⟨h,h'⟩
   ·rw[if_pos hl]
  ·obtain⟨⟨⟨hl,hke⟩,hva⟩,hnn⟩:=hok
   have hl':xs.length=zfT k:=by omega
   have h2:¬xs.length≠zfT k:=by simpa using hl'
   have h3:¬((4<=k/\key≠emS)\/(k≠2/\val≠emS)\/(k≠3/\n≠0)):=by
    rintro (⟨h,h'⟩|⟨h,h'⟩|⟨h,h'⟩)
    ·rcases hke with hk'|hk'
     ·have:=hb.1 hk';omega
     ·exact h' hk'
    ·rcases hva with hv'|hv'
     ·exact h hv'
     ·exact h' hv'
    ·rcases hnn with hn'|hn'
     ·exact h hn'
     ·exact h' hn'
   have e3:((k=3/\unB key=false)\/((k=1\/k=2)/\lbB key=false)\/(k=2/\lbB val=false))->zk6 k key val n xs.length=3:=fun h=>by
    unfold zk6;rw[if_neg hr,if_neg h2,if_neg h3,if_pos h]
   have e4:¬((k=3/\unB key=false)\/((k=1\/k=2)/\lbB key=false)\/(k=2/\lbB val=false))->(n<0\/1099511627776<n)->zk6 k key val n xs.length=4:=fun h h'=>by
    unfold zk6;rw[if_neg hr,if_neg h2,if_neg h3,if_neg h,if_pos h']
   have e0:¬((k=3/\unB key=false)\/((k=1\/k=2)/\lbB key=false)\/(k=2/\lbB val=false))->¬(n<0\/1099511627776<n)->zk6 k key val n xs.length=0:=fun h h'=>by
    unfold zk6;rw[if_neg hr,if_neg h2,if_neg h3,if_neg h,if_neg h']
   refine⟨fun w'=>w'=w/\zk6 k key val n xs.length=0,?_,?_⟩
   ·refine⟨fun hk3 w7 h7=>?_,fun hk3=>⟨fun hk12 w7 h7=>?_,fun hk12=>⟨fun h2=>by omega,fun hk2=>⟨fun hb4 w7 h7=>bad 4 (e4 ?_ hb4) (by omega) w7 h7,fun hg4=>⟨rfl,e0 ?_ (by omega)⟩⟩⟩⟩⟩
    ·refine(unit_k key w7).mono fun v w8 ⟨e8,hv⟩=>⟨e8,_,hv,fun hf=>⟨fun _ w10 h10=>bad 3 (e3 (.inl ⟨hk3,hf⟩)) (by omega) w10 h10,fun ht=>by rw[hf] at ht;cases ht⟩,fun ht=>⟨fun hk12=>by omega,fun _=>⟨fun h2=>by omega,fun hk2=>⟨fun hb4 w10 h10=>bad 4 (e4 ?_ hb4) (by omega) w10 h10,fun hg4=>⟨rfl,e0 ?_ (by omega)⟩⟩⟩⟩⟩
     all_goals
      rintro (⟨_,h⟩|⟨h,_⟩|⟨h,_⟩)
      ·rw[ht] at h;cases h
      ·omega
      ·omega
    ·refine(zgq key hkey w7).mono fun v w8 ⟨e8,hv⟩=>⟨e8,_,hv,fun hf=>⟨fun _ w10 h10=>bad 3 (e3 (.inr (.inl ⟨hk12,hf⟩))) (by omega) w10 h10,fun ht=>by rw[hf] at ht;cases ht⟩,fun ht=>⟨fun hk2 w10 h10=>?_,fun hk2=>⟨fun hb4 w10 h10=>bad 4 (e4 ?_ hb4) (by omega) w10 h10,fun hg4=>⟨rfl,e0 ?_ (by omega)⟩⟩⟩⟩
     ·refine(zgq val hval w10).mono fun v w11 ⟨e11,hv⟩=>⟨e11,_,hv,fun hf=>fun w13 h13=>bad 3 (e3 (.inr (.inr ⟨hk2,hf⟩))) (by omega) w13 h13,fun ht2=>⟨fun hb4 w13 h13=>bad 4 (e4 ?_ hb4) (by omega) w13 h13,fun hg4=>⟨rfl,e0 ?_ (by omega)⟩⟩⟩
      all_goals
       rintro (⟨h,_⟩|⟨_,h⟩|⟨_,h⟩)
       ·omega
       ·rw[ht] at h;cases h
       ·rw[ht2] at h;cases h
     all_goals
      rintro (⟨h,_⟩|⟨_,h⟩|⟨h,_⟩)
      ·omega
      ·rw[ht] at h;cases h
      ·omega
    all_goals
     rintro (⟨h,_⟩|⟨h,_⟩|⟨h,_⟩)
     ·omega
     ·omega
     ·omega
   ·rintro w ⟨rfl,herr⟩
    rw[herr,if_neg (by omega)]
    refine⟨fun k2 w'=>w'=w/\0<=k2/\k2<=xs.length/\∀(j:Nat)(y:AT),(j:Int)<k2->xs[j]?=some y->zeO y=0,fun k2 _=>(xs.length-k2).toNat,⟨rfl,by omega,by omega,fun j y hj=>by omega⟩,?_⟩
    rintro k2 w ⟨rfl,hk0,hk1,hall⟩
    refine⟨fun hlt=>?_,fun hge w10 h10=>⟨h10,?_⟩⟩
    ·obtain⟨x,p',c',hx,hmem,hIx,hp,hp5,g0,g1,g2,g3,g4⟩:=hT.at hk0 (by exact hlt)
     have hx:xs[k2.toNat]?=some x:=hx
     refine⟨hp,hk0,hlt,hp5,_,g0,_,g1,_,g2,_,g3,_,_,_,g4,fun b17 _ w18 h18=>?_⟩
     refine(ih x hmem p' c' w18 (hIx.ext h18 _ _ _) (hW.sub x hmem)).mono fun v w19 ⟨e19,hv⟩=>⟨e19,_,hv,fun hne w21 h21=>⟨h21,?_⟩,fun he=>⟨i64 (by omega),⟨rfl,by omega,by omega,fun j y hj hy=>?_⟩,by simp only[];omega⟩⟩
     ·rw[zrI hx (fun j y hj hy=>hall j y (by omega) hy) hne]
     ·by_cases hjk:(j:Int)<k2
      ·exact hall j y hjk hy
      ·obtain rfl:j=k2.toNat:=by omega
       rw[hx] at hy;obtain rfl:=Option.some.inj hy
       exact he
    ·rw[zpe.2 fun x hx=>?_]
     obtain⟨j,hj,rfl⟩:=List.getElem_of_mem hx
     exact hall j _ (by omega) (List.getElem?_eq_getElem hj)
theorem zoR(t:AT)(p:Option Addr)(c:Nat)(w:World)(hT:IsT w t p c)(hW:WfA t):FnP Tryz.prog zec #[av t p c] w fun v w'=>Ext w w'/\v=.int .i64 (zmi t):=by
 refine zvd t.k t.key t.val t.n p t.xs.length c w _ fun b0 _ w1 h1=>?_
 refine(zJj t p c w1 (hT.ext h1 _ _ _) hW).mono fun v w2 ⟨e2,hv⟩=>⟨e2,_,hv,fun hgt w4 h4=>⟨h4,?_⟩,fun hle w4 h4=>?_⟩
 ·unfold zmi;rw[if_pos hgt]
 ·refine(zJf t p c w4 (hT.ext h4 _ _ _) hW).mono fun v w5 ⟨e5,hv⟩=>⟨e5,_,hv,fun w7 h7=>⟨h7,?_⟩⟩
  unfold zmi;rw[if_neg (by omega)]
theorem zKU{w0:World}{f:Value}{at_:AT->Bool}(hf:∀(y:AT)(p:Option Addr)(c:Nat)(w:World),Ext w0 w->IsT w y p c->zeO y=0->y.k<4->zil Tryz.prog f [av y p c] w fun v w'=>Ext w w'/\v=.bool (at_ y)) :
  ∀(t:AT)(p:Option Addr)(c:Nat)(w:World),Ext w0 w->IsT w t p c->zeO t=0->FnP Tryz.prog zci #[av t p c,f] w fun v w'=>Ext w w'/\v=.bool (zwy at_ t):=by
 intro t
 induction t using AT.ind with
 |h k key val n xs ih =>
  intro p c w hx0 hT he
  obtain⟨h1,hsub⟩:=zgX he
  have hlen:xs.length=zfT k:=zsB h1
  have hin:¬(k<1\/6<k):=fun hb=>by
   have h1:zk6 k key val n xs.length=0:=h1
   unfold zk6 at h1;rw[if_pos hb] at h1;omega
  have V:zwy at_ (.mk k key val n xs)=if k=4 then !(xs.map (zwy at_)).getD 0 false else if k=5 then (xs.map (zwy at_)).getD 0 false&&(xs.map (zwy at_)).getD 1 false else if k=6 then (xs.map (zwy at_)).getD 0 false||(xs.map (zwy at_)).getD 1 false else at_ (.mk k key val n xs):=by
   rw[zwy,zHx]
  rw[V]
  have sub:∀(i:Int),0<=i->i<xs.length->∃x p' c',(xs.map (zwy at_)).getD i.toNat false=zwy at_ x/\p≠none/\pIdx p i 5≠none/\Go.Sx.cell w (pIdx p i 5) 0=some (.int .i64 x.k)/\Go.Sx.cell w (pIdx p i 5) 1=some (.string x.key)/\Go.Sx.cell w (pIdx p i 5) 2=some (.string x.val) /\
    Go.Sx.cell w (pIdx p i 5) 3=some (.int .i64 x.n)/\Go.Sx.cell w (pIdx p i 5) 4=some (.slice p' x.xs.length c')/\∀w',Ext w w'->FnP Tryz.prog zci #[av x p' c',f] w' fun v w''=>Ext w' w''/\v=.bool (zwy at_ x):=fun i h0 hi=>by
   obtain⟨x,p',c',hx,hmem,hIx,hp,hp5,g0,g1,g2,g3,g4⟩:=hT.at h0 (by exact hi)
   have hx:xs[i.toNat]?=some x:=hx
   refine⟨x,p',c',?_,hp,hp5,g0,g1,g2,g3,g4,fun w' hw'=>ih x hmem p' c' w' (hx0.trans hw') (hIx.ext hw' _ _ _) (hsub x hmem)⟩
   rw[List.getD_eq_getElem?_getD,List.getElem?_map,hx];rfl
  refine zvi k key val n p xs.length c f w _ fun b0 _=>⟨fun h4=>?_,fun h4=>⟨fun h5=>?_,fun h5=>⟨fun h6=>?_,fun h6 w1 hw1=>?_⟩⟩⟩
  ·have hl:xs.length=1:=by rw[hlen];unfold zfT;rw[if_neg (by omega),if_pos h4]
   obtain⟨x,p',c',hv,hp,hp5,g0,g1,g2,g3,g4,hF⟩:=sub 0 (by omega) (by omega)
   refine⟨hp,by omega,by omega,hp5,_,g0,_,g1,_,g2,_,g3,_,_,_,g4,fun w8 h8=>(hF w8 h8).mono fun v w9 ⟨e9,hv'⟩=>⟨e9,_,hv',fun w11 h11=>⟨h11,?_⟩⟩⟩
   rw[if_pos h4,show(0:Nat)=(0:Int).toNat from rfl,hv]
  ·have hl:xs.length=2:=by rw[hlen];unfold zfT;rw[if_pos (.inl h5)]
   obtain⟨x,p',c',hv,hp,hp5,g0,g1,g2,g3,g4,hF⟩:=sub 0 (by omega) (by omega)
   obtain⟨y,q',d',hv2,hq,hq5,f0,f1,f2,f3,f4,hG⟩:=sub 1 (by omega) (by omega)
   rw[if_neg h4,if_pos h5,show(0:Nat)=(0:Int).toNat from rfl,hv,show(1:Nat)=(1:Int).toNat from rfl,hv2]
   refine⟨hp,by omega,by omega,hp5,_,g0,_,g1,_,g2,_,g3,_,_,_,g4,fun w8 h8=>(hF w8 h8).mono fun v w9 ⟨e9,hv'⟩=>⟨e9,_,hv',fun _=>hp,fun _=>by omega,fun _=>by omega,fun ht=>⟨hq5,_,f0,_,f1,_,f2,_,f3,_,_,_,f4,fun w18 h18=>(hG w18 h18).mono fun v w19 ⟨e19,hv''⟩=>⟨e19,_,hv'',fun w21 h21=>⟨h21,by rw[ht];rfl⟩⟩⟩,fun hf' w11 h11=>⟨h11,by rw[hf'];rfl⟩⟩⟩
  ·have hl:xs.length=2:=by rw[hlen];unfold zfT;rw[if_pos (.inr h6)]
   obtain⟨x,p',c',hv,hp,hp5,g0,g1,g2,g3,g4,hF⟩:=sub 0 (by omega) (by omega)
   obtain⟨y,q',d',hv2,hq,hq5,f0,f1,f2,f3,f4,hG⟩:=sub 1 (by omega) (by omega)
   rw[if_neg h4,if_neg h5,if_pos h6,show(0:Nat)=(0:Int).toNat from rfl,hv,show(1:Nat)=(1:Int).toNat from rfl,hv2]
   refine⟨hp,by omega,by omega,hp5,_,g0,_,g1,_,g2,_,g3,_,_,_,g4,fun w8 h8=>(hF w8 h8).mono fun v w9 ⟨e9,hv'⟩=>⟨e9,_,hv',fun _=>hp,fun _=>by omega,fun _=>by omega,fun ht w11 h11=>⟨h11,by rw[ht];rfl⟩,fun hf'=>⟨hq5,_,f0,_,f1,_,f2,_,f3,_,_,_,f4,fun w18 h18=>(hG w18 h18).mono fun v w19 ⟨e19,hv''⟩=>⟨e19,_,hv'',fun w21 h21=>⟨h21,by rw[hf'];rfl⟩⟩⟩⟩⟩
  ·rw[if_neg h4,if_neg h5,if_neg h6]
   obtain⟨g,cap,hv,hF⟩:=hf (.mk k key val n xs) p c w1 (hx0.trans hw1) (hT.ext hw1 _ _ _) he (by show k<4;omega)
   exact⟨g,cap,hv,hF.mono fun v w2 ⟨e2,hv'⟩=>⟨e2,_,hv',fun w4 hw4=>⟨hw4,rfl⟩⟩⟩
structure Lb where
 key:ByteArray
 val:ByteArray
deriving Inhabited
abbrev zsy(x:Lb):List Value:=[.string x.key,.string x.val]
abbrev Lbs(w:World)(p:Option Addr)(L:List Lb):Prop:=zfQ 2 zsy w p L
structure Ht where
 name:ByteArray
 labels:List Lb
 has:Nd
 used:Nd
deriving Inhabited
abbrev zE3(h:Ht)(p:Option Addr)(c:Nat):List Value:=[.string h.name,.slice p h.labels.length c,.int .i64 h.has.c,.int .i64 h.has.m,.int .i64 h.has.g,.int .i64 h.used.c,.int .i64 h.used.m,.int .i64 h.used.g]
abbrev hv(h:Ht)(p:Option Addr)(c:Nat):Value:=.agg #[.string h.name,.slice p h.labels.length c,.int .i64 h.has.c,.int .i64 h.has.m,.int .i64 h.has.g,.int .i64 h.used.c,.int .i64 h.used.m,.int .i64 h.used.g]
def amt(x:Nd)(key:ByteArray):Int:=if key=zBs then x.c else if key=memS then x.m else x.g
def atH(h:Ht)(y:AT):Bool:=if y.k=3 then decide (y.n<=amt h.has y.key) else h.labels.any fun l=>decide (l.key=y.key)&&(decide (y.k=1)||decide (l.val=y.val))
theorem zFq(x:Nd)(key:ByteArray)(w:World):FnP Tryz.prog ziJ #[nv x,.string key] w fun v w'=>Ext w w'/\v=.int .i64 (amt x key) :=
 zs7 x.c x.m x.g key w _ fun b0 _=>⟨fun h w1 h1=>⟨h1,by unfold amt;rw[if_pos (show key=zBs from h)]⟩,fun h=>⟨fun h2 w1 h1=>⟨h1,by unfold amt;rw[if_neg (show ¬key=zBs from h),if_pos (show key=memS from h2)]⟩,fun h2 w1 h1=>⟨h1,by unfold amt;rw[if_neg (show ¬key=zBs from h),if_neg (show ¬key=memS from h2)]⟩⟩⟩
theorem zI5(p:Option Addr)(c:Nat)(L:List Lb)(h63:L.length<=9223372036854775807)(f:Value)(Pr:Lb->Bool)(w:World)(hL:Lbs w p L)(hf:∀e∈L,∀w',Ext w w'->zil Tryz.prog f [.agg #[.string e.key,.string e.val]] w' fun v w''=>Ext w' w''/\v=.bool (Pr e)) :
  FnP Tryz.prog zaJ #[.slice p L.length c,f] w fun v w'=>Ext w w'/\v=.bool (L.any Pr):=by
 refine zcq p L.length c f w _ fun w0 h0=>?_
 refine FnP.mono (K:=fun v w'=>Ext w0 w'/\∃t:Int,v=.int .i64 t/\(0<=t↔L.any Pr=true)) ?_ fun v w1 ⟨e1,t,hv,ht⟩=>⟨e1,t,hv,fun w3 h3=>⟨h3,by congr 1;rw[Bool.eq_iff_iff,decide_eq_true_iff];exact ht⟩⟩
 refine zcP p L.length c f w0 _ ⟨fun k w'=>w'=w0/\0<=k/\k<=L.length/\∀j:Nat,(j:Int)<k->Pr (L.getD j default)=false,fun k _=>(L.length-k).toNat,⟨rfl,by omega,by omega,fun j hj=>by omega⟩,?_⟩
 rintro k w2 ⟨rfl,hk0,hk1,hno⟩
 refine⟨fun hlt=>?_,fun hge w3 h3=>⟨h3,-1,rfl,?_⟩⟩
 ·have g0:=(hL.ext h0).idx default hk0 hlt (j:=0) rfl
  have g1:=(hL.ext h0).idx default hk0 hlt (j:=1) rfl
  have hm:=zaq L default (i:=k.toNat) (by omega)
  refine⟨fun hq=>zaj g0 (zah.2 hq),hk0,hlt,zaj g0,_,g0,_,g1,fun w5 h5=>?_⟩
  obtain⟨fn,cap,hv,hF⟩:=hf _ hm w5 (h0.trans h5)
  refine⟨fn,cap,hv,hF.mono fun v w6 ⟨e6,hv⟩=>⟨e6,_,hv,fun hy w8 h8=>⟨h8,k,rfl,?_⟩,fun hn=>⟨i64 (by omega),⟨rfl,by omega,by omega,fun j hj=>?_⟩,by simp only[];omega⟩⟩⟩
  ·exact⟨fun _=>List.any_eq_true.2 ⟨_,hm,hy⟩,fun _=>hk0⟩
  ·by_cases hjk:(j:Int)<k
   ·exact hno j hjk
   ·obtain rfl:j=k.toNat:=by omega
    exact hn
 ·refine⟨fun h=>by omega,fun h=>?_⟩
  obtain⟨e,he,hpe⟩:=List.any_eq_true.1 h
  obtain⟨i,hi,rfl⟩:=List.getElem_of_mem he
  have:=hno i (by omega)
  simp only[List.getD_eq_getElem?_getD,List.getElem?_eq_getElem hi,Option.getD_some] at this
  rw[this] at hpe;cases hpe
theorem zIF(t:AT)(p:Option Addr)(c:Nat)(h:Ht)(q:Option Addr)(d:Nat)(hl:h.labels.length<=9223372036854775807)(w:World)(hT:IsT w t p c)(hW:WfA t)(hL:Lbs w q h.labels) :
  FnP Tryz.prog zki #[av t p c,hv h q d] w fun v w'=>Ext w w'/\v=.tuple #[.bool (if zmi t=0 then zwy (atH h) t else false),.int .i64 (zmi t)]:=by
 refine zve t.k t.key t.val t.n p t.xs.length c h.name q h.labels.length d h.has.c h.has.m h.has.g h.used.c h.used.m h.used.g w _ fun b0 hb0 w1 x1=>?_
 have h1:=zaa x1
 refine zbp (t:=zdO) (by intro v hv;simp at hv;rcases hv with rfl|rfl|rfl|rfl|rfl|rfl|rfl|rfl<;>rfl) fun w2 o2 e2=>fun w3 h3=>?_
 have c2:=(o2 0 (Nat.zero_le _)).cells
 have x2:=h1.trans e2
 refine(zoR t p c w3 (hT.ext (x2.trans h3) _ _ _) hW).mono fun v w4 ⟨e4,hv⟩=>⟨e4,_,hv,fun hne w6 h6=>⟨x2.trans h6,by rw[if_neg hne]⟩,fun he w6 h6=>?_⟩
 have heA:zeO t=0:=by
  unfold zmi at he
  split at he
  ·omega
  ·exact he
 refine(zKU (w0:=w2) (at_:=atH h) (fun y py cy wy hwy hTy hey hky=>⟨zhh,#[.pointer (some ⟨w1.heap.size,0,none⟩)],rfl,?_⟩) t p c w6 h6 (hT.ext (x2.trans h6) _ _ _) heA).mono fun v w7 ⟨e7,hv⟩=>⟨e7,_,hv,fun w9 h9=>⟨x2.trans h9,by rw[if_pos he,he]⟩⟩
 have cy':=c2.ext hwy
 have hLy:=hL.ext (x2.trans hwy)
 refine(zqQ y.k y.key y.val y.n py y.xs.length cy (some ⟨w1.heap.size,0,none⟩) wy _ fun w0' h0'=>?_:FnP Tryz.prog zhh #[av y py cy,.pointer (some ⟨w1.heap.size,0,none⟩)] wy _)
 refine zbp (t:=zdN) (by intro v hv;simp at hv;rcases hv with rfl|rfl|rfl|rfl|rfl<;>rfl) fun wa oa ea=>?_
 have ca:=(oa 0 (Nat.zero_le _)).cells
 have hxa:=h0'.trans ea
 have cy2:=cy'.ext hxa
 have A:∀(i:Nat) u,(zos y py cy)[i]?=some u->Go.Sx.cell wa (pAdd (some ⟨w0'.heap.size,0,none⟩) i) 0=some u:=fun i u hu=>by rw[zak];exact ca i u hu
 refine⟨by simp,_,A 0 _ rfl,fun h3'=>⟨by simp,by simp[pAdd],_,by rw[zak];exact cy2 2 _ rfl,_,by rw[zak];exact cy2 3 _ rfl,_,by rw[zak];exact cy2 4 _ rfl,by simp,_,A 1 _ rfl,by simp,_,A 3 _ rfl,fun w8 h8=>?_⟩,fun h3'=>⟨by simp,_,_,_,by rw[zak];exact cy2 1 _ rfl,fun w6' h6'=>?_⟩⟩
 ·refine(zFq h.has y.key w8).mono fun v w9 ⟨e9,hv⟩=>⟨e9,_,hv,fun w11 h11=>⟨hxa.trans h11,?_⟩⟩
  unfold atH;rw[if_pos h3']
 ·refine(zI5 q d h.labels hl _ (fun l=>decide (l.key=y.key)&&(decide (y.k=1)||decide (l.val=y.val))) w6' (hLy.ext (hxa.trans h6')) fun e he w' hw'=>⟨zfm,#[.pointer (some ⟨w0'.heap.size,0,none⟩)],rfl,?_⟩).mono fun v w7 ⟨e7,hv⟩=>⟨e7,_,hv,fun w9 h9=>⟨hxa.trans h9,?_⟩⟩
  ·have B:∀(i:Nat) u,(zos y py cy)[i]?=some u->Go.Sx.cell w' (pAdd (some ⟨w0'.heap.size,0,none⟩) i) 0=some u:=fun i u hu=>zaz (h6'.trans hw') (A i u hu)
   show FnP Tryz.prog zfm #[.agg #[.string e.key,.string e.val],.pointer (some ⟨w0'.heap.size,0,none⟩)] w' _
   refine zn5 e.key e.val (some ⟨w0'.heap.size,0,none⟩) w' _ fun b0 _=>⟨by simp,_,B 1 _ rfl,fun _=>by simp,fun hk=>⟨_,B 0 _ rfl,fun _=>by simp,fun h1' w3' h3''=>⟨h3'',?_⟩,fun h1'=>⟨_,B 2 _ rfl,fun w4' h4'=>⟨h4',?_⟩⟩⟩,fun hk w2' h2'=>⟨h2',?_⟩⟩
   ·simp[hk,h1']
   ·simp[hk,h1']
   ·simp[hk]
  ·unfold atH;rw[if_neg h3']
abbrev opA(k:Int)(l:List AT):AT:=.mk k emS emS 0 l
theorem zIj{k:Int}(hk:0<=k/\k<=100){l:List AT}(hl:l.length<=100)(h:∀x∈l,WfA x):WfA (opA k l):=by
 unfold WfA
 exact⟨i64 (by omega),by decide,by decide,i64 (by omega),by omega,WfL.of h⟩
theorem zxn{w:World}{q:Option Addr}:∀{l:List (AT×Option Addr×Nat)} {i:Nat},(∀(j:Nat) u,(l.flatMap fun x=>zos x.1 x.2.1 x.2.2)[j]?=some u->Go.Sx.cell w q (i*5+j)=some u)->(∀x∈l,IsT w x.1 x.2.1 x.2.2)->IsL w (l.map (·.1)) q i
 |[],i,_,_ => by unfold IsL;trivial
 |x::r,i,h,hT => by
  unfold IsL
  refine⟨⟨x.2.1,x.2.2,fun j u hu=>h j u ?_,hT x (List.mem_cons_self ..)⟩,zxn (fun j u hu=>?_) fun y hy=>hT y (List.mem_cons_of_mem _ hy)⟩
  ·rw[List.flatMap_cons,List.getElem?_append_left]
   ·exact hu
   ·exact(List.getElem?_eq_some_iff.1 hu).1
  ·have:=h (5+j) u (by
    rw[List.flatMap_cons,List.getElem?_append_right (by simp[zos])]
    simpa[zos] using hu)
   rw[show(i+1)*5+j=i*5+(5+j) by omega]
   exact this
theorem zw3{b:Nat}{w0 w w':World}(h:zag [b] [] w w')(he:Ext w0 w)(hb:w0.heap.size<=b):Ext w0 w':=zav h he (by intro d hd;simp at hd;omega)
abbrev zjt:AT:=.mk 0 emS emS 0 []
theorem zld{k:Int}{key val:ByteArray}{n:Int}{xs:List AT}(h:zeO (.mk k key val n xs)=0) :
  (k=4/\∃x,xs=[x]/\zeO x=0)\/((k=5\/k=6)/\∃x y,xs=[x,y]/\zeO x=0/\zeO y=0)\/(1<=k/\k<4/\xs=[]):=by
 obtain⟨h1,hsub⟩:=zgX h
 have h1:zk6 k key val n xs.length=0:=h1
 have hsub:∀x∈xs,zeO x=0:=hsub
 have hlen:=zsB h1
 have hin:¬(k<1\/6<k):=fun hb=>by
  unfold zk6 at h1;rw[if_pos hb] at h1;omega
 unfold zfT at hlen
 by_cases h4:k=4
 ·rw[if_neg (by omega),if_pos h4] at hlen
  match xs,hlen with
  |[x],_ => exact .inl ⟨h4,x,rfl,hsub x (by simp)⟩
 ·by_cases h5:k=5\/k=6
  ·rw[if_pos h5] at hlen
   match xs,hlen with
   |[x,y],_ => exact .inr (.inl ⟨h5,x,y,rfl,hsub x (by simp),hsub y (by simp)⟩)
  ·rw[if_neg h5,if_neg h4] at hlen
   exact .inr (.inr ⟨by omega,by omega,List.length_eq_zero_iff.1 hlen⟩)
structure GP(w:World):Prop where
 pow : Lib.TabIs Tryz.prog w "internal/strconv.uint64pow10" .u64 Lib.pow10Tab
theorem GP.ext{w w':World}(g:GP w)(e:Ext w w'):GP w':=⟨zEt g.pow e⟩
theorem zBz(n:Int)(h:-9223372036854775808<=n/\n<=9223372036854775807)(w:World)(g:GP w):FnP Tryz.prog zbz #[.int .i64 n,.int .i64 10] w fun v w'=>Ext w w'/\v=.string (ofL (Lib.itoa n)) :=
 ⟨fun args w=>Tryz.call90 args w,(Tryz.strconv_FormatInt_10 n h.1 h.2 w g.pow).mono fun e w' ⟨he,k,os,hw⟩=>⟨_,he,by rw[hw];exact zmw,rfl⟩⟩
mutual
def nod:AT->Nat
 |.mk _ _ _ _ xs => 1+zj6 xs
def zj6:List AT->Nat
 |[] => 0
 |x::r => nod x+zj6 r
end
mutual
def txt:AT->List UInt8
 |.mk k key val n xs => if k=1 then 63::key.data.toList else if k=2 then key.data.toList++61::val.data.toList else if k=3 then key.data.toList++62::61::Lib.itoa n
  else if k=4 then 33::(zLi xs).headD [] else 40::((zLi xs).getD 0 []++(if k=5 then 38 else 124)::((zLi xs).getD 1 []++[41]))
def zLi:List AT->List (List UInt8)
 |[] => []
 |x::r => txt x::zLi r
end
theorem txt1(key val:ByteArray)(n:Int)(xs:List AT):txt (.mk 1 key val n xs)=63::key.data.toList:=by rw[txt,if_pos rfl]
theorem txt2(key val:ByteArray)(n:Int)(xs:List AT):txt (.mk 2 key val n xs)=key.data.toList++61::val.data.toList:=by rw[txt,if_neg (by omega),if_pos rfl]
theorem txt3(key val:ByteArray)(n:Int)(xs:List AT):txt (.mk 3 key val n xs)=key.data.toList++62::61::Lib.itoa n:=by rw[txt,if_neg (by omega),if_neg (by omega),if_pos rfl]
theorem txt4(key val:ByteArray)(n:Int)(x:AT):txt (.mk 4 key val n [x])=33::txt x:=by rw[txt,if_neg (by omega),if_neg (by omega),if_neg (by omega),if_pos rfl];simp[zLi]
theorem zHt{k:Int}(hk:k=5\/k=6)(key val:ByteArray)(n:Int)(x y:AT):txt (.mk k key val n [x,y])=40::(txt x++(if k=5 then 38 else 124)::(txt y++[41])):=by
 rw[txt,if_neg (by omega),if_neg (by omega),if_neg (by omega),if_neg (by omega)];simp[zLi]
theorem zbR{s:ByteArray}(h:lbB s=true):0<s.size/\s.size<=20:=by
 unfold lbB at h
 simp only[Bool.and_eq_true,decide_eq_true_eq] at h
 exact h.1.1.1
theorem zoM{s:ByteArray}(h:unB s=true):s.size=3:=by
 unfold unB at h
 simp only[Bool.or_eq_true,decide_eq_true_eq] at h
 rcases h with (h|h)|h<;>(rw[h];rfl)
theorem zsm{k:Int}{key val:ByteArray}{n:Int}{xs:List AT}(h:zeO (.mk k key val n xs)=0)(hk:k<4) :
  (k=1/\lbB key=true/\val=emS/\n=0)\/(k=2/\lbB key=true/\lbB val=true/\n=0)\/(k=3/\unB key=true/\val=emS/\0<=n/\n<=1099511627776):=by
 obtain⟨h1,_⟩:=zgX h
 have h1:zk6 k key val n xs.length=0:=h1
 unfold zk6 at h1
 split at h1
 ·omega
 rename_i a1
 split at h1
 ·omega
 split at h1
 ·omega
 rename_i a3
 split at h1
 ·omega
 rename_i a4
 split at h1
 ·omega
 rename_i a5
 have hk3:k=1\/k=2\/k=3:=by omega
 rcases hk3 with rfl|rfl|rfl
 ·refine .inl ⟨rfl,?_,?_,?_⟩
  ·cases hb:lbB key with
   |true => rfl
   |false => exact absurd (.inr (.inl ⟨.inl rfl,hb⟩)) a4
  ·exact Classical.byContradiction fun hv=>a3 (.inr (.inl ⟨by omega,hv⟩))
  ·exact Classical.byContradiction fun hv=>a3 (.inr (.inr ⟨by omega,hv⟩))
 ·refine .inr (.inl ⟨rfl,?_,?_,?_⟩)
  ·cases hb:lbB key with
   |true => rfl
   |false => exact absurd (.inr (.inl ⟨.inr rfl,hb⟩)) a4
  ·cases hb:lbB val with
   |true => rfl
   |false => exact absurd (.inr (.inr ⟨rfl,hb⟩)) a4
  ·exact Classical.byContradiction fun hv=>a3 (.inr (.inr ⟨by omega,hv⟩))
 ·refine .inr (.inr ⟨rfl,?_,?_,by omega,by omega⟩)
  ·cases hb:unB key with
   |true => rfl
   |false => exact absurd (.inl ⟨rfl,hb⟩) a4
  ·exact Classical.byContradiction fun hv=>a3 (.inr (.inl ⟨by omega,hv⟩))
theorem ziV(s:ByteArray):s.data.toList.length=s.size:=by simp
theorem ztE:∀t:AT,zeO t=0->(txt t).length<=50*nod t:=by
 intro t
 induction t using AT.ind with
 |h k key val n xs ih =>
  intro h
  rcases zld h with⟨rfl,x,rfl,hx⟩|⟨hk,x,y,rfl,hx,hy⟩|⟨hk1,hk4,rfl⟩
  ·have:=ih x (by simp) hx
   rw[txt4]
   simp only[nod,zj6,List.length_cons];omega
  ·have h1:=ih x (by simp) hx
   have h2:=ih y (by simp) hy
   rw[zHt hk]
   simp only[nod,zj6,List.length_cons,List.length_append,List.length_nil];omega
  ·rcases zsm h hk4 with⟨rfl,a,b,c⟩|⟨rfl,a,b,c⟩|⟨rfl,a,b,c,d⟩
   ·have:=zbR a
    rw[txt1];simp only[nod,zj6,List.length_cons,ziV];omega
   ·have h1:=zbR a
    have h2:=zbR b
    rw[txt2];simp only[nod,zj6,List.length_cons,List.length_append,ziV];omega
   ·have h1:=zoM a
    have h2:=Lib.itoa_length_le n (by omega) (by omega)
    rw[txt3];simp only[nod,zj6,List.length_cons,List.length_append,ziV];omega
theorem text_k:∀(t:AT)(p:Option Addr)(c:Nat)(w:World),IsT w t p c->zeO t=0->nod t<=1099511627776->GP w->FnP Tryz.prog zdw #[av t p c] w fun v w'=>Ext w w'/\v=.string (ofL (txt t)):=by
 intro t
 induction t using AT.ind with
 |h k key val n xs ih =>
  intro p c w hT h hN g
  refine zxA k key val n p xs.length c w _ fun b0 _=>?_
  rcases zld h with⟨rfl,x,rfl,hx⟩|⟨hk,x,y,rfl,hx,hy⟩|⟨hk1,hk4,rfl⟩
  ·obtain⟨x',p',c',e1,_,hT',np,np5,g0,g1,g2,g3,g4⟩:=hT.at (k:=0) (by omega) (by show(0:Int)<((1:Nat):Int);omega)
   have:x'=x:=by have h':[x][0]?=some x':=e1;simpa using h'.symm
   subst this
   have hn:nod x'<=1099511627776:=by simp only[nod,zj6] at hN;omega
   have hl:=ztE x' hx
   refine⟨fun h=>by omega,fun _=>⟨fun h=>by omega,fun _=>⟨fun h=>by omega,fun _=>⟨fun _=>⟨np,by omega,by simp,np5,_,g0,_,g1,_,g2,_,g3,_,_,_,g4,fun w8 h8=>(ih x' (by simp) p' c' w8 (hT'.ext h8) hx hn (g.ext h8)).mono fun v w9 ⟨e9,hv⟩=>⟨e9,_,hv,?_,fun w11 h11=>⟨h11,?_⟩⟩⟩,fun h=>absurd rfl h⟩⟩⟩⟩
   ·unfold zdl;rw[zas];show 1+_<=_;omega
   ·rw[txt4,<-zcb ((⟨#[33]⟩:ByteArray)++_),zgW];rfl
  ·obtain⟨x',p',c',e1,_,hT',np,np5,g0,g1,g2,g3,g4⟩:=hT.at (k:=0) (by omega) (by show(0:Int)<((2:Nat):Int);omega)
   have:x'=x:=by have h':[x,y][0]?=some x':=e1;simpa using h'.symm
   subst this
   obtain⟨y',p2,c2,e2,_,hT2,np2,np52,q0,q1,q2,q3,q4⟩:=hT.at (k:=1) (by omega) (by show(1:Int)<((2:Nat):Int);omega)
   have:y'=y:=by have h':[x',y][1]?=some y':=e2;simpa using h'.symm
   subst this
   have hn1:nod x'<=1099511627776:=by simp only[nod,zj6] at hN;omega
   have hn2:nod y'<=1099511627776:=by simp only[nod,zj6] at hN;omega
   have hl1:=ztE x' hx
   have hl2:=ztE y' hy
   have hcat:∀m:UInt8,(((((⟨#[40]⟩:ByteArray)++ofL (txt x'))++(⟨#[m]⟩:ByteArray))++ofL (txt y'))++(⟨#[41]⟩:ByteArray))=ofL (40::(txt x'++m::(txt y'++[41]))):=fun m=>by
    rw[<-zcb (((((⟨#[40]⟩:ByteArray)++ofL (txt x'))++(⟨#[m]⟩:ByteArray))++ofL (txt y'))++(⟨#[41]⟩:ByteArray)),zgW,zgW,zgW,zgW]
    simp[ofL]
   have s1:∀m:UInt8,(⟨#[m]⟩:ByteArray).size=1:=fun _=>rfl
   refine⟨fun h=>by omega,fun _=>⟨fun h=>by omega,fun _=>⟨fun h=>by omega,fun _=>⟨fun h=>by omega,fun _=>⟨fun h5=>?_,fun h5=>?_⟩⟩⟩⟩⟩
   all_goals refine⟨np,by omega,by simp,np5,_,g0,_,g1,_,g2,_,g3,_,_,_,g4,np,by omega,by simp,np52,_,q0,_,q1,_,q2,_,q3,_,_,_,q4,fun w15 h15=>(ih x' (by simp) p' c' w15 (hT'.ext h15) hx hn1 (g.ext h15)).mono fun v w16 ⟨e16,hv⟩=>⟨e16,_,hv,?_,?_,fun w18 h18=>(ih y' (by simp) p2 c2 w18 (hT2.ext h18) hy hn2 (g.ext h18)).mono fun v w19 ⟨e19,hv⟩=>⟨e19,_,hv,?_,?_,fun w21 h21=>⟨h21,?_⟩⟩⟩⟩
   all_goals first
    |(rw[hcat,zHt hk];simp[h5])
    |(unfold zdl;simp only[ByteArray.size_append,s1,zas];omega)
  ·rcases zsm h hk4 with⟨rfl,a,b,c'⟩|⟨rfl,a,b,c'⟩|⟨rfl,a,b,c',d⟩
   ·have hs:=zbR a
    refine⟨fun _=>⟨?_,fun w1 h1=>⟨h1,?_⟩⟩,fun h=>absurd rfl h⟩
    ·unfold zdl;show 1+_<=_;omega
    ·rw[txt1,<-zcb ((⟨#[63]⟩:ByteArray)++_),zgW];rfl
   ·have hs:=zbR a
    have hs2:=zbR b
    refine⟨fun h=>by omega,fun _=>⟨fun _=>⟨?_,?_,fun w1 h1=>⟨h1,?_⟩⟩,fun h=>absurd rfl h⟩⟩
    ·unfold zdl;show _+1<=_;omega
    ·unfold zdl;rw[ByteArray.size_append];show _+1+_<=_;omega
    ·rw[txt2,<-zcb ((key++(⟨#[61]⟩:ByteArray))++val),zgW,zgW];simp
   ·have hs:=zoM a
    have hil:=Lib.itoa_length_le n (by omega) (by omega)
    refine⟨fun h=>by omega,fun _=>⟨fun h=>by omega,fun _=>⟨fun _=>⟨?_,fun w1 h1=>(zBz n (by omega) w1 (g.ext h1)).mono fun v w2 ⟨e2,hv⟩=>⟨e2,_,hv,?_,fun w4 h4=>⟨h4,?_⟩⟩⟩,fun h=>absurd rfl h⟩⟩⟩
    ·unfold zdl;show _+2<=_;omega
    ·unfold zdl;rw[ByteArray.size_append,zas];show _+2+_<=_;omega
    ·rw[txt3,<-zcb ((key++(⟨#[62,61]⟩:ByteArray))++_),zgW,zgW];simp[ofL]
end Go.Proofs.YtcceeahmcecbnaaGreatDoor
namespace Go.Proofs
open Go.Shelf Go.RowKit Go.Lib
variable {P:Program} {ρ:Ren}
theorem zuc(w:World)(n:Nat):Below w.heap.size w (w.drewN n):=⟨rfl,rfl,rfl,Nat.le_refl _,fun _ _=>rfl⟩
theorem zuJ{l:List UInt8}{x:UInt8}(h:∀y∈l,y≠x):Lib.indexByte l x=-1:=by
 have hcon:=Lib.contains_iff_indexByte l x
 have:l.contains x=false:=by
  cases hc:l.contains x with
  |false => rfl
  |true => exact absurd rfl (h x (by simpa using hc))
 rw[this] at hcon
 have h2:=of_decide_eq_false hcon.symm
 have h3:=Lib.indexByte_ge l x
 omega
set_option maxHeartbeats 4000000 in
set_option maxRecDepth 1000000 in
theorem Any.IndexRune_err (L:Lays.n152 P ρ) (s:ByteArray) (w:World) (hascii:∀(j:Nat) b,s.data.toList[j]?=some b->b.toNat<128) :
  Calls P (ρ.f 152) #[.string s,.int .i32 65533] w fun e w'=>e=.returned (.int .i64 (-1))/\Below w.heap.size w w':=by
 have HA:Aside (∀(j:Nat) b,s.data.toList[j]?=some b->b.toNat<128):=hascii
 clear hascii
 have t3:=L.t3;have a3:=L.a3;have z3:=L.z3;have v3:=L.v3
 have t4:=L.t4;have a4:=L.a4;have z4:=L.z4;have v4:=L.v4
 have t5:=L.t5;have a5:=L.a5;have z5:=L.z5;have v5:=L.v5
 have t9:=L.t9;have a9:=L.a9;have z9:=L.z9;have v9:=L.v9
 have t21:=L.t21;have a21:=L.a21;have z21:=L.z21;have v21:=L.v21
 have e137:∀args w,(callFunc (ρ.f 137) args).run P w=.ok (.enter (ρ.f 137) args) w:=enters_of L.f137 (by kernel_rfl) rfl
 go_enter L.f152,Body.n152_ntmps ρ
 go_wp2
 go_loopg [5,6] s.size (fun g _ _ wx=>∃i:Nat,i+g=s.size/\wx=w.iter s i)
 case atStart=>exact⟨0,by omega,rfl⟩
 case round =>
  obtain⟨i,hig,rfl⟩:=hrel
  cases gk with
  |zero =>
   obtain rfl:i=s.size:=by omega
   have hnx:=run_next_end (P:=P) w s s.size
   go_wp2
   go_ret
   exact⟨rfl,(Below.refl w.heap.size w).alloc (Nat.le_refl _) _⟩
  |succ g =>
   have hi:i<s.size:=by omega
   obtain⟨x,hx⟩:∃x:UInt8,s[i]'hi=x:=⟨_,rfl⟩
   have hxl:s.data.toList[i]?=some x:=by rw[<-hx];exact Lib.data_getElem? s i hi
   have hx128:x.toNat<128:=HA.out i x hxl
   have hnx:=fun ty=>run_next_ascii (P:=P) w s i ty hi (by rw[hx];exact hx128)
   rw[hx] at hnx
   have hne:((x.toNat:Int)==65533)=false:=beq_eq_false_iff_ne.2 (by omega)
   clear hxl hx
   go_wp2
   go_roundg g
   case measure=>omega
   case rel=>exact⟨i+1,by omega,rfl⟩
set_option maxHeartbeats 8000000 in
set_option maxRecDepth 1000000 in
theorem Any.IndexRune_high (L:Lays.n152 P ρ) (s:ByteArray) (r:Int) (w:World) (hr:128<=r) (hne:r≠65533) (hascii:∀(j:Nat) b,s.data.toList[j]?=some b->b.toNat<128) :
  Calls P (ρ.f 152) #[.string s,.int .i32 r] w fun e w'=>e=.returned (.int .i64 (-1))/\Below w.heap.size w w':=by
 have HA:Aside (∀(j:Nat) b,s.data.toList[j]?=some b->b.toNat<128):=hascii
 clear hascii
 have t3:=L.t3;have a3:=L.a3;have z3:=L.z3;have v3:=L.v3
 have t4:=L.t4;have a4:=L.a4;have z4:=L.z4;have v4:=L.v4
 have t5:=L.t5;have a5:=L.a5;have z5:=L.z5;have v5:=L.v5
 have t9:=L.t9;have a9:=L.a9;have z9:=L.z9;have v9:=L.v9
 have t21:=L.t21;have a21:=L.a21;have z21:=L.z21;have v21:=L.v21
 have e137:∀args w,(callFunc (ρ.f 137) args).run P w=.ok (.enter (ρ.f 137) args) w:=enters_of L.f137 (by kernel_rfl) rfl
 have e119:∀args w,(callFunc (ρ.f 119) args).run P w=.ok (.enter (ρ.f 119) args) w:=enters_of L.f119 (by kernel_rfl) rfl
 have h1:decide (r<128)=false:=decide_eq_false (by omega)
 have h2:(r==65533)=false:=beq_eq_false_iff_ne.2 hne
 go_enter L.f152,Body.n152_ntmps ρ
 cases hv:Lib.validRune r with
 |false =>
  go_wp2_with (go_at_fn (ρ.f 119);refine(Any.utf8_ValidRune { L with } _ _).mono ?_;rintro e w' ⟨rfl,hw⟩;rw[hw,hv])
  go_ret
  exact⟨rfl,Below.refl _ _⟩
 |true =>
  go_wp2_with (go_at_fn (ρ.f 119);refine(Any.utf8_ValidRune { L with } _ _).mono ?_;rintro e w' ⟨rfl,hw⟩;rw[hw,hv])
  obtain⟨he2,he4,hlast⟩:=encode_facts r (by rw[validRune_eq];exact hv) hr
  generalize hgE:Utf8.encode r=E at he2 he4 hlast
  have HL:Aside (∀h:E.size-1<E.size,128<=(E[E.size-1]'h).toNat):=hlast
  clear hlast
  have hw1:wrap64 ((E.size:Int)-1)=(E.size:Int)-1:=by
   simp only[wrap64];omega
  go_step3
  go_wp2
  go_loopg [9] 1 (fun g s9 wx=>s9=.int .i64 ((E.size:Int)-1)/\wx=w)
  case atStart=>exact⟨rfl,rfl⟩
  case round =>
   obtain⟨rfl,rfl⟩:=hrel
   by_cases hlt:E.size-1<s.size
   ·have hd:decide ((E.size:Int)-1<(s.size:Int))=true:=decide_eq_true (by omega)
    have mixed:=L.mixed
    obtain⟨x,hx⟩:∃x:UInt8,s[E.size-1]'hlt=x:=⟨_,rfl⟩
    obtain⟨y,hy⟩:∃y:UInt8,E[E.size-1]'(by omega)=y:=⟨_,rfl⟩
    have hx128:x.toNat<128:=by rw[<-hx];exact HA.out (E.size-1) _ (Lib.data_getElem? s (E.size-1) hlt)
    have hy128:128<=y.toNat:=by rw[<-hy];exact HL.out _
    have hix:∀w,(Instr.index (ρ.t 9) (.string s) (.int .i64 ((E.size:Int)-1))).run P w=.ok (.int .u8 x.toNat) w:=fun w=>by
     rw[run_index_string (h:=t9),dif_pos ⟨by omega,by omega⟩]
     simp only[show((E.size:Int)-1).toNat=E.size-1 by omega,hx]
    have hiy:∀w,(Instr.index (ρ.t 9) (.string E) (.int .i64 ((E.size:Int)-1))).run P w=.ok (.int .u8 y.toNat) w:=fun w=>by
     rw[run_index_string (h:=t9),dif_pos ⟨by omega,by omega⟩]
     simp only[show((E.size:Int)-1).toNat=E.size-1 by omega,hy]
    have hne2:((x.toNat:Int)==(y.toNat:Int))=false:=beq_eq_false_iff_ne.2 (by omega)
    clear hx hy
    go_wp2
    go_step3
    go_wp2
    have hw2:IntKind.i64.wrap (E.size:Int)=(E.size:Int):=wrap_small _ (by omega) (by omega)
    have hsl:∀w,(Instr.slice (ρ.t 9) (.string s) (some (.int .i64 (E.size:Int))) none none).run P w=.ok (.string (s.extract E.size s.size)) w:=fun w=>by
     rw[run_slice_string_l (ht:=t9) (h0:=by omega) (h1:=by omega)];simp
    have hib:Lib.indexByte (s.extract E.size s.size).data.toList y=-1:=zuJ fun z hz=>by
     have hz':=mem_extract hz
     obtain⟨j,hj⟩:=List.getElem?_of_mem hz'
     have:=HA.out j z hj
     intro e;subst e;omega
    have hIB:∀(w:World) n,Calls P (ρ.f 137) #[.string (s.extract E.size s.size),.int .u8 y.toNat] (w.drewN n) fun e w'=>e=.returned (.int .i64 (-1))/\w'=w.drewN n:=fun w n=>(Any.strings_IndexByte { L with } _ _ _).mono fun e w' ⟨he,hw⟩=>⟨by rw[he,show((y.toNat:Int)).toNat.toUInt8=y by simp,hib],hw⟩
    go_quiet_o (fail)
    go_wp2
    go_quiet_o (first|(go_at_fn (ρ.f 137);exact(hIB _ _).mono fun e w' ⟨h1,h2⟩=>⟨h1,_,h2⟩))
    go_wp2
    rw[Exit.noGoto_ret]
    simp only[Exit.inBlock,Exit.then]
    rw[Exit.noGoto_ret]
    go_ret
    exact⟨rfl,zuc _ _⟩
   ·have hd:decide ((E.size:Int)-1<(s.size:Int))=false:=decide_eq_false (by omega)
    go_wp2
    rw[Exit.noGoto_ret]
    go_ret
    exact⟨rfl,Below.refl _ _⟩
theorem Any.IndexRune_any(L:Lays.n152 P ρ)(s:ByteArray)(r:Int)(w:World)(h0:0<=r)(hascii:∀(j:Nat) b,s.data.toList[j]?=some b->b.toNat<128) :
  Calls P (ρ.f 152) #[.string s,.int .i32 r] w fun e w'=>∃n:Int,e=.returned (.int .i64 n)/\Below w.heap.size w w':=by
 by_cases h1:r<128
 ·exact(Any.strings_IndexRune_ascii L s r w h0 h1).mono fun e w' ⟨he,hw⟩=>⟨_,he,hw▸Below.refl _ _⟩
 by_cases h2:r=65533
 ·subst h2
  exact(Any.IndexRune_err L s w hascii).mono fun e w' ⟨he,hw⟩=>⟨_,he,hw⟩
 ·exact(Any.IndexRune_high L s r w (by omega) h2 hascii).mono fun e w' ⟨he,hw⟩=>⟨_,he,hw⟩
theorem zAy(s:ByteArray)(pos:Nat)(h:pos<s.size):1<=(Utf8.decode s pos).2:=by
 by_cases ha:(s[pos]'h).toNat<128
 ·rw[decode_ascii s pos h ha];exact Nat.le_refl 1
 ·exact(decode_high s pos h (by omega)).2
set_option maxHeartbeats 8000000 in
set_option maxRecDepth 1000000 in
theorem Any.IndexAny_short_any (L:Lays.n153 P ρ) (s chars:ByteArray) (w:World) (h2:2<=chars.size) (h8:s.size<=8) (hascii:∀(j:Nat) b,chars.data.toList[j]?=some b->b.toNat<128) :
  Calls P (ρ.f 153) #[.string s,.string chars] w fun e w'=>∃n:Int,e=.returned (.int .i64 n)/\n<s.size/\Below w.heap.size w w':=by
 have HA:Aside (∀(j:Nat) b,chars.data.toList[j]?=some b->b.toNat<128):=hascii
 clear hascii
 have hemp:chars.toList.isEmpty=false:=by
  rw[Lib.toList_data]
  cases h:chars.data.toList with
  |nil => have:=Lib.size_eq chars;rw[h,List.length_nil] at this;omega
  |cons _ _ => rfl
 have hn1:((chars.size:Int)==1)=false:=beq_eq_false_iff_ne.2 (by omega)
 have h8z:decide ((8:Int)<(s.size:Int))=false:=decide_eq_false (by omega)
 have t3:=L.t3;have a3:=L.a3;have z3:=L.z3;have v3:=L.v3
 have t4:=L.t4;have a4:=L.a4;have z4:=L.z4;have v4:=L.v4
 have t5:=L.t5;have a5:=L.a5;have z5:=L.z5;have v5:=L.v5
 have t9:=L.t9;have a9:=L.a9;have z9:=L.z9;have v9:=L.v9
 have t21:=L.t21;have a21:=L.a21;have z21:=L.z21;have v21:=L.v21
 have e152:∀args w,(callFunc (ρ.f 152) args).run P w=.ok (.enter (ρ.f 152) args) w:=enters_of L.f152 (by kernel_rfl) rfl
 have e226:∀args w,(callFunc (ρ.f 226) args).run P w=.ok (.enter (ρ.f 226) args) w:=enters_of L.f226 (by kernel_rfl) rfl
 go_enter L.f153,Body.n153_ntmps ρ
 go_wp2_with (go_at_fn (ρ.f 226);refine(Any.strings_shouldUseASCIISet { L with } _ _).mono ?_;rintro e w' ⟨rfl,hw⟩;rw[hw,h8z])
 go_loopg [9,10] s.size (fun g _ _ wx=>∃i:Nat,s.size-i<=g/\wx.heap[w.heap.size]?=some (.stringIter s i)/\Below w.heap.size w wx)
 case atStart=>exact⟨0,Nat.sub_le _ _,World.iter_heap _ _ _,(Below.refl _ w).alloc (Nat.le_refl _) _⟩
 case round =>
  obtain⟨i,hig,hk,hB⟩:=hrel
  have HB:Aside (Below w.heap.size w wr):=hB
  have HK:Aside (wr.heap[w.heap.size]?=some (.stringIter s i)):=hk
  clear hB
  cases gk with
  |zero =>
   have hnx:=fun ty=>run_next_end_at (P:=P) wr w.heap.size s i ty hk (by omega)
   clear hk
   go_wp2
   go_ret
   exact⟨_,rfl,by omega,HB.out⟩
  |succ g =>
   by_cases hi:i<s.size
   ·have hnx:=fun ty=>run_next_any_at (P:=P) wr w.heap.size s i ty hk hi
    have hd:=zAy s i hi
    generalize hdd:Utf8.decode s i=d at hnx hd
    clear hdd hk
    go_wp2_with (go_at_fn (ρ.f 152);refine(Any.IndexRune_any { L with } _ _ _ (by omega) HA.out).mono ?_;rintro e w' ⟨n,rfl,hw⟩)
    ·go_ret
     exact⟨_,rfl,by omega,(below_iterAt HB.out (Nat.le_refl _) s _).trans (hw.mono (by rw[iterAt_size];exact HB.out.size))⟩
    ·go_roundg g
     case measure=>omega
     case rel =>
      refine⟨i+d.2,by omega,?_,(below_iterAt HB.out (Nat.le_refl _) s _).trans (hw.mono (by rw[iterAt_size];exact HB.out.size))⟩
      rw[hw.block _ (by rw[iterAt_size];exact(Array.getElem?_eq_some_iff.1 HK.out).1)]
      exact iterAt_heap wr w.heap.size s i _ HK.out
   ·have hnx:=fun ty=>run_next_end_at (P:=P) wr w.heap.size s i ty hk (by omega)
    clear hk
    go_wp2
    go_ret
    exact⟨_,rfl,by omega,HB.out⟩
theorem zps(chars:List UInt8):∀l:List UInt8,Lib.indexAny l chars<l.length
 |[] => by show(-1:Int)<_;simp
 |b::l => by
  have ih:=zps chars l
  unfold Lib.indexAny
  simp only[List.length_cons]
  split
  ·omega
  ·split
   ·omega
   ·omega
theorem Any.IndexAny_any(L:Lays.n153 P ρ)(h116:(P.info? (ρ.t 116)).map (fun i=>(i.zero,i.size))=some (some (.agg (Array.replicate 256 (.bool false))),256))(s chars:ByteArray)(w:World)(h2:2<=chars.size)(hs:s.size<4294967281)(hcs:chars.size<4294967281)(hac:∀(j:Nat) b,chars.data.toList[j]?=some b->b.toNat<128) :
  Calls P (ρ.f 153) #[.string s,.string chars] w fun e w'=>(∃n:Int,e=.returned (.int .i64 n)/\n<s.size/\((∀(j:Nat) b,s.data.toList[j]?=some b->b.toNat<128)->n=Lib.indexAny s.data.toList chars.data.toList))/\Below w.heap.size w w':=by
 have hlt:Lib.indexAny s.data.toList chars.data.toList<s.size:=by have:=zps chars.data.toList s.data.toList;rw[<-Lib.size_eq] at this;exact this
 by_cases h8:s.size<=8
 ·by_cases has:∀(j:Nat) b,s.data.toList[j]?=some b->b.toNat<128
  ·exact(Any.strings_IndexAny_laid L h116 s chars w hs hcs has hac).mono fun e w' ⟨he,hb⟩=>⟨⟨_,he,hlt,fun _=>rfl⟩,hb⟩
  ·exact(Any.IndexAny_short_any L s chars w h2 h8 hac).mono fun e w' ⟨n,he,hn,hb⟩=>⟨⟨n,he,hn,fun h=>absurd h has⟩,hb⟩
 ·refine(Any.strings_IndexAny_long L (zero_of_info h116).1 (zero_of_info h116).2 s chars w h2 (by omega) hs hcs hac).mono fun e w' ⟨he,hw⟩=>⟨⟨_,he,hlt,fun _=>rfl⟩,?_⟩
  rw[hw]
  exact((Below.refl _ _).alloc (Nat.le_refl _) _).alloc (by simp) _
end Go.Proofs
namespace Go.Proofs.YtcceeahmcecbnaaGreatDoor
open Go.Sx Go.RowKit
def sgs:List UInt8:=[63,61,62,33,40,41,38,124]
def sep(l:List UInt8):Prop:=l=[]\/∃x r,l=x::r/\x∈sgs
theorem zff{x:UInt8}{r:List UInt8}(h:x∈sgs):sep (x::r):=.inr ⟨x,r,rfl,h⟩
def asc(l:List UInt8):Prop:=∀b∈l,b.toNat<128
theorem asc_at{l:List UInt8}:asc l↔∀(j:Nat) b,l[j]?=some b->b.toNat<128 :=
 ⟨fun h j b hb=>h b (List.mem_of_getElem? hb),fun h b hb=>by obtain⟨j,hj⟩:=List.getElem?_of_mem hb;exact h j b hj⟩
theorem zHL{a b:List UInt8}(ha:∀x∈a,x∉sgs)(hb:sep b):(b=[]/\Lib.indexAny (a++b) sgs=-1)\/(b≠[]/\Lib.indexAny (a++b) sgs=a.length):=by
 have hno:∀j,j<=a.length->Lib.NoAny (a++b) sgs j:=fun j hj i x hi hx=>by
  rw[List.getElem?_append_left (by omega)] at hx
  have:=ha x (List.mem_of_getElem? hx)
  simpa using this
 rcases hb with rfl|⟨x,r,rfl,hx⟩
 ·exact .inl ⟨rfl,Lib.indexAny_none (by rw[List.append_nil] at hno ⊢;exact hno _ (Nat.le_refl _))⟩
 ·exact .inr ⟨by simp,Lib.indexAny_hit (x:=x) (hno _ (Nat.le_refl _)) (by simp) (by simpa using hx)⟩
theorem zAh(s:ByteArray)(hs:s.size<=2000)(w:World):FnP Tryz.prog zf4 #[.string s,.string (⟨#[63,61,62,33,40,41,38,124]⟩:ByteArray)] w fun v w'=>Ext w w'/\∃n:Int,v=.int .i64 n/\n<s.size/\(asc s.data.toList->n=Lib.indexAny s.data.toList sgs) :=
 ⟨fun args w=>Tryz.call275 args w,(Any.IndexAny_any Tryz.lays153 (by kernel_rfl) s _ w (by decide) (by omega) (by decide) (by
  intro j b hb
  have:b∈sgs:=List.mem_of_getElem? hb
  have key:∀b∈sgs,b.toNat<128:=by decide
  exact key b this)).mono fun e w' ⟨⟨n,he,hn,hv⟩,hb⟩=>⟨_,he,hb,n,rfl,hn,fun h=>hv (asc_at.1 h)⟩⟩
abbrev RD(B:Nat)(w:World)(rb:Nat)(l:List UInt8)(left:Nat):Prop:=Own B w zt4 2 (some ⟨rb,0,none⟩) 1 1 [.string (ofL l),.int .i64 left]
abbrev rp(rb:Nat):Value:=.pointer (some ⟨rb,0,none⟩)
theorem RD.lt{B:Nat}{w:World}{rb:Nat}{l:List UInt8}{left:Nat}(o:RD B w rb l left):rb<w.heap.size:=Own.size_lt o
theorem RD.cells{B:Nat}{w:World}{rb:Nat}{l:List UInt8}{left:Nat}(o:RD B w rb l left):cell w (pAdd (some ⟨rb,0,none⟩) 0) 0=some (.string (ofL l))/\cell w (pAdd (some ⟨rb,0,none⟩) 1) 0=some (.int .i64 left):=by
 have h0:cell w (some ⟨rb,0,none⟩) 0=some (.string (ofL l)):=Own.cells o 0 _ rfl
 have h1:cell w (some ⟨rb,0,none⟩) 1=some (.int .i64 left):=Own.cells o 1 _ rfl
 exact⟨by rw[zak];exact h0,by rw[zak];exact h1⟩
theorem RD.fr{B:Nat}{w w':World}{rb:Nat}{l:List UInt8}{left:Nat}{S:Nat->Prop}(o:RD B w rb l left)(k:Fr S w w')(h:¬S rb):RD B w' rb l left:=Own.fr o k fun a ha=>by obtain rfl:=Option.some.inj ha;exact h
theorem RD.put{B:Nat}{w:World}{rb:Nat}{l m:List UInt8}{left:Nat}(o:RD B w rb l left){t:ByteArray}(ht:t=ofL m){K:World->Prop}(hk:∀w',RD B w' rb m left->Fr (·=rb) w w'->K w'):zan w (pAdd (some ⟨rb,0,none⟩) 0) [.string t] [] K :=
 zaS (off:=0) o rfl (by simp) (by simp) (by intro v hv;simp at hv;subst hv;rfl) (by simp) fun w' o' g=>hk w' (by subst ht;exact o') (zaP g fun a ha=>by obtain rfl:=Option.some.inj ha;rfl)
theorem RD.left{B:Nat}{w:World}{rb:Nat}{l:List UInt8}{left:Nat}{b0:Nat}(o:RD B w rb l left)(hb:b0≠rb){x:Int}{m:Nat}(hx:x=m){K:World->Prop}(hk:∀w',RD B w' rb l m->Fr (·=rb) w w'->K w'):zan w (pAdd (some ⟨rb,0,none⟩) 1) [.int .i64 x] [b0] K :=
 zaS (off:=1) o rfl (by simp) (by simp) (by intro v hv;simp at hv;subst hv;rfl) (by intro b hb' y hy hh;simp at hb';subst hb';obtain rfl:=Option.some.inj hy;exact hb hh.symm) fun w' o' g=>hk w' (by subst hx;exact o') (zaP g fun a ha=>by obtain rfl:=Option.some.inj ha;rfl)
theorem zkg{B:Nat}{w:World}{rb:Nat}{l:List UInt8}{left:Nat}(o:RD B w rb l left)(hl:l.length<=2000)(c:UInt8)(ci:Int)(hc:ci=c.toNat) :
  FnP Tryz.prog zaf #[rp rb,.int .u8 ci] w fun v w'=>Fr (·=rb) w w'/\((∃r,l=c::r/\v=.bool true/\RD B w' rb r left)\/((∀r,l≠c::r)/\v=.bool false/\RD B w' rb l left)):=by
 subst hc
 obtain⟨g0,_⟩:=o.cells
 cases l with
 |nil =>
  refine zgg _ _ w _ ⟨by simp,by simp,_,g0,fun _=>by simp,fun _=>by simp,fun _ w1 h1=>⟨zac h1,.inr ⟨fun r=>by simp,rfl,Own.ext o h1⟩⟩,fun h=>absurd rfl h⟩
 |cons x r =>
  have hx:sAt (ofL (x::r)) 0=(x.toNat:Int):=rfl
  refine zgg _ _ w _ ⟨by simp,by simp,_,g0,fun _=>by simp,fun _=>by simp,fun h=>absurd h (by intro h;have:=congrArg (fun s:ByteArray=>s.data.toList) h;simp[ofL] at this),fun _=>⟨_,g0,Int.le_refl _,by rw[zas];simp,fun hne w2 h2=>⟨zac h2,.inr ⟨fun r' he=>?_,rfl,Own.ext o h2⟩⟩,fun he=>⟨by simp,by simp,_,g0,by omega,by rw[zas];simp;omega,Int.le_refl _,by simp,by simp,?_⟩⟩⟩
  ·rw[hx] at hne
   simp at he
   rw[he.1] at hne
   exact hne rfl
  ·rw[hx] at he
   have hxc:x=c:=UInt8.toNat_inj.1 (by omega)
   subst hxc
   refine o.put (m:=r) ?_ fun w3 o3 f3 w4 h4=>⟨f3.tr (zac h4),.inl ⟨r,rfl,rfl,Own.ext o3 h4⟩⟩
   rw[<-zcb (ByteArray.extract _ _ _)]
   congr 1
   rw[zas]
   simp[ofL]
theorem zAf{B:Nat}{w:World}{rb:Nat}{l:List UInt8}{left:Nat}(o:RD B w rb l left)(hl:l.length<=2000) :
  FnP Tryz.prog zbv #[rp rb] w fun v w'=>Fr (·=rb) w w'/\∃a b,v=.string (ofL a)/\l=a++b/\RD B w' rb b left/\(∀a0 b0,l=a0++b0->asc l->(∀x∈a0,x∉sgs)->sep b0->a=a0/\b=b0):=by
 obtain⟨g0,_⟩:=o.cells
 refine zlH _ w _ ⟨by simp,by simp,_,g0,fun w1 h1=>(zAh (ofL l) (by rw[zas];omega) w1).mono fun v w2 ⟨e2,n,hv,hn,hval⟩=>⟨e2,n,hv,fun hneg=>⟨by simp,by simp,_,g0,by simp,by simp,_,g0,Int.le_refl _,by omega,Int.le_refl _,by simp,by simp,_,g0,by omega,Int.le_refl _,Int.le_refl _,by simp,by simp,?_⟩,fun hge=>⟨by simp,by simp,_,g0,Int.le_refl _,hge,by omega,by simp,by simp,_,g0,hge,by omega,Int.le_refl _,by simp,by simp,?_⟩⟩⟩
 ·refine o.put (m:=[]) ?_ fun w3 o3 f3 w4 h4=>⟨f3.tr (zac h4),l,[],?_,by simp,Own.ext o3 h4,fun a0 b0 he hasc ha hb=>?_⟩
  ·rw[<-zcb (ByteArray.extract _ _ _)]
   congr 1
   simp[ofL]
  ·rw[<-zcb (ByteArray.extract _ _ _)]
   congr 2
   simp[ofL]
  ·have hv':=hval hasc
   rw[zcn,he] at hv'
   rcases zHL ha hb with⟨hb0,_⟩|⟨_,hq⟩
   ·subst hb0;exact⟨by rw[he,List.append_nil],rfl⟩
   ·omega
 ·have hnl:n.toNat<=l.length:=by rw[zas] at hn;omega
  refine o.put (m:=l.drop n.toNat) ?_ fun w3 o3 f3 w4 h4=>⟨f3.tr (zac h4),l.take n.toNat,l.drop n.toNat,?_,by simp,Own.ext o3 h4,fun a0 b0 he hasc ha hb=>?_⟩
  ·rw[<-zcb (ByteArray.extract _ _ _)]
   congr 1
   rw[zas]
   simp only[ByteArray.data_extract,Array.toList_extract,List.extract_eq_take_drop,ofL]
   exact List.take_of_length_le (by simp)
  ·rw[<-zcb (ByteArray.extract _ _ _)]
   congr 2
   simp[ofL]
  ·have hv':=hval hasc
   rw[zcn,he] at hv'
   rcases zHL ha hb with⟨_,hq⟩|⟨_,hq⟩
   ·omega
   ·have:n.toNat=a0.length:=by omega
    rw[this,he]
    simp
end Go.Proofs.YtcceeahmcecbnaaGreatDoor
