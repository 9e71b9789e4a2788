/- The framework, the program's texts and what is shown of them: part 3. -/
import Derived.Test.YtcceeahmcecbnaaGreatDoorWTopWaits2
import Derived.Test.YtcceeahmcecbnaaGreatDoorRows
import Derived.Orders
import Derived.WalkKit
import Derived.LaidEql
import Derived.Stop.Asserts
import Derived.RowKitTokens
import Derived.Shelf.Strings.OnBuilder
import Derived.Shelf.Strconv.Itoa0
import Derived.Shelf.Strconv.Itoa1
import Derived.Shelf.LaysM
import Derived.Shelf.Strconv.Itoa2
import Derived.Shelf.Strconv.Itoa3
import Derived.Shelf.Strconv.Itoa4
import Derived.Shelf.LaysC
import Derived.Shelf.Strconv.AtoiAll
import Derived.Shelf.Strconv.ParseIntPublic10
import Derived.Shelf.Strings.Cut
import Derived.Shelf.Strings.Split
import Derived.Shelf.Strings.IndexAny
import Derived.Shelf.Strings.IndexAnyAll
import Derived.Test.YtcceeahmcecbnaaGreatDoorProg
import Derived.Lib.ParseIntBCases
import Derived.Lib.IndexLaws
import Derived.Lib.Join
import Derived.Lib.Split
import Derived.Lib.CountLaws
import Derived.Lib.CutLaws
import Derived.Laws.Slices
set_option linter.unusedVariables false
set_option linter.unusedSimpArgs false
set_option maxRecDepth 100000
set_option linter.unusedSectionVars false
namespace Go.Proofs.YtcceeahmcecbnaaGreatDoor
open Go.Sx Go.RowKit
abbrev zki:FuncId:=69
abbrev zef:FuncId:=71
abbrev za5:FuncId:=72
abbrev zcI:FuncId:=121
abbrev zc8:FuncId:=122
abbrev zdl:FuncId:=167
abbrev zcJ:FuncId:=168
abbrev zfp:FuncId:=311
abbrev zeQ:FuncId:=312
abbrev zeS:FuncId:=313
abbrev zdo:FuncId:=314
abbrev zfq:FuncId:=315
abbrev zeR:FuncId:=316
def zoa (e:Option Addr) (b f:Nat) (c:World) (d:Value->World->Prop):Prop:=
 ∀ a,Ext c a->d (.int .i64 (b:Int)) a
theorem znX (a:Option Addr) (b c:Nat) (d:World) (e:Value->World->Prop) (h:zoa a b c d e):FnP Tryz.prog zfp #[(.slice a b c)] d e:=
 zab (Eq.mp (by kernel_rfl:_=Runs Tryz.prog e ({N:=5}:Cfg) Tryz.f311 (Tryz.f311.body.getD .skip) [.sc (.slc a b c)] d) h) Tryz.func311 (by kernel_rfl) (fun a w=>Tryz.call311 a w) (by kernel_rfl) (by kernel_rfl) rfl rfl
def zno (a:Option Addr) (j n:Nat) (d e:Int) (b:World) (m:Value->World->Prop):Prop:=
 a≠none/\(0:Int)<=d/\(d:Int)<(j:Int)/\∃ f,cell b (pIdx a d 1) 0=some (.pointer f)/\a≠none/\(0:Int)<=e/\(e:Int)<(j:Int)/\∃ g,cell b (pIdx a e 1) 0=some (.pointer g)/\∀ c,Ext b c->FnP Tryz.prog zdo #[(.pointer f),(.pointer g)] c fun k l=>Ext c l/\∃ h,k=(.bool h)/\∀ i,Ext b i->m (.bool h) i
theorem zmR (a:Option Addr) (b c:Nat) (d e:Int) (f:World) (g:Value->World->Prop) (h:zno a b c d e f g):FnP Tryz.prog zeQ #[(.slice a b c),(.int .i64 d),(.int .i64 e)] f g:=
 zab (Eq.mp (by kernel_rfl:_=Runs Tryz.prog g ({N:=16}:Cfg) Tryz.f312 (Tryz.f312.body.getD .skip) [.sc (.slc a b c),.sc (.int .i64 d),.sc (.int .i64 e)] f) h) Tryz.func312 (by kernel_rfl) (fun a w=>Tryz.call312 a w) (by kernel_rfl) (by kernel_rfl) rfl rfl
def znq (a:Option Addr) (d p:Nat) (b c:Int) (h:World) (o:Value->World->Prop):Prop:=
 a≠none/\(0:Int)<=c/\(c:Int)<(d:Int)/\∃ i,cell h (pIdx a c 1) 0=some (.pointer i)/\a≠none/\(0:Int)<=b/\(b:Int)<(d:Int)/\∃ j,cell h (pIdx a b 1) 0=some (.pointer j)/\a≠none/\(0:Int)<=b/\(b:Int)<(d:Int)/\zao h (pIdx a b 1) [(.pointer i)] [] fun l=>a≠none/\(0:Int)<=c/\(c:Int)<(d:Int)/\zao l (pIdx a c 1) [(.pointer j)] [] fun g=>a≠none/\(0:Int)<=b/\(b:Int)<(d:Int)/\∃ e,cell g (pIdx a b 1) 0=some (.pointer e)/\a≠none/\(0:Int)<=c/\(c:Int)<(d:Int)/\∃ f,cell g (pIdx a c 1) 0=some (.pointer f)/\e≠none/\e≠none/\zao g (pAdd e 3) [(.int .i64 b)] [] fun m=>f≠none/\f≠none/\zao m (pAdd f 3) [(.int .i64 c)] [] fun n=>∀ k,Ext n k->o (.tuple #[]) k
theorem zmT (a:Option Addr) (b c:Nat) (d e:Int) (f:World) (g:Value->World->Prop) (h:znq a b c d e f g):FnP Tryz.prog zeS #[(.slice a b c),(.int .i64 d),(.int .i64 e)] f g:=
 zab (Eq.mp (by kernel_rfl:_=Runs Tryz.prog g ({N:=34}:Cfg) Tryz.f313 (Tryz.f313.body.getD .skip) [.sc (.slc a b c),.sc (.int .i64 d),.sc (.int .i64 e)] f) h) Tryz.func313 (by kernel_rfl) (fun a w=>Tryz.call313 a w) (by kernel_rfl) (by kernel_rfl) rfl rfl
def ze3 (a b:Option Addr) (c:World) (h:Value->World->Prop):Prop:=
 a≠none/\a≠none/\(pAdd a 0)≠none/\∃ d,cell c (pAdd (pAdd a 0) 0) 0=some (.int .i64 d)/\b≠none/\b≠none/\(pAdd b 0)≠none/\∃ e,cell c (pAdd (pAdd b 0) 0) 0=some (.int .i64 e)/\((d<=e)->a≠none)/\((d<=e)->a≠none)/\((d<=e)->(pAdd a 0)≠none)/\((e<d)->∀ i,Ext c i->h (.bool true) i)/\((d<=e)->∃ f,cell c (pAdd (pAdd a 0) 0) 0=some (.int .i64 f)/\b≠none/\b≠none/\(pAdd b 0)≠none/\∃ g,cell c (pAdd (pAdd b 0) 0) 0=some (.int .i64 g)/\((f=g)->a≠none)/\((f=g)->a≠none)/\(((f=g)->∃ j,cell c (pAdd a 2) 0=some (.int .i64 j)/\b≠none/\b≠none/\∃ k,cell c (pAdd b 2) 0=some (.int .i64 k)/\∀ l,Ext c l->h (.bool (decide (j<k))) l))/\((f≠g)->∀ m,Ext c m->h (.bool false) m))
theorem zjR (a b:Option Addr) (c:World) (d:Value->World->Prop) (h:ze3 a b c d):FnP Tryz.prog zdo #[(.pointer a),(.pointer b)] c d:=
 zab (Eq.mp (by kernel_rfl:_=Runs Tryz.prog d ({N:=40}:Cfg) Tryz.f314 (Tryz.f314.body.getD .skip) [.sc (.ptr a),.sc (.ptr b)] c) h) Tryz.func314 (by kernel_rfl) (fun a w=>Tryz.call314 a w) (by kernel_rfl) (by kernel_rfl) rfl rfl
def zob (b:Option Addr) (c:World) (s:Value->World->Prop):Prop:=
 b≠none/\∃ m a n,cell c b 0=some (.slice m a n)/\InR .i64 ((a:Int)-1)/\b≠none/\∃ e g o,cell c b 0=some (.slice e g o)/\e≠none/\(0:Int)<=((a:Int)-1)/\(((a:Int)-1):Int)<(g:Int)/\∃ h,cell c (pIdx e ((a:Int)-1) 1) 0=some (.pointer h)/\b≠none/\∃ i p d,cell c b 0=some (.slice i p d)/\(0:Int)<=0/\(0:Int)<=((a:Int)-1)/\(((a:Int)-1):Int)<=(d:Int)/\b≠none/\zao c b [(.slice (pCut i d 0 1) (((a:Int)-1)-0).toNat (d-(0:Int).toNat))] [] fun q=>∀ f,Ext q f->Run Tryz.prog (.makeInterface 218 (.pointer h)) f fun r l=>Ext f l/\∃ j,r=j/\∀ k,Ext l k->s j k
theorem znY (a:Option Addr) (b:World) (c:Value->World->Prop) (h:zob a b c):FnP Tryz.prog zfq #[(.pointer a)] b c:=
 zab (Eq.mp (by kernel_rfl:_=Runs Tryz.prog c ({N:=25}:Cfg) Tryz.f315 (Tryz.f315.body.getD .skip) [.sc (.ptr a)] b) h) Tryz.func315 (by kernel_rfl) (fun a w=>Tryz.call315 a w) (by kernel_rfl) (by kernel_rfl) rfl rfl
def znp (a:Option Addr) (A:Value) (B:World) (C:Value->World->Prop):Prop:=
 ∀ c,Ext B c->Run Tryz.prog (.typeAssert A 20 218 false) c fun v e=>Ext c e/\∃ b,v=(.pointer b)/\a≠none/\∃ t f u,cell e a 0=some (.slice t f u)/\b≠none/\b≠none/\zao e (pAdd b 3) [(.int .i64 (f:Int))] [] fun r=>a≠none/\∃ g h i,cell r a 0=some (.slice g h i)/\∀ d,Ext r d->Run Tryz.prog (.buildSlice 213 1 [(0,(.pointer b))]) d fun w s=>Ext d s/\∃ j k l,w=(.slice j k l)/\∀ m,Ext s m->Run Tryz.prog (.append #[213,213] 213 [(.slice g h i),(.slice j k l)]) m fun x y=>∃ n o p,x=(.slice n o p)/\a≠none/\zao y a [(.slice n o p)] [] fun z=>∀ q,Ext z q->C (.tuple #[]) q
theorem zmS (a:Option Addr) (b:Value) (c:World) (d:Value->World->Prop) (h:znp a b c d):FnP Tryz.prog zeR #[(.pointer a),b] c d:=
 zab (Eq.mp (by kernel_rfl:_=Runs Tryz.prog d ({N:=22}:Cfg) Tryz.f316 (Tryz.f316.body.getD .skip) [.sc (.ptr a),.sc (.val b)] c) h) Tryz.func316 (by kernel_rfl) (fun a w=>Tryz.call316 a w) (by kernel_rfl) (by kernel_rfl) rfl rfl
def zjV (j:Value) (n:Int) (o:World) (k:Value->World->Prop):Prop:=
 ∃ (f : Int -> World -> Prop) (i : Int -> World -> Nat), f n o /\ ∀ (a : Int) (d : World), f a d -> InR .i64 (a - 1) /\ InR .i64 ((a - 1).tdiv 2) /\ ((((a - 1).tdiv 2) = a) -> ∀ b, Ext d b -> k (.tuple #[]) b) /\ ((((a - 1).tdiv 2) ≠ a) -> ∀ b, Ext d b -> zqr Tryz.prog "Less" j [(.int .i64 a), (.int .i64 ((a - 1).tdiv 2))] b fun l g => ∃ e, l = (.bool e) /\ ((e = false) -> ∀ c, Ext g c -> k (.tuple #[]) c) /\ ((e = true) -> ∀ c, Ext g c -> zqr Tryz.prog "Swap" j [(.int .i64 ((a - 1).tdiv 2)), (.int .i64 a)] c fun m h => m = (.tuple #[]) /\ (f ((a - 1).tdiv 2) h /\ i ((a - 1).tdiv 2) h < i a d)))
theorem zjP (a:Value) (b:Int) (c:World) (d:Value->World->Prop) (h:zjV a b c d):FnP Tryz.prog zdl #[a,(.int .i64 b)] c d:=
 zab (Eq.mp (by kernel_rfl:_=Runs Tryz.prog d ({N:=23}:Cfg) Tryz.f167 (Tryz.f167.body.getD .skip) [.sc (.val a),.sc (.int .i64 b)] c) h) Tryz.func167 (by kernel_rfl) (fun a w=>Tryz.call167 a w) (by kernel_rfl) (by kernel_rfl) rfl rfl
def ziB (i:Value) (o p:Int) (t:World) (q:Value->World->Prop):Prop:=
 ∃ (n : Int -> World -> Prop) (j : Int -> World -> Nat), n o t /\ ∀ (a : Int) (h : World), n a h -> InR .i64 (2 * a) /\ InR .i64 ((2 * a) + 1) /\ (((p <= ((2 * a) + 1)) \/ (((2 * a) + 1) < 0)) -> ∀ d, Ext h d -> q (.bool (decide (o < a))) d) /\ (((((2 * a) + 1) < p) /\ (0 <= ((2 * a) + 1))) -> InR .i64 (((2 * a) + 1) + 1) /\ ((((((2 * a) + 1) + 1) < p) -> ∀ d, Ext h d -> zqr Tryz.prog "Less" i [(.int .i64 (((2 * a) + 1) + 1)), (.int .i64 ((2 * a) + 1))] d fun r k => ∃ f, r = (.bool f) /\ (((f = true) -> ∀ b, Ext k b -> zqr Tryz.prog "Less" i [(.int .i64 (((2 * a) + 1) + 1)), (.int .i64 a)] b fun l e => ∃ g, l = (.bool g) /\ ((g = false) -> ∀ c, Ext e c -> q (.bool (decide (o < a))) c) /\ ((g = true) -> ∀ c, Ext e c -> zqr Tryz.prog "Swap" i [(.int .i64 a), (.int .i64 (((2 * a) + 1) + 1))] c fun s m => s = (.tuple #[]) /\ (n (((2 * a) + 1) + 1) m /\ j (((2 * a) + 1) + 1) m < j a h)))) /\ ((f = false) -> ∀ b, Ext k b -> zqr Tryz.prog "Less" i [(.int .i64 ((2 * a) + 1)), (.int .i64 a)] b fun l e => ∃ g, l = (.bool g) /\ ((g = false) -> ∀ c, Ext e c -> q (.bool (decide (o < a))) c) /\ ((g = true) -> ∀ c, Ext e c -> zqr Tryz.prog "Swap" i [(.int .i64 a), (.int .i64 ((2 * a) + 1))] c fun s m => s = (.tuple #[]) /\ (n ((2 * a) + 1) m /\ j ((2 * a) + 1) m < j a h))))) /\ ((p <= (((2 * a) + 1) + 1)) -> ∀ d, Ext h d -> zqr Tryz.prog "Less" i [(.int .i64 ((2 * a) + 1)), (.int .i64 a)] d fun r k => ∃ f, r = (.bool f) /\ ((f = false) -> ∀ b, Ext k b -> q (.bool (decide (o < a))) b) /\ ((f = true) -> ∀ b, Ext k b -> zqr Tryz.prog "Swap" i [(.int .i64 a), (.int .i64 ((2 * a) + 1))] b fun l e => l = (.tuple #[]) /\ (n ((2 * a) + 1) e /\ j ((2 * a) + 1) e < j a h))))
theorem ziy (a:Value) (b c:Int) (d:World) (e:Value->World->Prop) (h:ziB a b c d e):FnP Tryz.prog zcJ #[a,(.int .i64 b),(.int .i64 c)] d e:=
 zab (Eq.mp (by kernel_rfl:_=Runs Tryz.prog e ({N:=48}:Cfg) Tryz.f168 (Tryz.f168.body.getD .skip) [.sc (.val a),.sc (.int .i64 b),.sc (.int .i64 c)] d) h) Tryz.func168 (by kernel_rfl) (fun a w=>Tryz.call168 a w) (by kernel_rfl) (by kernel_rfl) rfl rfl
def ziA (b m:Value) (n:World) (o:Value->World->Prop):Prop:=
 ∀ c, Ext n c -> zqr Tryz.prog "Push" b [m] c fun g h => g = (.tuple #[]) /\ ∀ d, Ext h d -> zqr Tryz.prog "Len" b [] d fun i j => ∃ a, i = (.int .i64 a) /\ InR .i64 (a - 1) /\ ∀ e, Ext j e -> FnP Tryz.prog zdl #[b, (.int .i64 (a - 1))] e fun k l => k = (.tuple #[]) /\ ∀ f, Ext l f -> o (.tuple #[]) f
theorem zix (a b:Value) (c:World) (d:Value->World->Prop) (h:ziA a b c d):FnP Tryz.prog zcI #[a,b] c d:=
 zab (Eq.mp (by kernel_rfl:_=Runs Tryz.prog d ({N:=12,muts:=[167]}:Cfg) Tryz.f121 (Tryz.f121.body.getD .skip) [.sc (.val a),.sc (.val b)] c) h) Tryz.func121 (by kernel_rfl) (fun a w=>Tryz.call121 a w) (by kernel_rfl) (by kernel_rfl) rfl rfl
def zjj (b:Value) (r:World) (s:Value->World->Prop):Prop:=
 ∀ c, Ext r c -> zqr Tryz.prog "Len" b [] c fun j k => ∃ a, j = (.int .i64 a) /\ InR .i64 (a - 1) /\ ∀ d, Ext k d -> zqr Tryz.prog "Swap" b [(.int .i64 0), (.int .i64 (a - 1))] d fun l m => l = (.tuple #[]) /\ ∀ e, Ext m e -> FnP Tryz.prog zcJ #[b, (.int .i64 0), (.int .i64 (a - 1))] e fun n o => ∃ i, n = (.bool i) /\ ∀ f, Ext o f -> zqr Tryz.prog "Pop" b [] f fun p q => ∃ g, p = g /\ ∀ h, Ext q h -> s g h
theorem zi5 (a:Value) (b:World) (c:Value->World->Prop) (h:zjj a b c):FnP Tryz.prog zc8 #[a] b c:=
 zab (Eq.mp (by kernel_rfl:_=Runs Tryz.prog c ({N:=15,muts:=[168]}:Cfg) Tryz.f122 (Tryz.f122.body.getD .skip) [.sc (.val a)] b) h) Tryz.func122 (by kernel_rfl) (fun a w=>Tryz.call122 a w) (by kernel_rfl) (by kernel_rfl) rfl rfl
def znO  (w:World) (Q:Value->World->Prop):Prop :=
  ∀ w0,Ext w w0 ->
  Run Tryz.prog (.makeMap 211) w0 fun v1 w1 =>
   Ext w0 w1 /\
   ∃ t2:Value,v1=t2 /\
   Value.oneCell' t2=true /\
   ∀ w3,Ext w1 w3 ->
   New w3 215 [(.slice none 0 0),t2,(.int .i64 0)] fun p4 w4 =>
    ∀ w5,Ext w4 w5 ->
    Q (.pointer p4) w5
theorem zvj  (w:World) (Q:Value->World->Prop) (h:znO  w Q):FnP Tryz.prog zki #[] w Q:=by
  have e_:znO  w Q=Runs Tryz.prog Q ({ N:=4,wrap:=[],pub:=[3],muts:=[],joins:=[] }:Cfg) Tryz.f69 (Tryz.f69.body.getD .skip) [] w:=by kernel_rfl
  rw [e_] at h
  exact zab h Tryz.func69 (by kernel_rfl) (fun args w=>Tryz.call69 args w) (by kernel_rfl) (by kernel_rfl) rfl rfl
def zl4 (a:Option Addr) (J i:Int) (A:World) (j:Value->World->Prop):Prop:=
 a≠none/\a≠none/\∃ k,cell A (pAdd a 1) 0=some k/\∀ c,Ext A c->Run Tryz.prog (.lookup 211 k (.int .i64 i) false) c fun D b=>Ext c b/\∃ d,D=(.pointer d)/\((d≠none)->∀ l,Ext b l->j (.int .i64 6) l)/\((d=none)->a≠none/\a≠none/\∃ B e C,cell b (pAdd a 0) 0=some (.slice B e C)/\(((e:Int)=200)->∀ m,Ext b m->j (.int .i64 7) m)/\(((e:Int)≠200)->a≠none/\a≠none/\∃ f,cell b (pAdd a 2) 0=some (.int .i64 f)/\InR .i64 (f+1)/\a≠none/\a≠none/\zao b (pAdd a 2) [(.int .i64 (f+1))] [] fun v=>a≠none/\a≠none/\∃ n,cell v (pAdd a 2) 0=some (.int .i64 n)/\∀ o,Ext v o->New o 220 [(.int .i64 J),(.int .i64 i),(.int .i64 n),(.int .i64 0)] fun w x=>a≠none/\a≠none/\∃ p,cell x (pAdd a 1) 0=some p/\∀ q,Ext x q->Run Tryz.prog (.mapUpdate 211 p (.int .i64 i) (.pointer w)) q fun K E=>a≠none/\a≠none/\∀ g,Ext E g->Run Tryz.prog (.makeInterface 222 (.pointer (pAdd a 0))) g fun F y=>Ext g y/\∃ r,F=r/\∀ h,Ext y h->Run Tryz.prog (.makeInterface 218 (.pointer w)) h fun G z=>Ext h z/\∃ s,G=s/\∀ t,Ext z t->FnP Tryz.prog zcI #[r,s] t fun H I=>H=(.tuple #[])/\∀ u,Ext I u->j (.int .i64 0) u))
theorem zlI (a:Option Addr) (b c:Int) (d:World) (e:Value->World->Prop) (h:zl4 a b c d e):FnP Tryz.prog zef #[(.pointer a),(.int .i64 b),(.int .i64 c)] d e:=
 zab (Eq.mp (by kernel_rfl:_=Runs Tryz.prog e ({N:=52,pub:=[38],muts:=[121]}:Cfg) Tryz.f71 (Tryz.f71.body.getD .skip) [.sc (.ptr a),.sc (.int .i64 b),.sc (.int .i64 c)] d) h) Tryz.func71 (by kernel_rfl) (fun a w=>Tryz.call71 a w) (by kernel_rfl) (by kernel_rfl) rfl rfl
def zkW (b:Option Addr) (g:World) (u:Value->World->Prop):Prop:=
 ∀ c:Nat,g.heap.size<=c->b≠none/\b≠none/\∃ v h w,cell g (pAdd b 0) 0=some (.slice v h w)/\(((h:Int)=0)->∀ d,Ext g d->u (.tuple #[(.agg #[(.int .i64 0),(.int .i64 0)]),(.bool false)]) d)/\(((h:Int)≠0)->b≠none/\b≠none/\∀ d,zag [] [c] g d->Run Tryz.prog (.makeInterface 222 (.pointer (pAdd b 0))) d fun x s=>Ext d s/\∃ l,x=l/\∀ i,zag [] [c] s i->FnP Tryz.prog zc8 #[l] i fun y t=>zbM [c] i t/\∃ m,y=m/\∀ j,zag [] [c] t j->Run Tryz.prog (.typeAssert m 20 218 false) j fun z e=>Ext j e/\∃ a,z=(.pointer a)/\b≠none/\b≠none/\∃ n,cell e (pAdd b 1) 0=some n/\a≠none/\a≠none/\(pAdd a 0)≠none/\∃ o,cell e (pAdd (pAdd a 0) 1) 0=some (.int .i64 o)/\∀ k,zag [] [c] e k->Run Tryz.prog (.delete #[211,3] 0 [n,(.int .i64 o)]) k fun A f=>zbM [c] k f/\A=(.tuple #[])/\a≠none/\a≠none/\(pAdd a 0)≠none/\∃ p,cell f (pAdd a 0) 0=some (.int .i64 p)/\∃ q,cell f (pAdd a 0) 1=some (.int .i64 q)/\∀ r,zag [c] [] f r->u (.tuple #[(.agg #[(.int .i64 p),(.int .i64 q)]),(.bool true)]) r)
theorem zkH (a:Option Addr) (b:World) (c:Value->World->Prop) (h:zkW a b c):FnP Tryz.prog za5 #[(.pointer a)] b c:=
 zab (Eq.mp (by kernel_rfl:_=Runs Tryz.prog c ({N:=31,muts:=[122]}:Cfg) Tryz.f72 (Tryz.f72.body.getD .skip) [.sc (.ptr a)] b) h) Tryz.func72 (by kernel_rfl) (fun a w=>Tryz.call72 a w) (by kernel_rfl) (by kernel_rfl) rfl rfl
abbrev zdJ:FuncId:=57
abbrev zjr:FuncId:=68
abbrev zdK:FuncId:=75
abbrev zcz:FuncId:=117
abbrev ze4:FuncId:=118
def zrh (a c d e:Int) (f:World) (g:Value->World->Prop):Prop:=
 ∀ h:Nat,f.heap.size<=h->(((((((((a<1)\/(1000000000<a))\/(c<1))\/(10<c))\/(d<a))\/(1000000000<d))\/(e<0))\/(50<e))->∀ b,Ext f b->g (.int .i64 4) b)/\(((((((((1<=a)/\(a<=1000000000))/\(1<=c))/\(c<=10))/\(a<=d))/\(d<=1000000000))/\(0<=e))/\(e<=50))->∀ b,Ext f b->g (.int .i64 0) b)
theorem zqS (a b c d:Int) (e:World) (f:Value->World->Prop) (h:zrh a b c d e f):FnP Tryz.prog zdJ #[(.agg #[(.int .i64 a),(.int .i64 b),(.int .i64 c),(.int .i64 d)])] e f:=
 zab (Eq.mp (by kernel_rfl:_=Runs Tryz.prog f ({N:=43}:Cfg) Tryz.f57 (Tryz.f57.body.getD .skip) [.agg [.int .i64 a,.int .i64 b,.int .i64 c,.int .i64 d]] e) h) Tryz.func57 (by kernel_rfl) (fun a w=>Tryz.call57 a w) (by kernel_rfl) (by kernel_rfl) rfl rfl
def zri (p h k l b:Int) (f:World) (m:Value->World->Prop):Prop:=
 ∀ q:Nat,f.heap.size<=q->∀ i,Ext f i->FnP Tryz.prog zdJ #[(.agg #[(.int .i64 p),(.int .i64 h),(.int .i64 k),(.int .i64 l)])] i fun r s=>Ext i s/\∃ g,r=(.int .i64 g)/\((g≠0)->∀ d,Ext f d->m (.tuple #[(.int .i64 0),(.int .i64 g)]) d)/\((g=0)->(((b<1)\/(l<b))->∀ d,Ext f d->m (.tuple #[(.int .i64 0),(.int .i64 5)]) d)/\(((1<=b)/\(b<=l))->InR .i64 (b-1)/\∃ (j:Int->Int->World->Prop) (o:Int->Int->World->Nat),j p 0 f/\∀ (c:Int) (a:Int) (e:World),j c a e->(((a<(b-1))->InR .i64 (c*h)/\InR .i64 (a+1)/\(j (min (c*h) k) (a+1) e/\o (min (c*h) k) (a+1) e<o c a e)))/\(((b-1)<=a)->∀ n,Ext e n->m (.tuple #[(.int .i64 c),(.int .i64 0)]) n)))
theorem zqT (a b c d e:Int) (f:World) (g:Value->World->Prop) (h:zri a b c d e f g):FnP Tryz.prog zdK #[(.agg #[(.int .i64 a),(.int .i64 b),(.int .i64 c),(.int .i64 d)]),(.int .i64 e)] f g:=
 zab (Eq.mp (by kernel_rfl:_=Runs Tryz.prog g ({N:=36}:Cfg) Tryz.f75 (Tryz.f75.body.getD .skip) [.agg [.int .i64 a,.int .i64 b,.int .i64 c,.int .i64 d],.sc (.int .i64 e)] f) h) Tryz.func75 (by kernel_rfl) (fun a w=>Tryz.call75 a w) (by kernel_rfl) (by kernel_rfl) rfl rfl
def zia (b:Option Addr) (q r:Nat) (l:World) (m:Value->World->Prop):Prop:=
 ((b=none)->∀ a,Ext l a->m (.slice none 0 0) a)/\((b≠none)->∀ a,Ext l a->Run Tryz.prog (.buildSlice 48 0 []) a fun n k=>Ext a k/\∃ c d e,n=(.slice c d e)/\∀ f,Ext k f->Run Tryz.prog (.append #[48,48] 48 [(.slice c d e),(.slice b q r)]) f fun o p=>∃ g h i,o=(.slice g h i)/\∀ j,Ext p j->m (.slice g h i) j)
theorem zhR (a:Option Addr) (b c:Nat) (d:World) (e:Value->World->Prop) (h:zia a b c d e):FnP Tryz.prog zcz #[(.slice a b c)] d e:=
 zab (Eq.mp (by kernel_rfl:_=Runs Tryz.prog e ({N:=8}:Cfg) Tryz.f117 (Tryz.f117.body.getD .skip) [.sc (.slc a b c)] d) h) Tryz.func117 (by kernel_rfl) (fun a w=>Tryz.call117 a w) (by kernel_rfl) (by kernel_rfl) rfl rfl
def zq9 (S:Int) (T U:ByteArray) (V:Int) (c:Option Addr) (r X:Nat) (s:World) (W:Value->World->Prop):Prop:=
 ∀ d:Nat,s.heap.size<=d->∀ e:Nat,s.heap.size<=e->∃ (q:Option Addr->Nat->Nat->Int->World->Prop) (N:Option Addr->Nat->Nat->Int->World->Nat),q none 0 0 0 s/\∀ (g:Option Addr) (h:Nat) (i:Nat) (a:Int) (b:World),q g h i a b->(((a<(r:Int))->c≠none/\(0:Int)<=a/\(a:Int)<(r:Int)/\(pIdx c a 5)≠none/\∃ t,cell b (pIdx c a 5) 0=some (.int .i64 t)/\∃ u,cell b (pIdx c a 5) 1=some (.string u)/\∃ v,cell b (pIdx c a 5) 2=some (.string v)/\∃ w,cell b (pIdx c a 5) 3=some (.int .i64 w)/\∃ x y z,cell b (pIdx c a 5) 4=some (.slice x y z)/\∀ f:Nat,b.heap.size<=f->∀ j,zag [] [d,e,f] b j->FnP Tryz.prog ze4 #[(.agg #[(.int .i64 t),(.string u),(.string v),(.int .i64 w),(.slice x y z)])] j fun O L=>Ext j L/\∃ A B C D E F G,O=(.agg #[(.int .i64 A),(.string B),(.string C),(.int .i64 D),(.slice E F G)])/\∀ k,zag [] [d,e,f] L k->Run Tryz.prog (.buildSlice 45 1 [(0,(.agg #[(.int .i64 A),(.string B),(.string C),(.int .i64 D),(.slice E F G)]))]) k fun P M=>Ext k M/\∃ H I J,P=(.slice H I J)/\∀ l,zag [] [d,e,f] M l->Run Tryz.prog (.append #[45,45] 45 [(.slice g h i),(.slice H I J)]) l fun R p=>zbM [d,e,f] l p/\∃ m n o,R=(.slice m n o)/\InR .i64 (a+1)/\(q m n o (a+1) p/\N m n o (a+1) p<N g h i a b)))/\(((r:Int)<=a)->∀ K,zag [e,d] [] b K->W (.agg #[(.int .i64 S),(.string T),(.string U),(.int .i64 V),(.slice g h i)]) K)
theorem zqJ (a:Int) (b c:ByteArray) (d:Int) (e:Option Addr) (f g:Nat) (i:World) (j:Value->World->Prop) (h:zq9 a b c d e f g i j):FnP Tryz.prog ze4 #[(.agg #[(.int .i64 a),(.string b),(.string c),(.int .i64 d),(.slice e f g)])] i j:=
 zab (Eq.mp (by kernel_rfl:_=Runs Tryz.prog j ({N:=22}:Cfg) Tryz.f118 (Tryz.f118.body.getD .skip) [.agg [.int .i64 a,.str b,.str c,.int .i64 d,.slc e f g]] i) h) Tryz.func118 (by kernel_rfl) (fun a w=>Tryz.call118 a w) (by kernel_rfl) (by kernel_rfl) rfl rfl
def zye (u:ByteArray) (v w x y z:Int) (A B:ByteArray) (C:Int) (D:Option Addr) (E F:Nat) (G:Option Addr) (H I:Nat) (J K L M N:Int) (e:World) (O:Value->World->Prop):Prop:=
 ∀ a:Nat,e.heap.size<=a->∀ b:Nat,e.heap.size<=b->∀ c,zag [] [a,b] e c->FnP Tryz.prog zcz #[(.slice G H I)] c fun s q=>Ext c q/\∃ f g h,s=(.slice f g h)/\∀ d,zag [a] [a,b] q d->FnP Tryz.prog ze4 #[(.agg #[(.int .i64 z),(.string A),(.string B),(.int .i64 C),(.slice D E F)])] d fun t r=>Ext d r/\∃ i j k l m n o,t=(.agg #[(.int .i64 i),(.string j),(.string k),(.int .i64 l),(.slice m n o)])/\∀ p,zag [b,a] [] r p->O (.agg #[(.string u),(.int .i64 v),(.int .i64 w),(.int .i64 x),(.int .i64 y),(.int .i64 i),(.string j),(.string k),(.int .i64 l),(.slice m n o),(.slice f g h),(.int .i64 J),(.int .i64 K),(.int .i64 L),(.int .i64 M),(.int .i64 N)]) p
theorem zxz (a:ByteArray) (b c d e f:Int) (g i:ByteArray) (j:Int) (k:Option Addr) (l m:Nat) (n:Option Addr) (o p:Nat) (q r s t u:Int) (v:World) (w:Value->World->Prop) (h:zye a b c d e f g i j k l m n o p q r s t u v w):FnP Tryz.prog zjr #[(.agg #[(.string a),(.int .i64 b),(.int .i64 c),(.int .i64 d),(.int .i64 e),(.int .i64 f),(.string g),(.string i),(.int .i64 j),(.slice k l m),(.slice n o p),(.int .i64 q),(.int .i64 r),(.int .i64 s),(.int .i64 t),(.int .i64 u)])] v w:=
 zab (Eq.mp (by kernel_rfl:_=Runs Tryz.prog w ({N:=16}:Cfg) Tryz.f68 (Tryz.f68.body.getD .skip) [.agg [.str a,.int .i64 b,.int .i64 c,.int .i64 d,.int .i64 e,.int .i64 f,.str g,.str i,.int .i64 j,.slc k l m,.slc n o p,.int .i64 q,.int .i64 r,.int .i64 s,.int .i64 t,.int .i64 u]] v) h) Tryz.func68 (by kernel_rfl) (fun a w=>Tryz.call68 a w) (by kernel_rfl) (by kernel_rfl) rfl rfl
abbrev zcW:FuncId:=18
abbrev zaz:FuncId:=23
abbrev zbx:FuncId:=28
abbrev zcm:FuncId:=29
abbrev zaZ:FuncId:=31
abbrev zaN:FuncId:=55
abbrev zeA:FuncId:=56
abbrev zdI:FuncId:=58
abbrev zbc:FuncId:=67
abbrev zec:FuncId:=70
abbrev zbZ:FuncId:=74
abbrev zaD:FuncId:=76
abbrev zap:FuncId:=110
abbrev zdm:FuncId:=120
abbrev zdH:FuncId:=126
def zqd (b:Option Addr) (a:Int) (c:World) (f:Value->World->Prop):Prop:=
 ((1<=a)->b≠none)/\((1<=a)->b≠none)/\((a<1)->∀ g,Ext c g->f (.pointer none) g)/\((1<=a)->∃ k d l,cell c (pAdd b 6) 0=some (.slice k d l)/\(((d:Int)<a)->∀ h,Ext c h->f (.pointer none) h)/\((a<=(d:Int))->b≠none/\b≠none/\∃ e i m,cell c (pAdd b 6) 0=some (.slice e i m)/\InR .i64 (a-1)/\e≠none/\(0:Int)<=(a-1)/\((a-1):Int)<(i:Int)/\∀ j,Ext c j->f (.pointer (pIdx e (a-1) 16)) j))
theorem zpG (a:Option Addr) (b:Int) (c:World) (d:Value->World->Prop) (h:zqd a b c d):FnP Tryz.prog zbc #[(.pointer a),(.int .i64 b)] c d:=
 zab (Eq.mp (by kernel_rfl:_=Runs Tryz.prog d ({N:=23}:Cfg) Tryz.f67 (Tryz.f67.body.getD .skip) [.sc (.ptr a),.sc (.int .i64 b)] c) h) Tryz.func67 (by kernel_rfl) (fun a w=>Tryz.call67 a w) (by kernel_rfl) (by kernel_rfl) rfl rfl
def znm (b:Option Addr) (a:Int) (c:World) (f:Value->World->Prop):Prop:=
 ((((0<=a)/\(a<=1000000000))->b≠none))/\((((0<=a)/\(a<=1000000000))->b≠none))/\(((a<0)\/(1000000000<a))->∀ g,Ext c g->f (.int .i64 4) g)/\(((0<=a)/\(a<=1000000000))->∃ d,cell c (pAdd b 5) 0=some (.int .i64 d)/\InR .i64 (d+a)/\((1099511627776<(d+a))->∀ h,Ext c h->f (.int .i64 4) h)/\(((d+a)<=1099511627776)->b≠none/\b≠none/\∃ e,cell c (pAdd b 5) 0=some (.int .i64 e)/\InR .i64 (e+a)/\b≠none/\b≠none/\zao c (pAdd b 5) [(.int .i64 (e+a))] [] fun j=>∀ i,Ext j i->f (.int .i64 0) i))
theorem zmP (a:Option Addr) (b:Int) (c:World) (d:Value->World->Prop) (h:znm a b c d):FnP Tryz.prog zcm #[(.pointer a),(.int .i64 b)] c d:=
 zab (Eq.mp (by kernel_rfl:_=Runs Tryz.prog d ({N:=28}:Cfg) Tryz.f29 (Tryz.f29.body.getD .skip) [.sc (.ptr a),.sc (.int .i64 b)] c) h) Tryz.func29 (by kernel_rfl) (fun a w=>Tryz.call29 a w) (by kernel_rfl) (by kernel_rfl) rfl rfl
def zn7 (a:Option Addr) (d:World) (e:Value->World->Prop):Prop:=
 a≠none/\a≠none/\∃ b,cell d (pAdd a 5) 0=some (.int .i64 b)/\∀ c,Ext d c->e (.int .i64 b) c
theorem znV (a:Option Addr) (b:World) (c:Value->World->Prop) (h:zn7 a b c):FnP Tryz.prog zbx #[(.pointer a)] b c:=
 zab (Eq.mp (by kernel_rfl:_=Runs Tryz.prog c ({N:=7}:Cfg) Tryz.f28 (Tryz.f28.body.getD .skip) [.sc (.ptr a)] b) h) Tryz.func28 (by kernel_rfl) (fun a w=>Tryz.call28 a w) (by kernel_rfl) (by kernel_rfl) rfl rfl
def zl3 (t a:Option Addr) (u:World) (h:Value->World->Prop):Prop:=
 ∀ i,Ext u i->New i 40 [(.pointer t)] fun q b=>a≠none/\a≠none/\∃ e,cell b (pAdd a 11) 0=some (.int .i64 e)/\((e=1)->a≠none)/\((e=1)->a≠none)/\(((e=1)->∃ c,cell b (pAdd a 14) 0=some (.int .i64 c)/\∃ f,cell b q 0=some (.pointer f)/\f≠none/\f≠none/\∃ d,cell b (pAdd f 5) 0=some (.int .i64 d)/\((c<=d)->a≠none)/\((c<=d)->a≠none)/\((c<=d)->(pAdd a 0)≠none)/\(((c<=d)->∃ j k l,cell b (pAdd (pAdd a 0) 10) 0=some (.slice j k l)/\∀ g,Ext b g->FnP Tryz.prog zaX #[(.slice j k l),(.func (.func 120) #[] #[(.pointer q)])] g fun r s=>Ext g s/\∃ m,r=(.bool m)/\∀ n,Ext b n->h (.bool (!m)) n))/\((d<c)->∀ o,Ext b o->h (.bool false) o)))/\((e≠1)->∀ p,Ext b p->h (.bool false) p)
theorem zlG (a b:Option Addr) (c:World) (d:Value->World->Prop) (h:zl3 a b c d):FnP Tryz.prog zec #[(.pointer a),(.pointer b)] c d:=
 zab (Eq.mp (by kernel_rfl:_=Runs Tryz.prog d ({N:=31,pub:=[2]}:Cfg) Tryz.f70 (Tryz.f70.body.getD .skip) [.sc (.ptr a),.sc (.ptr b)] c) h) Tryz.func70 (by kernel_rfl) (fun a w=>Tryz.call70 a w) (by kernel_rfl) (by kernel_rfl) rfl rfl
def zjW (i:Int) (j:Option Addr) (g:World) (k:Value->World->Prop):Prop:=
 ∃ d,cell g j 0=some (.pointer d)/\∀ b,Ext g b->FnP Tryz.prog zbc #[(.pointer d),(.int .i64 i)] b fun h c=>Ext b c/\∃ a,h=(.pointer a)/\a≠none/\a≠none/\∃ e,cell c (pAdd a 11) 0=some (.int .i64 e)/\∀ f,Ext c f->k (.bool (decide (e≠3))) f
theorem zjQ (a:Int) (b:Option Addr) (c:World) (d:Value->World->Prop) (h:zjW a b c d):FnP Tryz.prog zdm #[(.int .i64 a),(.pointer b)] c d:=
 zab (Eq.mp (by kernel_rfl:_=Runs Tryz.prog d ({N:=11}:Cfg) Tryz.f120 (Tryz.f120.body.getD .skip) [.sc (.int .i64 a),.sc (.ptr b)] c) h) Tryz.func120 (by kernel_rfl) (fun a w=>Tryz.call120 a w) (by kernel_rfl) (by kernel_rfl) rfl rfl
def znn (z:Option Addr) (A:World) (B:Value->World->Prop):Prop:=
 ∀ n,Ext A n->New n 40 [(.pointer z)] fun l m=>∃ g,cell m l 0=some (.pointer g)/\g≠none/\g≠none/\∃ u i v,cell m (pAdd g 6) 0=some (.slice u i v)/\∃ (f:Int->World->Prop) (e:Int->World->Nat),f 0 m/\∀ (a:Int) (b:World),f a b->(((a<(i:Int))->∃ h,cell b l 0=some (.pointer h)/\h≠none/\h≠none/\∃ c o w,cell b (pAdd h 6) 0=some (.slice c o w)/\c≠none/\(0:Int)<=a/\(a:Int)<(o:Int)/\(pIdx c a 16)≠none/\(pIdx c a 16)≠none/\∃ d,cell b (pAdd (pIdx c a 16) 11) 0=some (.int .i64 d)/\((d=1)->(pIdx c a 16)≠none)/\((d=1)->(pIdx c a 16)≠none)/\((d=1)->(pAdd (pIdx c a 16) 0)≠none)/\(((d=1)->∃ p q r,cell b (pAdd (pAdd (pIdx c a 16) 0) 10) 0=some (.slice p q r)/\∀ j,Ext b j->FnP Tryz.prog zaX #[(.slice p q r),(.func (.func 126) #[] #[(.pointer l)])] j fun x y=>Ext j y/\∃ k,x=(.bool k)/\(((k=true)->(pIdx c a 16)≠none/\(pIdx c a 16)≠none/\zao b (pAdd (pIdx c a 16) 11) [(.int .i64 5)] [] fun t=>InR .i64 (a+1)/\(f (a+1) t/\e (a+1) t<e a b)))/\((k=false)->InR .i64 (a+1)/\(f (a+1) b/\e (a+1) b<e a b))))/\((d≠1)->InR .i64 (a+1)/\(f (a+1) b/\e (a+1) b<e a b))))/\(((i:Int)<=a)->∀ s,Ext b s->B (.tuple #[]) s)
theorem zmQ (a:Option Addr) (b:World) (c:Value->World->Prop) (h:znn a b c):FnP Tryz.prog zaD #[(.pointer a)] b c:=
 zab (Eq.mp (by kernel_rfl:_=Runs Tryz.prog c ({N:=36,pub:=[1]}:Cfg) Tryz.f76 (Tryz.f76.body.getD .skip) [.sc (.ptr a)] b) h) Tryz.func76 (by kernel_rfl) (fun a w=>Tryz.call76 a w) (by kernel_rfl) (by kernel_rfl) rfl rfl
def zkV (i:Int) (j:Option Addr) (g:World) (k:Value->World->Prop):Prop:=
 ∃ e,cell g j 0=some (.pointer e)/\∀ b,Ext g b->FnP Tryz.prog zbc #[(.pointer e),(.int .i64 i)] b fun h d=>Ext b d/\∃ a,h=(.pointer a)/\a≠none/\a≠none/\∃ c,cell d (pAdd a 11) 0=some (.int .i64 c)/\∀ f,Ext d f->k (.bool ((decide (c=4))||(decide (c=5)))) f
theorem zkG (a:Int) (b:Option Addr) (c:World) (d:Value->World->Prop) (h:zkV a b c d):FnP Tryz.prog zdH #[(.int .i64 a),(.pointer b)] c d:=
 zab (Eq.mp (by kernel_rfl:_=Runs Tryz.prog d ({N:=17}:Cfg) Tryz.f126 (Tryz.f126.body.getD .skip) [.sc (.int .i64 a),.sc (.ptr b)] c) h) Tryz.func126 (by kernel_rfl) (fun a w=>Tryz.call126 a w) (by kernel_rfl) (by kernel_rfl) rfl rfl
def zl2 (b a:Option Addr) (c:World) (v:Value->World->Prop):Prop:=
 b≠none/\b≠none/\∃ e f g,cell c (pAdd b 0) 0=some (.slice e f g)/\a≠none/\a≠none/\∃ h,cell c (pAdd a 12) 0=some (.int .i64 h)/\a≠none/\a≠none/\(pAdd a 0)≠none/\(pAdd (pAdd a 0) 2)≠none/\∃ i,cell c (pAdd (pAdd a 0) 2) 0=some (.int .i64 i)/\∃ j,cell c (pAdd (pAdd a 0) 2) 1=some (.int .i64 j)/\∃ k,cell c (pAdd (pAdd a 0) 2) 2=some (.int .i64 k)/\∀ d,Ext c d->FnP Tryz.prog zkf #[(.slice e f g),(.int .i64 h),(.agg #[(.int .i64 i),(.int .i64 j),(.int .i64 k)])] d fun r p=>Ext d p/\∃ l m n q,r=(.tuple #[(.slice l m n),(.int .i64 q)])/\b≠none/\b≠none/\zao p (pAdd b 0) [(.slice l m n)] [] fun s=>a≠none/\a≠none/\zao s (pAdd a 12) [(.int .i64 0)] [] fun t=>a≠none/\a≠none/\zao t (pAdd a 13) [(.int .i64 0)] [] fun u=>∀ o,Ext u o->v (.tuple #[]) o
theorem zlF (a b:Option Addr) (c:World) (d:Value->World->Prop) (h:zl2 a b c d):FnP Tryz.prog zbZ #[(.pointer a),(.pointer b)] c d:=
 zab (Eq.mp (by kernel_rfl:_=Runs Tryz.prog d ({N:=30}:Cfg) Tryz.f74 (Tryz.f74.body.getD .skip) [.sc (.ptr a),.sc (.ptr b)] c) h) Tryz.func74 (by kernel_rfl) (fun a w=>Tryz.call74 a w) (by kernel_rfl) (by kernel_rfl) rfl rfl
def znk (q:Option Addr) (an:World) (au:Value->World->Prop):Prop:=
 q≠none/\q≠none/\∃ c e ao,cell an (pAdd q 6) 0=some (.slice c e ao)/\∃ (p:Option Addr->Nat->Nat->Int->World->Prop) (am:Option Addr->Nat->Nat->Int->World->Nat),p none 0 0 0 an/\∀ (f:Option Addr) (g:Nat) (h:Nat) (a:Int) (b:World),p f g h a b->(((a<(e:Int))->c≠none/\(0:Int)<=a/\(a:Int)<(e:Int)/\(pIdx c a 16)≠none/\∃ r,cell b (pIdx c a 16) 0=some (.string r)/\∃ s,cell b (pIdx c a 16) 1=some (.int .i64 s)/\∃ t,cell b (pIdx c a 16) 2=some (.int .i64 t)/\∃ u,cell b (pIdx c a 16) 3=some (.int .i64 u)/\∃ v,cell b (pIdx c a 16) 4=some (.int .i64 v)/\∃ w,cell b (pIdx c a 16) 5=some (.int .i64 w)/\∃ x,cell b (pIdx c a 16) 6=some (.string x)/\∃ y,cell b (pIdx c a 16) 7=some (.string y)/\∃ z,cell b (pIdx c a 16) 8=some (.int .i64 z)/\∃ A B C,cell b (pIdx c a 16) 9=some (.slice A B C)/\∃ D E F,cell b (pIdx c a 16) 10=some (.slice D E F)/\∃ G,cell b (pIdx c a 16) 11=some (.int .i64 G)/\∃ H,cell b (pIdx c a 16) 12=some (.int .i64 H)/\∃ I,cell b (pIdx c a 16) 13=some (.int .i64 I)/\∃ J,cell b (pIdx c a 16) 14=some (.int .i64 J)/\∃ K,cell b (pIdx c a 16) 15=some (.int .i64 K)/\∀ d:Nat,b.heap.size<=d->∀ i,zag [] [d] b i->FnP Tryz.prog zjr #[(.agg #[(.string r),(.int .i64 s),(.int .i64 t),(.int .i64 u),(.int .i64 v),(.int .i64 w),(.string x),(.string y),(.int .i64 z),(.slice A B C),(.slice D E F),(.int .i64 G),(.int .i64 H),(.int .i64 I),(.int .i64 J),(.int .i64 K)])] i fun ap ak=>Ext i ak/\∃ L M N O P R S T U V W X Y Z aa ab ac ad ae af,ap=(.agg #[(.string L),(.int .i64 M),(.int .i64 N),(.int .i64 O),(.int .i64 P),(.int .i64 R),(.string S),(.string T),(.int .i64 U),(.slice V W X),(.slice Y Z aa),(.int .i64 ab),(.int .i64 ac),(.int .i64 ad),(.int .i64 ae),(.int .i64 af)])/\∀ j,zag [] [d] ak j->Run Tryz.prog (.buildSlice 57 1 [(0,(.agg #[(.string L),(.int .i64 M),(.int .i64 N),(.int .i64 O),(.int .i64 P),(.int .i64 R),(.string S),(.string T),(.int .i64 U),(.slice V W X),(.slice Y Z aa),(.int .i64 ab),(.int .i64 ac),(.int .i64 ad),(.int .i64 ae),(.int .i64 af)]))]) j fun aq al=>Ext j al/\∃ ag ah ai,aq=(.slice ag ah ai)/\∀ k,zag [] [d] al k->Run Tryz.prog (.append #[57,57] 57 [(.slice f g h),(.slice ag ah ai)]) k fun ar o=>zbM [d] k o/\∃ l m n,ar=(.slice l m n)/\InR .i64 (a+1)/\(p l m n (a+1) o/\am l m n (a+1) o<am f g h a b)))/\(((e:Int)<=a)->∀ aj,Ext b aj->au (.slice f g h) aj)
theorem zmN (a:Option Addr) (b:World) (c:Value->World->Prop) (h:znk a b c):FnP Tryz.prog zaz #[(.pointer a)] b c:=
 zab (Eq.mp (by kernel_rfl:_=Runs Tryz.prog c ({N:=22}:Cfg) Tryz.f23 (Tryz.f23.body.getD .skip) [.sc (.ptr a)] b) h) Tryz.func23 (by kernel_rfl) (fun a w=>Tryz.call23 a w) (by kernel_rfl) (by kernel_rfl) rfl rfl
def zl1 (b:Option Addr) (k:World) (m:Value->World->Prop):Prop:=
 b≠none/\b≠none/\∃ c d e,cell k (pAdd b 0) 0=some (.slice c d e)/\∀ a,Ext k a->FnP Tryz.prog zdI #[(.slice c d e)] a fun l j=>Ext a j/\∃ f g h,l=(.slice f g h)/\∀ i,Ext j i->m (.slice f g h) i
theorem zlE (a:Option Addr) (b:World) (c:Value->World->Prop) (h:zl1 a b c):FnP Tryz.prog zaZ #[(.pointer a)] b c:=
 zab (Eq.mp (by kernel_rfl:_=Runs Tryz.prog c ({N:=8}:Cfg) Tryz.f31 (Tryz.f31.body.getD .skip) [.sc (.ptr a)] b) h) Tryz.func31 (by kernel_rfl) (fun a w=>Tryz.call31 a w) (by kernel_rfl) (by kernel_rfl) rfl rfl
def zn8 (v:Option Addr) (w x:Nat) (y:World) (z:Value->World->Prop):Prop:=
 ∀ e,Ext y e->FnP Tryz.prog zaj #[(.slice v w x)] e fun t p=>Ext e p/\∃ b c h,t=(.slice b c h)/\∃ (g:Int->World->Prop) (s:Int->World->Nat),g 0 p/\∀ (a:Int) (d:World),g a d->(((a<(c:Int))->b≠none/\(0:Int)<=a/\(a:Int)<(c:Int)/\(pIdx b a 8)≠none/\∃ i j k,cell d (pAdd (pIdx b a 8) 1) 0=some (.slice i j k)/\∀ f,Ext d f->FnP Tryz.prog zaE #[(.slice i j k)] f fun u q=>Ext f q/\∃ l m n,u=(.slice l m n)/\b≠none/\(0:Int)<=a/\(a:Int)<(c:Int)/\(pIdx b a 8)≠none/\zao q (pAdd (pIdx b a 8) 1) [(.slice l m n)] [] fun r=>InR .i64 (a+1)/\(g (a+1) r/\s (a+1) r<s a d)))/\(((c:Int)<=a)->∀ o,Ext d o->z (.slice b c h) o)
theorem znW (a:Option Addr) (b c:Nat) (d:World) (e:Value->World->Prop) (h:zn8 a b c d e):FnP Tryz.prog zdI #[(.slice a b c)] d e:=
 zab (Eq.mp (by kernel_rfl:_=Runs Tryz.prog e ({N:=23}:Cfg) Tryz.f58 (Tryz.f58.body.getD .skip) [.sc (.slc a b c)] d) h) Tryz.func58 (by kernel_rfl) (fun a w=>Tryz.call58 a w) (by kernel_rfl) (by kernel_rfl) rfl rfl
def zyd (k:Option Addr) (l m:Nat) (t u v w:Int) (a:World) (g:Value->World->Prop):Prop:=
 ∀ h:Nat,a.heap.size<=h->∀ i,Ext a i->FnP Tryz.prog zcc #[(.slice k l m)] i fun x y=>Ext i y/\∃ e,x=(.int .i64 e)/\((e≠0)->∀ b,Ext a b->g (.tuple #[(.pointer none),(.int .i64 e)]) b)/\((e=0)->∀ b,Ext a b->FnP Tryz.prog zaN #[(.slice k l m),(.func (.func 56) #[] #[])] b fun z A=>Ext b A/\∃ j,z=(.bool j)/\((j=true)->∀ c,Ext a c->g (.tuple #[(.pointer none),(.int .i64 9)]) c)/\((j=false)->∀ c,Ext a c->FnP Tryz.prog zdJ #[(.agg #[(.int .i64 t),(.int .i64 u),(.int .i64 v),(.int .i64 w)])] c fun B C=>Ext c C/\∃ f,B=(.int .i64 f)/\((f≠0)->∀ d,Ext a d->g (.tuple #[(.pointer none),(.int .i64 f)]) d)/\((f=0)->∀ d,zag [] [h] a d->FnP Tryz.prog zdI #[(.slice k l m)] d fun D s=>Ext d s/\∃ n o p,D=(.slice n o p)/\∀ q,zag [] [h] s q->New q 128 [(.slice n o p),(.int .i64 t),(.int .i64 u),(.int .i64 v),(.int .i64 w),(.int .i64 0),(.slice none 0 0)] fun E F=>∀ r,Ext F r->g (.tuple #[(.pointer E),(.int .i64 0)]) r)))
theorem zxy (a:Option Addr) (b c:Nat) (d e f g:Int) (i:World) (j:Value->World->Prop) (h:zyd a b c d e f g i j):FnP Tryz.prog zcW #[(.agg #[(.slice a b c),(.int .i64 d),(.int .i64 e),(.int .i64 f),(.int .i64 g)])] i j:=
 zab (Eq.mp (by kernel_rfl:_=Runs Tryz.prog j ({N:=28,pub:=[27]}:Cfg) Tryz.f18 (Tryz.f18.body.getD .skip) [.agg [.slc a b c,.int .i64 d,.int .i64 e,.int .i64 f,.int .i64 g]] i) h) Tryz.func18 (by kernel_rfl) (fun a w=>Tryz.call18 a w) (by kernel_rfl) (by kernel_rfl) rfl rfl
def ztD (l:ByteArray) (m:Option Addr) (n o:Nat) (p q r h i j:Int) (b:World) (k:Value->World->Prop):Prop:=
 ∀ e:Nat,b.heap.size<=e->∀ a,Ext b a->Run Tryz.prog (.eq .neq 44 false false (.agg #[(.int .i64 h),(.int .i64 i),(.int .i64 j)]) (.agg #[(.int .i64 0),(.int .i64 0),(.int .i64 0)])) a fun f g=>Ext a g/\∃ c,f=(.bool c)/\∀ d,Ext b d->k (.bool c) d
theorem zs0 (a:ByteArray) (b:Option Addr) (c d:Nat) (e f g i j k:Int) (l:World) (m:Value->World->Prop) (h:ztD a b c d e f g i j k l m):FnP Tryz.prog zeA #[(.agg #[(.string a),(.slice b c d),(.int .i64 e),(.int .i64 f),(.int .i64 g),(.int .i64 i),(.int .i64 j),(.int .i64 k)])] l m:=
 zab (Eq.mp (by kernel_rfl:_=Runs Tryz.prog m ({N:=7}:Cfg) Tryz.f56 (Tryz.f56.body.getD .skip) [.agg [.str a,.slc b c d,.int .i64 e,.int .i64 f,.int .i64 g,.int .i64 i,.int .i64 j,.int .i64 k]] l) h) Tryz.func56 (by kernel_rfl) (fun a w=>Tryz.call56 a w) (by kernel_rfl) (by kernel_rfl) rfl rfl
def zcH (g:Option Addr) (h i:Nat) (j:Value) (d:World) (k:Value->World->Prop):Prop:=
 ∀ a,Ext d a->FnP Tryz.prog zap #[(.slice g h i),j] a fun e f=>Ext a f/\∃ b,e=(.int .i64 b)/\∀ c,Ext d c->k (.bool (decide (0<=b))) c
theorem zcG (a:Option Addr) (b c:Nat) (d:Value) (e:World) (f:Value->World->Prop) (h:zcH a b c d e f):FnP Tryz.prog zaN #[(.slice a b c),d] e f:=
 zab (Eq.mp (by kernel_rfl:_=Runs Tryz.prog f ({N:=9}:Cfg) Tryz.f55 (Tryz.f55.body.getD .skip) [.sc (.slc a b c),.sc (.val d)] e) h) Tryz.func55 (by kernel_rfl) (fun a w=>Tryz.call55 a w) (by kernel_rfl) (by kernel_rfl) rfl rfl
def zde (c:Option Addr) (g z:Nat) (x:Value) (y:World) (u:Value->World->Prop):Prop:=
 ∃ (f:Int->World->Prop) (t:Int->World->Nat),f 0 y/\∀ (a:Int) (b:World),f a b->(((a<(g:Int))->c≠none/\(0:Int)<=a/\(a:Int)<(g:Int)/\(pIdx c a 8)≠none/\∃ h,cell b (pIdx c a 8) 0=some (.string h)/\∃ i j k,cell b (pIdx c a 8) 1=some (.slice i j k)/\∃ l,cell b (pIdx c a 8) 2=some (.int .i64 l)/\∃ m,cell b (pIdx c a 8) 3=some (.int .i64 m)/\∃ n,cell b (pIdx c a 8) 4=some (.int .i64 n)/\∃ o,cell b (pIdx c a 8) 5=some (.int .i64 o)/\∃ p,cell b (pIdx c a 8) 6=some (.int .i64 p)/\∃ q,cell b (pIdx c a 8) 7=some (.int .i64 q)/\∀ d,Ext b d->zih Tryz.prog x [(.agg #[(.string h),(.slice i j k),(.int .i64 l),(.int .i64 m),(.int .i64 n),(.int .i64 o),(.int .i64 p),(.int .i64 q)])] d fun v w=>Ext d w/\∃ e,v=(.bool e)/\((e=true)->∀ r,Ext b r->u (.int .i64 a) r)/\((e=false)->InR .i64 (a+1)/\(f (a+1) b/\t (a+1) b<t a b))))/\(((g:Int)<=a)->∀ s,Ext b s->u (.int .i64 (-1)) s)
theorem zbq (a:Option Addr) (b c:Nat) (d:Value) (e:World) (f:Value->World->Prop) (h:zde a b c d e f):FnP Tryz.prog zap #[(.slice a b c),d] e f:=
 zab (Eq.mp (by kernel_rfl:_=Runs Tryz.prog f ({N:=19}:Cfg) Tryz.f110 (Tryz.f110.body.getD .skip) [.sc (.slc a b c),.sc (.val d)] e) h) Tryz.func110 (by kernel_rfl) (fun a w=>Tryz.call110 a w) (by kernel_rfl) (by kernel_rfl) rfl rfl
abbrev zaT:FuncId:=21
abbrev zbn:FuncId:=22
abbrev zaS:FuncId:=24
abbrev zcE:FuncId:=81
def zkU (a:Option Addr) (an:ByteArray) (ao ap aq ar au:Int) (av aw:ByteArray) (ax:Int) (ay:Option Addr) (az aA:Nat) (i:Option Addr) (g aB:Nat) (j:World) (n:Value->World->Prop):Prop:=
 ∀ f:Nat,j.heap.size<=f->∀ q,Ext j q->FnP Tryz.prog zdn #[(.agg #[(.string an),(.int .i64 ao),(.int .i64 ap),(.int .i64 aq),(.int .i64 ar),(.int .i64 au),(.string av),(.string aw),(.int .i64 ax),(.slice ay az aA),(.slice i g aB)])] q fun aG aH=>Ext q aH/\∃ o,aG=(.int .i64 o)/\((o≠0)->∀ y,Ext j y->n (.tuple #[(.int .i64 0),(.int .i64 o)]) y)/\((o=0)->a≠none/\a≠none/\∃ aC r aD,cell j (pAdd a 6) 0=some (.slice aC r aD)/\(((r:Int)=60)->∀ z,Ext j z->n (.tuple #[(.int .i64 0),(.int .i64 7)]) z)/\(((r:Int)≠60)->∃ (w:Int->World->Prop) (al:Int->World->Nat),w 0 j/\∀ (c:Int) (m:World),w c m->(((c<(g:Int))->i≠none/\(0:Int)<=c/\(c:Int)<(g:Int)/\∃ A,cell m (pIdx i c 1) 0=some (.int .i64 A)/\∀ s,zag [] [f] m s->FnP Tryz.prog zbc #[(.pointer a),(.int .i64 A)] s fun aI b=>Ext s b/\∃ e,aI=(.pointer e)/\((e=none)->∀ h,Ext b h->n (.tuple #[(.int .i64 0),(.int .i64 5)]) h)/\((e≠none)->InR .i64 (c+1)/\(w (c+1) b/\al (c+1) b<al c m))))/\(((g:Int)<=c)->∃ (x:Int->World->Prop) (am:Int->World->Nat),x 0 m/\∀ (d:Int) (b:World),x d b->(((d<(g:Int))->i≠none/\(0:Int)<=d/\(d:Int)<(g:Int)/\∃ e,cell b (pIdx i d 1) 0=some (.int .i64 e)/\∀ h,zag [] [f] b h->FnP Tryz.prog zbc #[(.pointer a),(.int .i64 e)] h fun aJ l=>Ext h l/\∃ p,aJ=(.pointer p)/\p≠none/\p≠none/\∃ k,cell l (pAdd p 11) 0=some (.int .i64 k)/\(((k=4)\/(k=5))->∀ B,Ext l B->n (.tuple #[(.int .i64 0),(.int .i64 9)]) B)/\(((k≠4)/\(k≠5))->InR .i64 (d+1)/\(x (d+1) l/\am (d+1) l<am d b))))/\(((g:Int)<=d)->a≠none/\a≠none/\∃ e C D,cell b (pAdd a 6) 0=some (.slice e C D)/\∀ t,zag [] [f] b t->FnP Tryz.prog zjr #[(.agg #[(.string an),(.int .i64 ao),(.int .i64 ap),(.int .i64 aq),(.int .i64 ar),(.int .i64 au),(.string av),(.string aw),(.int .i64 ax),(.slice ay az aA),(.slice i g aB),(.int .i64 1),(.int .i64 0),(.int .i64 0),(.int .i64 0),(.int .i64 0)])] t fun aK ah=>Ext t ah/\∃ E F G H I J K L M N O P R S T U V W X Y,aK=(.agg #[(.string E),(.int .i64 F),(.int .i64 G),(.int .i64 H),(.int .i64 I),(.int .i64 J),(.string K),(.string L),(.int .i64 M),(.slice N O P),(.slice R S T),(.int .i64 U),(.int .i64 V),(.int .i64 W),(.int .i64 X),(.int .i64 Y)])/\∀ u,zag [] [f] ah u->Run Tryz.prog (.buildSlice 57 1 [(0,(.agg #[(.string E),(.int .i64 F),(.int .i64 G),(.int .i64 H),(.int .i64 I),(.int .i64 J),(.string K),(.string L),(.int .i64 M),(.slice N O P),(.slice R S T),(.int .i64 U),(.int .i64 V),(.int .i64 W),(.int .i64 X),(.int .i64 Y)]))]) u fun aL ai=>Ext u ai/\∃ Z aa ab,aL=(.slice Z aa ab)/\∀ v,zag [] [f] ai v->Run Tryz.prog (.append #[57,57] 57 [(.slice e C D),(.slice Z aa ab)]) v fun aM aj=>zbM [f] v aj/\∃ ac ad ae,aM=(.slice ac ad ae)/\a≠none/\a≠none/\zao aj (pAdd a 6) [(.slice ac ad ae)] [f] fun ak=>a≠none/\a≠none/\∃ aE af aF,cell ak (pAdd a 6) 0=some (.slice aE af aF)/\∀ ag,Ext ak ag->n (.tuple #[(.int .i64 (af:Int)),(.int .i64 0)]) ag))))
theorem zdq (a:Option Addr) (b:ByteArray) (c d e f g:Int) (i j:ByteArray) (k:Int) (l:Option Addr) (m n:Nat) (o:Option Addr) (p q:Nat) (r:World) (s:Value->World->Prop) (h:zkU a b c d e f g i j k l m n o p q r s):FnP Tryz.prog zaT #[(.pointer a),(.agg #[(.string b),(.int .i64 c),(.int .i64 d),(.int .i64 e),(.int .i64 f),(.int .i64 g),(.string i),(.string j),(.int .i64 k),(.slice l m n),(.slice o p q)])] r s:=
 zab (Eq.mp (by kernel_rfl:_=Runs Tryz.prog s ({N:=72}:Cfg) Tryz.f21 (Tryz.f21.body.getD .skip) [.sc (.ptr a),.agg [.str b,.int .i64 c,.int .i64 d,.int .i64 e,.int .i64 f,.int .i64 g,.str i,.str j,.int .i64 k,.slc l m n,.slc o p q]] r) h) Tryz.func21 (by kernel_rfl) (fun a w=>Tryz.call21 a w) (by kernel_rfl) (by kernel_rfl) rfl rfl
def zkT (b:Option Addr) (F:Int) (x:Bool) (G:World) (g:Value->World->Prop):Prop:=
 ∀ i,Ext G i->FnP Tryz.prog zbc #[(.pointer b),(.int .i64 F)] i fun y f=>Ext i f/\∃ a,y=(.pointer a)/\((a=none)->∀ r,Ext f r->g (.int .i64 5) r)/\((a≠none)->a≠none/\a≠none/\∃ j,cell f (pAdd a 11) 0=some (.int .i64 j)/\((j≠2)->∀ d,Ext f d->g (.int .i64 9) d)/\((j=2)->∀ d,Ext f d->FnP Tryz.prog zbZ #[(.pointer b),(.pointer a)] d fun z p=>z=(.tuple #[])/\(((x=true)->a≠none/\a≠none/\zao p (pAdd a 11) [(.int .i64 3)] [] fun A=>∀ c,Ext A c->g (.int .i64 0) c))/\((x=false)->a≠none/\a≠none/\∃ k,cell p (pAdd a 15) 0=some (.int .i64 k)/\InR .i64 (k+1)/\a≠none/\a≠none/\zao p (pAdd a 15) [(.int .i64 (k+1))] [] fun c=>b≠none/\b≠none/\(pAdd b 1)≠none/\∃ s,cell c (pAdd b 1) 0=some (.int .i64 s)/\∃ t,cell c (pAdd b 1) 1=some (.int .i64 t)/\∃ u,cell c (pAdd b 1) 2=some (.int .i64 u)/\∃ v,cell c (pAdd b 1) 3=some (.int .i64 v)/\a≠none/\a≠none/\∃ w,cell c (pAdd a 15) 0=some (.int .i64 w)/\∀ l,Ext c l->FnP Tryz.prog zdK #[(.agg #[(.int .i64 s),(.int .i64 t),(.int .i64 u),(.int .i64 v)]),(.int .i64 w)] l fun B C=>Ext l C/\∃ m n,B=(.tuple #[(.int .i64 m),(.int .i64 n)])/\(((n≠0)->a≠none/\a≠none/\zao c (pAdd a 11) [(.int .i64 4)] [] fun D=>∀ h,Ext D h->FnP Tryz.prog zaD #[(.pointer b)] h fun E q=>E=(.tuple #[])/\∀ e,Ext q e->g (.int .i64 0) e))/\((n=0)->b≠none/\b≠none/\∃ o,cell c (pAdd b 5) 0=some (.int .i64 o)/\InR .i64 (o+m)/\a≠none/\a≠none/\zao c (pAdd a 11) [(.int .i64 1)] [] fun h=>a≠none/\a≠none/\zao h (pAdd a 14) [(.int .i64 (o+m))] [] fun q=>∀ e,Ext q e->g (.int .i64 0) e))))
theorem zkF (a:Option Addr) (b:Int) (c:Bool) (d:World) (e:Value->World->Prop) (h:zkT a b c d e):FnP Tryz.prog zaS #[(.pointer a),(.int .i64 b),(.bool c)] d e:=
 zab (Eq.mp (by kernel_rfl:_=Runs Tryz.prog e ({N:=67,muts:=[74,76]}:Cfg) Tryz.f24 (Tryz.f24.body.getD .skip) [.sc (.ptr a),.sc (.int .i64 b),.sc (.bool (.atom true c))] d) h) Tryz.func24 (by kernel_rfl) (fun a w=>Tryz.call24 a w) (by kernel_rfl) (by kernel_rfl) rfl rfl
def zkS (i:Option Addr) (w:Int) (x:World) (j:Value->World->Prop):Prop:=
 ∀ m,Ext x m->FnP Tryz.prog zbc #[(.pointer i),(.int .i64 w)] m fun r b=>Ext m b/\∃ a,r=(.pointer a)/\((a=none)->∀ p,Ext b p->j (.int .i64 5) p)/\((a≠none)->a≠none/\a≠none/\∃ k,cell b (pAdd a 11) 0=some (.int .i64 k)/\((k≠1)->a≠none)/\((k≠1)->a≠none)/\(((k≠1)->∃ f,cell b (pAdd a 11) 0=some (.int .i64 f)/\((f≠2)->∀ g,Ext b g->j (.int .i64 9) g)/\((f=2)->a≠none/\a≠none/\∃ n,cell b (pAdd a 11) 0=some (.int .i64 n)/\(((n=2)->∀ c,Ext b c->FnP Tryz.prog zbZ #[(.pointer i),(.pointer a)] c fun o e=>o=(.tuple #[])/\a≠none/\a≠none/\zao e (pAdd a 11) [(.int .i64 5)] [] fun d=>∀ h,Ext d h->FnP Tryz.prog zaD #[(.pointer i)] h fun s l=>s=(.tuple #[])/\∀ q,Ext l q->j (.int .i64 0) q))/\((n≠2)->a≠none/\a≠none/\zao b (pAdd a 11) [(.int .i64 5)] [] fun c=>∀ e,Ext c e->FnP Tryz.prog zaD #[(.pointer i)] e fun t d=>t=(.tuple #[])/\∀ h,Ext d h->j (.int .i64 0) h))))/\((k=1)->a≠none/\a≠none/\∃ f,cell b (pAdd a 11) 0=some (.int .i64 f)/\(((f=2)->∀ g,Ext b g->FnP Tryz.prog zbZ #[(.pointer i),(.pointer a)] g fun u c=>u=(.tuple #[])/\a≠none/\a≠none/\zao c (pAdd a 11) [(.int .i64 5)] [] fun e=>∀ d,Ext e d->FnP Tryz.prog zaD #[(.pointer i)] d fun v h=>v=(.tuple #[])/\∀ l,Ext h l->j (.int .i64 0) l))/\((f≠2)->a≠none/\a≠none/\zao b (pAdd a 11) [(.int .i64 5)] [] fun g=>∀ c,Ext g c->FnP Tryz.prog zaD #[(.pointer i)] c fun o e=>o=(.tuple #[])/\∀ d,Ext e d->j (.int .i64 0) d)))
theorem zkE (a:Option Addr) (b:Int) (c:World) (d:Value->World->Prop) (h:zkS a b c d):FnP Tryz.prog zcE #[(.pointer a),(.int .i64 b)] c d:=
 zab (Eq.mp (by kernel_rfl:_=Runs Tryz.prog d ({N:=38,muts:=[74,76]}:Cfg) Tryz.f81 (Tryz.f81.body.getD .skip) [.sc (.ptr a),.sc (.int .i64 b)] c) h) Tryz.func81 (by kernel_rfl) (fun a w=>Tryz.call81 a w) (by kernel_rfl) (by kernel_rfl) rfl rfl
def znl (c:Option Addr) (bj:World) (bk:Value->World->Prop):Prop:=
 ∀ x,Ext bj x->FnP Tryz.prog zki #[] x fun aX K=>Ext x K/\∃ l,aX=(.pointer l)/\c≠none/\c≠none/\∃ aS y aT,cell K (pAdd c 6) 0=some (.slice aS y aT)/\∃ (t:Int->World->Prop) (u:Int->World->Nat),t 0 K/\∀ (b:Int) (f:World),t b f->(((b<(y:Int))->c≠none/\c≠none/\∃ g M aU,cell f (pAdd c 6) 0=some (.slice g M aU)/\g≠none/\(0:Int)<=b/\(b:Int)<(M:Int)/\∀ z,Ext f z->FnP Tryz.prog zec #[(.pointer c),(.pointer (pIdx g b 16))] z fun aY aZ=>Ext z aZ/\∃ A,aY=(.bool A)/\(((A=true)->(pIdx g b 16)≠none/\(pIdx g b 16)≠none/\(pAdd (pIdx g b 16) 0)≠none/\∃ N,cell f (pAdd (pAdd (pIdx g b 16) 0) 1) 0=some (.int .i64 N)/\InR .i64 (b+1)/\∀ p,Ext f p->FnP Tryz.prog zef #[(.pointer l),(.int .i64 N),(.int .i64 (b+1))] p fun a0 aK=>∃ aV,a0=(.int .i64 aV)/\InR .i64 (b+1)/\(t (b+1) aK/\u (b+1) aK<u b f)))/\((A=false)->InR .i64 (b+1)/\(t (b+1) f/\u (b+1) f<u b f))))/\(((y:Int)<=b)->∀ O,Ext f O->FnP Tryz.prog za5 #[(.pointer l)] O fun a1 a2=>∃ P R S,a1=(.tuple #[(.agg #[(.int .i64 P),(.int .i64 R)]),(.bool S)])/\∀ T,Ext a2 T->New T 145 [(.int .i64 0),(.int .i64 0)] fun aL a3=>zao a3 aL [(.int .i64 P),(.int .i64 R)] [] fun p=>∃ (v:Option Addr->Nat->Nat->Option Addr->Bool->World->Prop) (w:Option Addr->Nat->Nat->Option Addr->Bool->World->Nat),v none 0 0 aL S p/\∀ (h:Option Addr) (i:Nat) (j:Nat) (e:Option Addr) (o:Bool) (k:World),v h i j e o k->(((o=true)->e≠none/\∃ U,cell k (pAdd e 1) 0=some (.int .i64 U)/\∀ B,Ext k B->FnP Tryz.prog zbc #[(.pointer c),(.int .i64 U)] B fun a4 d=>Ext B d/\∃ a,a4=(.pointer a)/\c≠none/\c≠none/\∃ V W X,cell d (pAdd c 0) 0=some (.slice V W X)/\a≠none/\a≠none/\(pAdd a 0)≠none/\(pAdd (pAdd a 0) 5)≠none/\∃ Y,cell d (pAdd (pAdd a 0) 5) 0=some (.int .i64 Y)/\∃ Z,cell d (pAdd (pAdd a 0) 5) 1=some (.string Z)/\∃ aa,cell d (pAdd (pAdd a 0) 5) 2=some (.string aa)/\∃ ab,cell d (pAdd (pAdd a 0) 5) 3=some (.int .i64 ab)/\∃ ac ad ae,cell d (pAdd (pAdd a 0) 5) 4=some (.slice ac ad ae)/\a≠none/\a≠none/\(pAdd a 0)≠none/\(pAdd (pAdd a 0) 2)≠none/\∃ af,cell d (pAdd (pAdd a 0) 2) 0=some (.int .i64 af)/\∃ ag,cell d (pAdd (pAdd a 0) 2) 1=some (.int .i64 ag)/\∃ ah,cell d (pAdd (pAdd a 0) 2) 2=some (.int .i64 ah)/\∀ C,Ext d C->FnP Tryz.prog zfn #[(.slice V W X),(.agg #[(.int .i64 Y),(.string Z),(.string aa),(.int .i64 ab),(.slice ac ad ae)]),(.agg #[(.int .i64 af),(.int .i64 ag),(.int .i64 ah)])] C fun a5 a6=>Ext C a6/\∃ q D,a5=(.tuple #[(.int .i64 q),(.int .i64 D)])/\(((D≠0)->e≠none/\∃ m,cell d e 0=some (.int .i64 m)/\∃ ai,cell d e 1=some (.int .i64 ai)/\∀ aj,Ext d aj->New aj 145 [(.int .i64 0),(.int .i64 0)] fun r a7=>zao a7 r [(.int .i64 m),(.int .i64 ai)] [] fun a8=>∀ ak,Ext a8 ak->FnP Tryz.prog za5 #[(.pointer l)] ak fun a9 n=>∃ al am E,a9=(.tuple #[(.agg #[(.int .i64 al),(.int .i64 am)]),(.bool E)])/\zao n r [(.int .i64 al),(.int .i64 am)] [] fun aM=>(v h i j r E aM/\w h i j r E aM<w h i j e o k)))/\((D=0)->c≠none/\c≠none/\∃ m an ao,cell d (pAdd c 0) 0=some (.slice m an ao)/\a≠none/\a≠none/\(pAdd a 0)≠none/\(pAdd (pAdd a 0) 2)≠none/\∃ ap,cell d (pAdd (pAdd a 0) 2) 0=some (.int .i64 ap)/\∃ aq,cell d (pAdd (pAdd a 0) 2) 1=some (.int .i64 aq)/\∃ ar,cell d (pAdd (pAdd a 0) 2) 2=some (.int .i64 ar)/\∀ n,Ext d n->FnP Tryz.prog zkg #[(.slice m an ao),(.int .i64 q),(.agg #[(.int .i64 ap),(.int .i64 aq),(.int .i64 ar)])] n fun ba aN=>Ext n aN/\∃ au av aw aW,ba=(.tuple #[(.slice au av aw),(.int .i64 aW)])/\c≠none/\c≠none/\zao aN (pAdd c 0) [(.slice au av aw)] [] fun aO=>c≠none/\c≠none/\∃ ax,cell aO (pAdd c 5) 0=some (.int .i64 ax)/\a≠none/\a≠none/\zao aO (pAdd a 11) [(.int .i64 2)] [] fun bb=>a≠none/\a≠none/\zao bb (pAdd a 12) [(.int .i64 q)] [] fun bc=>a≠none/\a≠none/\zao bc (pAdd a 13) [(.int .i64 ax)] [] fun aP=>e≠none/\∃ ay,cell aP (pAdd e 1) 0=some (.int .i64 ay)/\∀ F,Ext aP F->Run Tryz.prog (.buildSlice 54 1 [(0,(.agg #[(.int .i64 ay),(.int .i64 q)]))]) F fun bd aQ=>Ext F aQ/\∃ az aA aB,bd=(.slice az aA aB)/\∀ aC,Ext aQ aC->Run Tryz.prog (.append #[54,54] 54 [(.slice h i j),(.slice az aA aB)]) aC fun be L=>∃ G H I,be=(.slice G H I)/\e≠none/\∃ aD,cell L e 0=some (.int .i64 aD)/\∃ aE,cell L e 1=some (.int .i64 aE)/\∀ aF,Ext L aF->New aF 145 [(.int .i64 0),(.int .i64 0)] fun s bf=>zao bf s [(.int .i64 aD),(.int .i64 aE)] [] fun bg=>∀ aG,Ext bg aG->FnP Tryz.prog za5 #[(.pointer l)] aG fun bh bi=>∃ aH aI J,bh=(.tuple #[(.agg #[(.int .i64 aH),(.int .i64 aI)]),(.bool J)])/\zao bi s [(.int .i64 aH),(.int .i64 aI)] [] fun aR=>(v G H I s J aR/\w G H I s J aR<w h i j e o k))))/\((o=false)->∀ aJ,Ext k aJ->bk (.tuple #[(.slice h i j),(.int .i64 0)]) aJ))
theorem zmO (a:Option Addr) (b:World) (c:Value->World->Prop) (h:znl a b c):FnP Tryz.prog zbn #[(.pointer a)] b c:=
 zab (Eq.mp (by kernel_rfl:_=Runs Tryz.prog c ({N:=116,pub:=[8],muts:=[71,72]}:Cfg) Tryz.f22 (Tryz.f22.body.getD .skip) [.sc (.ptr a)] b) h) Tryz.func22 (by kernel_rfl) (fun a w=>Tryz.call22 a w) (by kernel_rfl) (by kernel_rfl) rfl rfl
abbrev zjq:FuncId:=48
abbrev zio:FuncId:=202
abbrev ziI:FuncId:=203
abbrev zgK:FuncId:=204
abbrev zcb:FuncId:=205
abbrev ziq:FuncId:=206
abbrev zgL:FuncId:=207
abbrev zeO:FuncId:=208
abbrev zif:FuncId:=209
abbrev zfY:FuncId:=211
abbrev zd4:FuncId:=212
abbrev zig:FuncId:=213
abbrev zd5:FuncId:=214
abbrev zez:FuncId:=215
abbrev zd6:FuncId:=216
abbrev zd7:FuncId:=217
abbrev zir:FuncId:=218
abbrev zk2:FuncId:=219
abbrev zgM:FuncId:=220
abbrev zeP:FuncId:=221
abbrev zmc:FuncId:=251
abbrev zev:FuncId:=252
abbrev zhi:FuncId:=253
def zp7  (w:World) (Q:Value->World->Prop):Prop :=
  ∀ w0,Ext w w0 ->
  New w0 192 [(.slice none 0 0),(.pointer none)] fun p1 w1 =>
   ∀ w2,Ext w1 w2 ->
   Q (.pointer p1) w2
theorem zxw  (w:World) (Q:Value->World->Prop) (h:zp7  w Q):FnP Tryz.prog zjq #[] w Q:=by
  have e_:zp7  w Q=Runs Tryz.prog Q ({ N:=3,wrap:=[],pub:=[2,1],muts:=[],joins:=[] }:Cfg) Tryz.f48 (Tryz.f48.body.getD .skip) [] w:=by kernel_rfl
  rw [e_] at h
  exact zab h Tryz.func48 (by kernel_rfl) (fun args w=>Tryz.call48 args w) (by kernel_rfl) (by kernel_rfl) rfl rfl
def ztC (b:Int) (f:World) (g:Value->World->Prop):Prop:=
 ((b=0)->∀ a,Ext f a->g .nilIface a)/\((b≠0)->∀ a,Ext f a->Run Tryz.prog (.makeInterface 24 (.int .i64 b)) a fun h e=>Ext a e/\∃ c,h=c/\∀ d,Ext e d->g c d)
theorem zsZ (a:Int) (b:World) (c:Value->World->Prop) (h:ztC a b c):FnP Tryz.prog zcb #[(.int .i64 a)] b c:=
 zab (Eq.mp (by kernel_rfl:_=Runs Tryz.prog c ({N:=7}:Cfg) Tryz.f205 (Tryz.f205.body.getD .skip) [.sc (.int .i64 a)] b) h) Tryz.func205 (by kernel_rfl) (fun a w=>Tryz.call205 a w) (by kernel_rfl) (by kernel_rfl) rfl rfl
def zp8 (i:Option Addr) (w R:Nat) (a:Int) (F:World) (m:Value->World->Prop):Prop:=
 i≠none/\(0:Int)<=a/\(a:Int)<(w:Int)/\∃ x,cell F (pIdx i a 1) 0=some (.string x)/\∀ n,Ext F n->FnP Tryz.prog zbR #[(.string x),(.int .i64 10),(.int .i64 64)] n fun G c=>Ext n c/\∃ j y,G=(.tuple #[(.int .i64 j),y])/\∀ o,Ext c o->Run Tryz.prog (.eq .neq 175 false true y .nilIface) o fun H I=>Ext o I/\∃ d,H=(.bool d)/\((d=false)->i≠none)/\((d=false)->(0:Int)<=a)/\((d=false)->(a:Int)<(w:Int))/\(((d=true)->∀ p,Ext c p->Run Tryz.prog (.makeInterface 24 (.int .i64 3)) p fun J f=>Ext p f/\∃ q,J=q/\Value.oneCell' q=true/\∀ k,Ext f k->Run Tryz.prog (.makeInterface 257 (.agg #[(.int .i64 a),q])) k fun K g=>Ext k g/\∃ z,K=z/\∀ l,Ext g l->m (.tuple #[(.int .i64 0),z]) l))/\((d=false)->∃ e,cell c (pIdx i a 1) 0=some (.string e)/\(((e.size:Int)<=18)->i≠none)/\(((e.size:Int)<=18)->(0:Int)<=a)/\(((e.size:Int)<=18)->(a:Int)<(w:Int))/\(((18<(e.size:Int))->∀ f,Ext c f->Run Tryz.prog (.makeInterface 24 (.int .i64 3)) f fun L h=>Ext f h/\∃ r,L=r/\Value.oneCell' r=true/\∀ g,Ext h g->Run Tryz.prog (.makeInterface 257 (.agg #[(.int .i64 a),r])) g fun M b=>Ext g b/\∃ A,M=A/\∀ B,Ext b B->m (.tuple #[(.int .i64 0),A]) B))/\(((e.size:Int)<=18)->∃ s,cell c (pIdx i a 1) 0=some (.string s)/\∀ h,Ext c h->FnP Tryz.prog zby #[(.int .i64 j),(.int .i64 10)] h fun N k=>Ext h k/\∃ t,N=(.string t)/\((((t≠s)\/(j<0))->∀ b,Ext c b->Run Tryz.prog (.makeInterface 24 (.int .i64 3)) b fun O l=>Ext b l/\∃ u,O=u/\Value.oneCell' u=true/\∀ v,Ext l v->Run Tryz.prog (.makeInterface 257 (.agg #[(.int .i64 a),u])) v fun P E=>Ext v E/\∃ C,P=C/\∀ D,Ext E D->m (.tuple #[(.int .i64 0),C]) D))/\(((t=s)/\(0<=j))->∀ b,Ext c b->m (.tuple #[(.int .i64 j),.nilIface]) b)))
theorem zpB (a:Option Addr) (b c:Nat) (d:Int) (e:World) (f:Value->World->Prop) (h:zp8 a b c d e f):FnP Tryz.prog zev #[(.slice a b c),(.int .i64 d)] e f:=
 zab (Eq.mp (by kernel_rfl:_=Runs Tryz.prog f ({N:=44}:Cfg) Tryz.f252 (Tryz.f252.body.getD .skip) [.sc (.slc a b c),.sc (.int .i64 d)] e) h) Tryz.func252 (by kernel_rfl) (fun a w=>Tryz.call252 a w) (by kernel_rfl) (by kernel_rfl) rfl rfl
def zq5 (u:ByteArray) (H:World) (v:Value->World->Prop):Prop:=
 ((u=(⟨#[45]⟩:ByteArray))->∀ d,Ext H d->v (.tuple #[(.slice none 0 0),.nilIface]) d)/\((u≠(⟨#[45]⟩:ByteArray))->∀ d,Ext H d->FnP Tryz.prog zbi #[(.string u),(.string (⟨#[44]⟩:ByteArray))] d fun J E=>Ext d E/\∃ l h I,J=(.slice l h I)/\∃ (t:Option Addr->Nat->Nat->Int->World->Prop) (G:Option Addr->Nat->Nat->Int->World->Nat),t none 0 0 0 E/\∀ (i:Option Addr) (j:Nat) (k:Nat) (a:Int) (c:World),t i j k a c->(((a<(h:Int))->l≠none/\(0:Int)<=a/\(a:Int)<(h:Int)/\∃ w,cell c (pIdx l a 1) 0=some (.string w)/\∀ m,Ext c m->FnP Tryz.prog zdL #[(.string w),(.string (⟨#[61]⟩:ByteArray))] m fun K L=>Ext m L/\∃ x y n,K=(.tuple #[(.string x),(.string y),(.bool n)])/\(((n=false)->∀ b,Ext c b->Run Tryz.prog (.makeInterface 24 (.int .i64 3)) b fun s g=>Ext b g/\∃ e,s=e/\Value.oneCell' e=true/\∀ o,Ext g o->Run Tryz.prog (.makeInterface 257 (.agg #[(.int .i64 3),e])) o fun M F=>Ext o F/\∃ z,M=z/\∀ f,Ext F f->v (.tuple #[(.slice none 0 0),z]) f))/\((n=true)->∀ b,Ext c b->Run Tryz.prog (.buildSlice 74 1 [(0,(.agg #[(.string x),(.string y)]))]) b fun s g=>Ext b g/\∃ e A B,s=(.slice e A B)/\∀ C,Ext g C->Run Tryz.prog (.append #[74,74] 74 [(.slice i j k),(.slice e A B)]) C fun N f=>∃ p q r,N=(.slice p q r)/\InR .i64 (a+1)/\(t p q r (a+1) f/\G p q r (a+1) f<G i j k a c))))/\(((h:Int)<=a)->∀ D,Ext c D->v (.tuple #[(.slice i j k),.nilIface]) D))
theorem zqH (a:ByteArray) (b:World) (c:Value->World->Prop) (h:zq5 a b c):FnP Tryz.prog zhi #[(.string a)] b c:=
 zab (Eq.mp (by kernel_rfl:_=Runs Tryz.prog c ({N:=38}:Cfg) Tryz.f253 (Tryz.f253.body.getD .skip) [.sc (.str a)] b) h) Tryz.func253 (by kernel_rfl) (fun a w=>Tryz.call253 a w) (by kernel_rfl) (by kernel_rfl) rfl rfl
def ztB (b:Int) (c:World) (d:Value->World->Prop):Prop:=
 ∀ a,Ext c a->d (.int .i64 b) a
theorem zlD (a:Int) (b:World) (c:Value->World->Prop) (h:ztB a b c):FnP Tryz.prog zez #[(.int .i64 a)] b c:=
 zab (Eq.mp (by kernel_rfl:_=Runs Tryz.prog c ({N:=4}:Cfg) Tryz.f215 (Tryz.f215.body.getD .skip) [.sc (.int .i64 a)] b) h) Tryz.func215 (by kernel_rfl) (fun a w=>Tryz.call215 a w) (by kernel_rfl) (by kernel_rfl) rfl rfl
def zq6 (h:Bool) (k:Value) (i:World) (j:Value->World->Prop):Prop:=
 (((h=true)->∀ a,Ext i a->Run Tryz.prog (.makeInterface 24 (.int .i64 9)) a fun d c=>Ext a c/\∃ b,d=b/\∀ e,Ext c e->j (.tuple #[(.string (⟨#[]⟩:ByteArray)),b]) e))/\((h=false)->∀ a,Ext i a->zih Tryz.prog k [] a fun d c=>Ext a c/\∃ b f,d=(.tuple #[(.string b),f])/\∀ g,Ext c g->j (.tuple #[(.string b),f]) g)
theorem zj7 (a:Bool) (b:Value) (c:World) (d:Value->World->Prop) (h:zq6 a b c d):FnP Tryz.prog zk2 #[(.bool a),b] c d:=
 zab (Eq.mp (by kernel_rfl:_=Runs Tryz.prog d ({N:=12}:Cfg) Tryz.f219 (Tryz.f219.body.getD .skip) [.sc (.bool (.atom true a)),.sc (.val b)] c) h) Tryz.func219 (by kernel_rfl) (fun a w=>Tryz.call219 a w) (by kernel_rfl) (by kernel_rfl) rfl rfl
def znf (d i:Option Addr) (ac aA:Nat) (j:World) (x:Value->World->Prop):Prop:=
 i≠none/\(0:Int)<=2/\(2:Int)<(ac:Int)/\∃ ad,cell j (pIdx i 2 1) 0=some (.string ad)/\∀ B,Ext j B->FnP Tryz.prog zfo #[(.string ad)] B fun an ao=>Ext B ao/\∃ C D E y,an=(.tuple #[(.agg #[(.int .i64 C),(.int .i64 D),(.int .i64 E)]),(.int .i64 y)])/\∀ a:Nat,j.heap.size<=a->(((y≠0)->∀ F,zag [] [a] j F->Run Tryz.prog (.makeInterface 24 (.int .i64 y)) F fun ap g=>Ext F g/\∃ G,ap=G/\Value.oneCell' G=true/\∀ H,zag [] [a] g H->Run Tryz.prog (.makeInterface 257 (.agg #[(.int .i64 2),G])) H fun aq al=>Ext H al/\∃ ae,aq=ae/\∀ af,Ext al af->x (.tuple #[(.string (⟨#[]⟩:ByteArray)),ae]) af))/\((y=0)->i≠none/\(0:Int)<=3/\(3:Int)<(ac:Int)/\∃ ag,cell j (pIdx i 3 1) 0=some (.string ag)/\∀ g,zag [] [a] j g->FnP Tryz.prog zhi #[(.string ag)] g fun ar c=>Ext g c/\∃ I J K L,ar=(.tuple #[(.slice I J K),L])/\∀ M,Ext c M->Run Tryz.prog (.eq .neq 175 false true L .nilIface) M fun au av=>Ext M av/\∃ N,au=(.bool N)/\((N=true)->∀ ah,Ext c ah->x (.tuple #[(.string (⟨#[]⟩:ByteArray)),L]) ah)/\((N=false)->d≠none/\d≠none/\∃ O,cell c (pAdd d 1) 0=some (.pointer O)/\(((O≠none)->∀ P,zag [] [a] c P->Run Tryz.prog (.makeInterface 24 (.int .i64 9)) P fun aw am=>Ext P am/\∃ ai,aw=ai/\∀ h,Ext am h->x (.tuple #[(.string (⟨#[]⟩:ByteArray)),ai]) h))/\((O=none)->∃ (Y:Option Addr->Nat->Nat->World->Prop),(d≠none/\d≠none/\∃ R S T,cell c (pAdd d 0) 0=some (.slice R S T)/\i≠none/\(0:Int)<=1/\(1:Int)<(ac:Int)/\∃ U,cell c (pIdx i 1 1) 0=some (.string U)/\(∀ b,zag [] [a] c b->FnP Tryz.prog zaj #[(.slice R S T)] b fun V u=>Ext b u/\∃ k l m,V=(.slice k l m)/\∀ e,zag [] [a] u e->Run Tryz.prog (.buildSlice 34 1 [(0,(.agg #[(.string U),(.slice I J K),(.int .i64 C),(.int .i64 D),(.int .i64 E),(.int .i64 0),(.int .i64 0),(.int .i64 0)]))]) e fun W v=>Ext e v/\∃ n o p,W=(.slice n o p)/\∀ f,zag [] [a] v f->Run Tryz.prog (.append #[34,34] 34 [(.slice k l m),(.slice n o p)]) f fun X w=>zbM [a] f w/\∃ q r s,X=(.slice q r s)/\Y q r s w)/\∀ b,zag [] [a] c b->Run Tryz.prog (.buildSlice 34 1 [(0,(.agg #[(.string U),(.slice I J K),(.int .i64 C),(.int .i64 D),(.int .i64 E),(.int .i64 0),(.int .i64 0),(.int .i64 0)]))]) b fun V u=>Ext b u/\∃ k l m,V=(.slice k l m)/\∀ e,zag [] [a] u e->FnP Tryz.prog zaj #[(.slice R S T)] e fun W v=>Ext e v/\∃ n o p,W=(.slice n o p)/\∀ f,zag [] [a] v f->Run Tryz.prog (.append #[34,34] 34 [(.slice n o p),(.slice k l m)]) f fun X w=>zbM [a] f w/\∃ q r s,X=(.slice q r s)/\Y q r s w)/\∀ (Z:Option Addr) (aa:Nat) (ab:Nat) (A:World),Y Z aa ab A->∀ h,Ext A h->FnP Tryz.prog zcc #[(.slice Z aa ab)] h fun ax ay=>Ext h ay/\∃ z,ax=(.int .i64 z)/\(((z≠0)->∀ t,zag [] [a] A t->Run Tryz.prog (.makeInterface 24 (.int .i64 z)) t fun az b=>Ext t b/\∃ aj,az=aj/\∀ ak,Ext b ak->x (.tuple #[(.string (⟨#[]⟩:ByteArray)),aj]) ak))/\((z=0)->d≠none/\d≠none/\zao A (pAdd d 0) [(.slice Z aa ab)] [a] fun t=>∀ b,Ext t b->x (.tuple #[(.string (⟨#[111,107]⟩:ByteArray)),.nilIface]) b))))
theorem zmI (a b:Option Addr) (c d:Nat) (e:World) (f:Value->World->Prop) (h:znf a b c d e f):FnP Tryz.prog zeO #[(.pointer a),(.slice b c d)] e f:=
 zab (Eq.mp (by kernel_rfl:_=Runs Tryz.prog f ({N:=64,muts:=[21,29,22,24,81]}:Cfg) Tryz.f208 (Tryz.f208.body.getD .skip) [.sc (.ptr a),.sc (.slc b c d)] e) h) Tryz.func208 (by kernel_rfl) (fun a w=>Tryz.call208 a w) (by kernel_rfl) (by kernel_rfl) rfl rfl
def znh (a v:Option Addr) (w x:Nat) (f:World) (j:Value->World->Prop):Prop:=
 a≠none/\a≠none/\∃ g,cell f (pAdd a 1) 0=some (.pointer g)/\(((g≠none)->∀ h,Ext f h->Run Tryz.prog (.makeInterface 24 (.int .i64 9)) h fun s r=>Ext h r/\∃ k,s=k/\∀ b,Ext r b->j (.tuple #[(.string (⟨#[]⟩:ByteArray)),k]) b))/\((g=none)->a≠none/\a≠none/\∃ l m n,cell f (pAdd a 0) 0=some (.slice l m n)/\∀ b,Ext f b->FnP Tryz.prog zcW #[(.agg #[(.slice l m n),(.int .i64 10),(.int .i64 2),(.int .i64 100),(.int .i64 3)])] b fun t i=>Ext b i/\∃ o e,t=(.tuple #[(.pointer o),(.int .i64 e)])/\(((e≠0)->∀ c,Ext i c->Run Tryz.prog (.makeInterface 24 (.int .i64 e)) c fun u d=>Ext c d/\∃ p,u=p/\∀ q,Ext d q->j (.tuple #[(.string (⟨#[]⟩:ByteArray)),p]) q))/\((e=0)->a≠none/\a≠none/\zao i (pAdd a 1) [(.pointer o)] [] fun c=>∀ d,Ext c d->j (.tuple #[(.string (⟨#[111,107]⟩:ByteArray)),.nilIface]) d))
theorem zmK (a b:Option Addr) (c d:Nat) (e:World) (f:Value->World->Prop) (h:znh a b c d e f):FnP Tryz.prog zif #[(.pointer a),(.slice b c d)] e f:=
 zab (Eq.mp (by kernel_rfl:_=Runs Tryz.prog f ({N:=32,muts:=[21,29,22,24,81]}:Cfg) Tryz.f209 (Tryz.f209.body.getD .skip) [.sc (.ptr a),.sc (.slc b c d)] e) h) Tryz.func209 (by kernel_rfl) (fun a w=>Tryz.call209 a w) (by kernel_rfl) (by kernel_rfl) rfl rfl
def zkQ (n aa:Option Addr) (o p:Nat) (P:World) (R:Value->World->Prop):Prop:=
 (0:Int)<=1/\(1:Int)<=(o:Int)/\((o:Int):Int)<=(p:Int)/\∀ f,Ext P f->FnP Tryz.prog zbd #[(.slice (pCut aa p 1 1) ((o:Int)-1).toNat (p-(1:Int).toNat)),(.string (⟨#[32]⟩:ByteArray))] f fun S T=>Ext f T/\∃ q,S=(.string q)/\∀ g,Ext P g->FnP Tryz.prog zgN #[(.string q)] g fun U c=>Ext g c/\∃ r s t u v w x y z A B C D E F d,U=(.tuple #[(.agg #[(.string r),(.int .i64 s),(.int .i64 t),(.int .i64 u),(.int .i64 v),(.int .i64 w),(.string x),(.string y),(.int .i64 z),(.slice A B C),(.slice D E F)]),(.int .i64 d)])/\∀ a:Nat,c.heap.size<=a->(((d≠0)->∀ h,zag [] [a] c h->Run Tryz.prog (.makeInterface 24 (.int .i64 d)) h fun V b=>Ext h b/\∃ i,V=i/\Value.oneCell' i=true/\∀ j,zag [] [a] b j->Run Tryz.prog (.makeInterface 257 (.agg #[(.int .i64 1),i])) j fun W N=>Ext j N/\∃ G,W=G/\∀ e,Ext N e->R (.tuple #[(.string (⟨#[]⟩:ByteArray)),G]) e))/\((d=0)->n≠none/\n≠none/\∃ H,cell c (pAdd n 1) 0=some (.pointer H)/\∀ b,zag [] [a] c b->FnP Tryz.prog zaT #[(.pointer H),(.agg #[(.string r),(.int .i64 s),(.int .i64 t),(.int .i64 u),(.int .i64 v),(.int .i64 w),(.string x),(.string y),(.int .i64 z),(.slice A B C),(.slice D E F)])] b fun X m=>zbM [a] b m/\∃ I J,X=(.tuple #[(.int .i64 I),(.int .i64 J)])/\∀ k,Ext m k->FnP Tryz.prog zbt #[(.int .i64 I)] k fun Y e=>Ext k e/\∃ K,Y=(.string K)/\∀ l,zag [] [a] m l->FnP Tryz.prog zcb #[(.int .i64 J)] l fun Z O=>Ext l O/\∃ L,Z=L/\∀ M,Ext O M->R (.tuple #[(.string K),L]) M)
theorem zkD (a b:Option Addr) (c d:Nat) (e:World) (f:Value->World->Prop) (h:zkQ a b c d e f):FnP Tryz.prog zfY #[(.pointer a),(.slice b c d)] e f:=
 zab (Eq.mp (by kernel_rfl:_=Runs Tryz.prog f ({N:=35,muts:=[21,29,22,24,81]}:Cfg) Tryz.f211 (Tryz.f211.body.getD .skip) [.sc (.ptr a),.sc (.slc b c d)] e) h) Tryz.func211 (by kernel_rfl) (fun a w=>Tryz.call211 a w) (by kernel_rfl) (by kernel_rfl) rfl rfl
def zni (d ac:Option Addr) (ad ae:Nat) (O:World) (ab:Value->World->Prop):Prop:=
 d≠none/\d≠none/\∃ y,cell O (pAdd d 1) 0=some (.pointer y)/\∀ z,Ext O z->FnP Tryz.prog zbn #[(.pointer y)] z fun S K=>∃ e g P A,S=(.tuple #[(.slice e g P),(.int .i64 A)])/\d≠none/\d≠none/\∃ B,cell K (pAdd d 1) 0=some (.pointer B)/\∀ n,Ext K n->FnP Tryz.prog zaZ #[(.pointer B)] n fun T L=>Ext n L/\∃ h C R,T=(.slice h C R)/\∃ (x:Option Addr->Nat->Nat->Int->World->Prop) (N:Option Addr->Nat->Nat->Int->World->Nat),x none 0 0 0 L/\∀ (k:Option Addr) (l:Nat) (m:Nat) (a:Int) (b:World),x k l m a b->(((a<(g:Int))->e≠none/\(0:Int)<=a/\(a:Int)<(g:Int)/\(pIdx e a 2)≠none/\∃ D,cell b (pIdx e a 2) 0=some (.int .i64 D)/\∃ f,cell b (pIdx e a 2) 1=some (.int .i64 f)/\∀ i:Nat,b.heap.size<=i->h≠none/\(0:Int)<=f/\(f:Int)<(C:Int)/\(pIdx h f 8)≠none/\∃ o,cell b (pAdd (pIdx h f 8) 0) 0=some (.string o)/\∀ c,Ext b c->FnP Tryz.prog zbt #[(.int .i64 D)] c fun U V=>Ext c V/\∃ j,U=(.string j)/\zdk j (⟨#[64]⟩:ByteArray)/\zdk (j++(⟨#[64]⟩:ByteArray)) o/\∀ p,zag [] [i] b p->Run Tryz.prog (.buildSlice 22 1 [(0,(.string ((j++(⟨#[64]⟩:ByteArray))++o)))]) p fun W M=>Ext p M/\∃ E F G,W=(.slice E F G)/\∀ q,zag [] [i] M q->Run Tryz.prog (.append #[22,22] 22 [(.slice k l m),(.slice E F G)]) q fun X w=>zbM [i] q w/\∃ r s t,X=(.slice r s t)/\InR .i64 (a+1)/\(x r s t (a+1) w/\N r s t (a+1) w<N k l m a b)))/\(((g:Int)<=a)->∀ u,Ext b u->FnP Tryz.prog zbd #[(.slice k l m),(.string (⟨#[32]⟩:ByteArray))] u fun Y Z=>Ext u Z/\∃ H,Y=(.string H)/\∀ v,Ext b v->FnP Tryz.prog zcb #[(.int .i64 A)] v fun aa c=>Ext v c/\∃ I,aa=I/\∀ J,Ext c J->ab (.tuple #[(.string H),I]) J)
theorem zmL (a b:Option Addr) (c d:Nat) (e:World) (f:Value->World->Prop) (h:zni a b c d e f):FnP Tryz.prog zig #[(.pointer a),(.slice b c d)] e f:=
 zab (Eq.mp (by kernel_rfl:_=Runs Tryz.prog f ({N:=50,muts:=[21,29,22,24,81]}:Cfg) Tryz.f213 (Tryz.f213.body.getD .skip) [.sc (.ptr a),.sc (.slc b c d)] e) h) Tryz.func213 (by kernel_rfl) (fun a w=>Tryz.call213 a w) (by kernel_rfl) (by kernel_rfl) rfl rfl
def znj (h:Option Addr) (a:Int) (o:World) (p:Value->World->Prop):Prop:=
 h≠none/\h≠none/\∃ i,cell o (pAdd h 1) 0=some (.pointer i)/\∀ f,Ext o f->FnP Tryz.prog zaz #[(.pointer i)] f fun r b=>Ext f b/\∃ c d q,r=(.slice c d q)/\((((a<1)\/((d:Int)<a))->∀ g,Ext b g->Run Tryz.prog (.makeInterface 24 (.int .i64 5)) g fun s n=>Ext g n/\∃ j,s=j/\∀ k,Ext n k->p (.tuple #[(.string (⟨#[]⟩:ByteArray)),j]) k))/\(((1<=a)/\(a<=(d:Int)))->InR .i64 (a-1)/\c≠none/\(0:Int)<=(a-1)/\((a-1):Int)<(d:Int)/\(pIdx c (a-1) 16)≠none/\∃ e,cell b (pAdd (pIdx c (a-1) 16) 11) 0=some (.int .i64 e)/\(some (⟨4,0,none⟩:Addr))≠none/\(0:Int)<=e/\(e:Int)<6/\∃ l,cell b (pIdx (some (⟨4,0,none⟩:Addr)) e 1) 0=some (.string l)/\∀ m,Ext b m->p (.tuple #[(.string l),.nilIface]) m)
theorem zmM (a:Option Addr) (b:Int) (c:World) (d:Value->World->Prop) (h:znj a b c d):FnP Tryz.prog zeP #[(.pointer a),(.int .i64 b)] c d:=
 zab (Eq.mp (by kernel_rfl:_=Runs Tryz.prog d ({N:=29}:Cfg) Tryz.f221 (Tryz.f221.body.getD .skip) [.sc (.ptr a),.sc (.int .i64 b)] c) h) Tryz.func221 (by kernel_rfl) (fun a w=>Tryz.call221 a w) (by kernel_rfl) (by kernel_rfl) rfl rfl
def zn6 (e:Value) (f:World) (g:Value->World->Prop):Prop:=
 ∀ a,Ext f a->New a 322 [e] fun c d=>∀ b,Ext d b->g (.func (.func 251) #[] #[(.pointer c)]) b
theorem znU (a:Value) (b:World) (c:Value->World->Prop) (h:zn6 a b c):FnP Tryz.prog ziI #[a] b c:=
 zab (Eq.mp (by kernel_rfl:_=Runs Tryz.prog c ({N:=4,pub:=[1]}:Cfg) Tryz.f203 (Tryz.f203.body.getD .skip) [.sc (.val a)] b) h) Tryz.func203 (by kernel_rfl) (fun a w=>Tryz.call203 a w) (by kernel_rfl) (by kernel_rfl) rfl rfl
def zl0 (s:Option Addr) (t u:Nat) (v:Option Addr) (w:World) (m:Value->World->Prop):Prop:=
 ∀ b,Ext w b->FnP Tryz.prog zev #[(.slice s t u),(.int .i64 1)] b fun n a=>Ext b a/\∃ f c,n=(.tuple #[(.int .i64 f),c])/\∀ d,Ext a d->Run Tryz.prog (.eq .neq 175 false true c .nilIface) d fun o p=>Ext d p/\∃ e,o=(.bool e)/\((e=true)->∀ g,Ext a g->m (.tuple #[(.string (⟨#[]⟩:ByteArray)),c]) g)/\((e=false)->∃ h,cell a v 0=some h/\∀ i,Ext a i->zih Tryz.prog h [(.int .i64 f)] i fun q r=>∃ j k,q=(.tuple #[(.string j),k])/\∀ l,Ext r l->m (.tuple #[(.string j),k]) l)
theorem zgd (a:Option Addr) (b c:Nat) (d:Option Addr) (e:World) (f:Value->World->Prop) (h:zl0 a b c d e f):FnP Tryz.prog zmc #[(.slice a b c),(.pointer d)] e f:=
 zab (Eq.mp (by kernel_rfl:_=Runs Tryz.prog f ({N:=20,muts:=[1000000]}:Cfg) Tryz.f251 (Tryz.f251.body.getD .skip) [.sc (.slc a b c),.sc (.ptr d)] e) h) Tryz.func251 (by kernel_rfl) (fun a w=>Tryz.call251 a w) (by kernel_rfl) (by kernel_rfl) rfl rfl
def zh1 (i:Value) (j:World) (k:Value->World->Prop):Prop:=
 ∀ b,Ext j b->New b 70 [i] fun f g=>∀ a,Ext g a->FnP Tryz.prog ziI #[(.func (.func 204) #[] #[(.pointer f)])] a fun h e=>Ext a e/\∃ c,h=c/\∀ d,Ext e d->k c d
theorem zhJ (a:Value) (b:World) (c:Value->World->Prop) (h:zh1 a b c):FnP Tryz.prog zio #[a] b c:=
 zab (Eq.mp (by kernel_rfl:_=Runs Tryz.prog c ({N:=5,pub:=[1]}:Cfg) Tryz.f202 (Tryz.f202.body.getD .skip) [.sc (.val a)] b) h) Tryz.func202 (by kernel_rfl) (fun a w=>Tryz.call202 a w) (by kernel_rfl) (by kernel_rfl) rfl rfl
def zgD (l:Int) (m:Option Addr) (h:World) (n:Value->World->Prop):Prop:=
 ∃ b,cell h m 0=some b/\∀ c,Ext h c->zih Tryz.prog b [(.int .i64 l)] c fun i j=>∃ d,i=(.int .i64 d)/\∀ a,Ext j a->FnP Tryz.prog zcb #[(.int .i64 d)] a fun k g=>Ext a g/\∃ e,k=e/\∀ f,Ext g f->n (.tuple #[(.string (⟨#[111,107]⟩:ByteArray)),e]) f
theorem zgu (a:Int) (b:Option Addr) (c:World) (d:Value->World->Prop) (h:zgD a b c d):FnP Tryz.prog zgK #[(.int .i64 a),(.pointer b)] c d:=
 zab (Eq.mp (by kernel_rfl:_=Runs Tryz.prog d ({N:=9,muts:=[1000000]}:Cfg) Tryz.f204 (Tryz.f204.body.getD .skip) [.sc (.int .i64 a),.sc (.ptr b)] c) h) Tryz.func204 (by kernel_rfl) (fun a w=>Tryz.call204 a w) (by kernel_rfl) (by kernel_rfl) rfl rfl
def zh2 (e:Value) (f:Option Addr) (g:World) (h:Value->World->Prop):Prop:=
 ∀ a,Ext g a->New a 70 [e] fun c d=>∀ b,Ext d b->h (.func (.func 207) #[] #[(.pointer f),(.pointer c)]) b
theorem zhK (a:Value) (b:Option Addr) (c:World) (d:Value->World->Prop) (h:zh2 a b c d):FnP Tryz.prog ziq #[a,(.pointer b)] c d:=
 zab (Eq.mp (by kernel_rfl:_=Runs Tryz.prog d ({N:=5,pub:=[2]}:Cfg) Tryz.f206 (Tryz.f206.body.getD .skip) [.sc (.val a),.sc (.ptr b)] c) h) Tryz.func206 (by kernel_rfl) (fun a w=>Tryz.call206 a w) (by kernel_rfl) (by kernel_rfl) rfl rfl
def zgE (l:Int) (m n:Option Addr) (a:World) (i:Value->World->Prop):Prop:=
 ∃ b,cell a m 0=some (.pointer b)/\b≠none/\b≠none/\∃ c,cell a (pAdd b 1) 0=some (.pointer c)/\((c=none)->∀ d,Ext a d->i (.int .i64 9) d)/\((c≠none)->∃ e,cell a n 0=some e/\∀ f,Ext a f->zih Tryz.prog e [(.int .i64 l)] f fun j k=>∃ g,j=(.int .i64 g)/\∀ h,Ext k h->i (.int .i64 g) h)
theorem zgv (a:Int) (b c:Option Addr) (d:World) (e:Value->World->Prop) (h:zgE a b c d e):FnP Tryz.prog zgL #[(.int .i64 a),(.pointer b),(.pointer c)] d e:=
 zab (Eq.mp (by kernel_rfl:_=Runs Tryz.prog e ({N:=13,muts:=[1000000]}:Cfg) Tryz.f207 (Tryz.f207.body.getD .skip) [.sc (.int .i64 a),.sc (.ptr b),.sc (.ptr c)] d) h) Tryz.func207 (by kernel_rfl) (fun a w=>Tryz.call207 a w) (by kernel_rfl) (by kernel_rfl) rfl rfl
def zh3 (i:Int) (j:Option Addr) (b:World) (k:Value->World->Prop):Prop:=
 ∃ a,cell b j 0=some (.pointer a)/\a≠none/\a≠none/\∃ c,cell b (pAdd a 1) 0=some (.pointer c)/\∀ d,Ext b d->FnP Tryz.prog zcm #[(.pointer c),(.int .i64 i)] d fun g h=>∃ e,g=(.int .i64 e)/\∀ f,Ext h f->k (.int .i64 e) f
theorem zhL (a:Int) (b:Option Addr) (c:World) (d:Value->World->Prop) (h:zh3 a b c d):FnP Tryz.prog zd4 #[(.int .i64 a),(.pointer b)] c d:=
 zab (Eq.mp (by kernel_rfl:_=Runs Tryz.prog d ({N:=10,muts:=[21,29,22,24,81]}:Cfg) Tryz.f212 (Tryz.f212.body.getD .skip) [.sc (.int .i64 a),.sc (.ptr b)] c) h) Tryz.func212 (by kernel_rfl) (fun a w=>Tryz.call212 a w) (by kernel_rfl) (by kernel_rfl) rfl rfl
def zh4 (m:Int) (n:Option Addr) (b:World) (o:Value->World->Prop):Prop:=
 ∃ a,cell b n 0=some (.pointer a)/\a≠none/\a≠none/\∃ d,cell b (pAdd a 1) 0=some (.pointer d)/\∀ c,Ext b c->FnP Tryz.prog zez #[(.int .i64 m)] c fun i j=>Ext c j/\∃ e,i=(.int .i64 e)/\∀ f,Ext b f->FnP Tryz.prog zaS #[(.pointer d),(.int .i64 e),(.bool true)] f fun k l=>∃ g,k=(.int .i64 g)/\∀ h,Ext l h->o (.int .i64 g) h
theorem zhM (a:Int) (b:Option Addr) (c:World) (d:Value->World->Prop) (h:zh4 a b c d):FnP Tryz.prog zd5 #[(.int .i64 a),(.pointer b)] c d:=
 zab (Eq.mp (by kernel_rfl:_=Runs Tryz.prog d ({N:=11,muts:=[21,29,22,24,81]}:Cfg) Tryz.f214 (Tryz.f214.body.getD .skip) [.sc (.int .i64 a),.sc (.ptr b)] c) h) Tryz.func214 (by kernel_rfl) (fun a w=>Tryz.call214 a w) (by kernel_rfl) (by kernel_rfl) rfl rfl
def zh5 (m:Int) (n:Option Addr) (b:World) (o:Value->World->Prop):Prop:=
 ∃ a,cell b n 0=some (.pointer a)/\a≠none/\a≠none/\∃ d,cell b (pAdd a 1) 0=some (.pointer d)/\∀ c,Ext b c->FnP Tryz.prog zez #[(.int .i64 m)] c fun i j=>Ext c j/\∃ e,i=(.int .i64 e)/\∀ f,Ext b f->FnP Tryz.prog zaS #[(.pointer d),(.int .i64 e),(.bool false)] f fun k l=>∃ g,k=(.int .i64 g)/\∀ h,Ext l h->o (.int .i64 g) h
theorem zhN (a:Int) (b:Option Addr) (c:World) (d:Value->World->Prop) (h:zh5 a b c d):FnP Tryz.prog zd6 #[(.int .i64 a),(.pointer b)] c d:=
 zab (Eq.mp (by kernel_rfl:_=Runs Tryz.prog d ({N:=11,muts:=[21,29,22,24,81]}:Cfg) Tryz.f216 (Tryz.f216.body.getD .skip) [.sc (.int .i64 a),.sc (.ptr b)] c) h) Tryz.func216 (by kernel_rfl) (fun a w=>Tryz.call216 a w) (by kernel_rfl) (by kernel_rfl) rfl rfl
def zh6 (m:Int) (n:Option Addr) (b:World) (o:Value->World->Prop):Prop:=
 ∃ a,cell b n 0=some (.pointer a)/\a≠none/\a≠none/\∃ d,cell b (pAdd a 1) 0=some (.pointer d)/\∀ c,Ext b c->FnP Tryz.prog zez #[(.int .i64 m)] c fun i j=>Ext c j/\∃ e,i=(.int .i64 e)/\∀ f,Ext b f->FnP Tryz.prog zcE #[(.pointer d),(.int .i64 e)] f fun k l=>∃ g,k=(.int .i64 g)/\∀ h,Ext l h->o (.int .i64 g) h
theorem zhO (a:Int) (b:Option Addr) (c:World) (d:Value->World->Prop) (h:zh6 a b c d):FnP Tryz.prog zd7 #[(.int .i64 a),(.pointer b)] c d:=
 zab (Eq.mp (by kernel_rfl:_=Runs Tryz.prog d ({N:=11,muts:=[21,29,22,24,81]}:Cfg) Tryz.f217 (Tryz.f217.body.getD .skip) [.sc (.int .i64 a),.sc (.ptr b)] c) h) Tryz.func217 (by kernel_rfl) (fun a w=>Tryz.call217 a w) (by kernel_rfl) (by kernel_rfl) rfl rfl
def zh7 (m:Int) (j:Option Addr) (n:World) (o:Value->World->Prop):Prop:=
 ∀ d,Ext n d->New d 2 [(.int .i64 m)] fun k c=>∃ a,cell c j 0=some (.pointer a)/\a≠none/\a≠none/\∃ e,cell c (pAdd a 1) 0=some (.pointer e)/\∀ b,Ext c b->FnP Tryz.prog zk2 #[(.bool e.isNone),(.func (.func 220) #[] #[(.pointer j),(.pointer k)])] b fun l i=>Ext b i/\∃ f g,l=(.tuple #[(.string f),g])/\∀ h,Ext i h->o (.tuple #[(.string f),g]) h
theorem zhP (a:Int) (b:Option Addr) (c:World) (d:Value->World->Prop) (h:zh7 a b c d):FnP Tryz.prog zir #[(.int .i64 a),(.pointer b)] c d:=
 zab (Eq.mp (by kernel_rfl:_=Runs Tryz.prog d ({N:=14,pub:=[2]}:Cfg) Tryz.f218 (Tryz.f218.body.getD .skip) [.sc (.int .i64 a),.sc (.ptr b)] c) h) Tryz.func218 (by kernel_rfl) (fun a w=>Tryz.call218 a w) (by kernel_rfl) (by kernel_rfl) rfl rfl
def zgF (j k:Option Addr) (b:World) (l:Value->World->Prop):Prop:=
 ∃ c,cell b j 0=some (.pointer c)/\∃ d,cell b k 0=some (.int .i64 d)/\∀ a,Ext b a->FnP Tryz.prog zeP #[(.pointer c),(.int .i64 d)] a fun i h=>Ext a h/\∃ e f,i=(.tuple #[(.string e),f])/\∀ g,Ext h g->l (.tuple #[(.string e),f]) g
theorem zgw (a b:Option Addr) (c:World) (d:Value->World->Prop) (h:zgF a b c d):FnP Tryz.prog zgM #[(.pointer a),(.pointer b)] c d:=
 zab (Eq.mp (by kernel_rfl:_=Runs Tryz.prog d ({N:=9}:Cfg) Tryz.f220 (Tryz.f220.body.getD .skip) [.sc (.ptr a),.sc (.ptr b)] c) h) Tryz.func220 (by kernel_rfl) (fun a w=>Tryz.call220 a w) (by kernel_rfl) (by kernel_rfl) rfl rfl
end Go.Proofs.YtcceeahmcecbnaaGreatDoor
namespace Go.Sx
open Go.RowKit
variable {P:Program} {α:Type} [DecidableEq α]
theorem zbS {β γ:Type} (f:β->γ):∀ (l:List β) (j:Nat),(l.eraseIdx j).map f=(l.map f).eraseIdx j
  |[],_ => by simp
  |_::_,0 => by simp
  |a::l,j+1 => by simp [zbS f l j]
structure zBe (P:Program) (k:TypeId) (enc:α->Value) (d:TypeDesc):Prop where
  u:P.underlying k=some d
  same:∀ a b,Instr.sameNow d (enc a) (enc b)=some (decide (a=b))
  check:∀ (em:Bool) (a:α) (w:World),(Instr.checkKey em 10000 k (enc a)).run P w=.ok () w
  stay:∀ a,Instr.sameBits 10000 (enc a) (enc a)=true
theorem zGp {k:TypeId} {kk:IntKind} (h:P.underlying k=some (.int kk)):zBe P k (Value.int kk) (.int kk) :=
  ⟨h,fun a b=>by simp [Instr.sameNow]; rfl,fun em a w=>by
      show (Instr.checkKey em (9999+1) k (.int kk a)).run P w=_
      unfold Instr.checkKey; simp only [Sem.run_bind,run_underlying h,Result.andThen_ok]; rfl,fun a=>by
      show Instr.sameBits (9999+1) (.int kk a) (.int kk a)=true
      unfold Instr.sameBits; simp⟩
theorem zt4 (a b:ByteArray):(a==b)=decide (a=b):=by
  have h:(a==b)=(a.data==b.data):=by cases a; cases b; rfl
  rw [h]
  by_cases he:a=b
  · subst he; simp
  · have:a.data≠b.data:=fun hd=>he (by cases a; cases b; simp_all)
    simp [he,this]
theorem zsF {k:TypeId} (h:P.underlying k=some .string):zBe P k Value.string .string :=
  ⟨h,fun a b=>by simp [Instr.sameNow,zt4],fun em a w=>by
      show (Instr.checkKey em (9999+1) k (.string a)).run P w=_
      unfold Instr.checkKey; simp only [Sem.run_bind,run_underlying h,Result.andThen_ok]; rfl,fun a=>by
      show Instr.sameBits (9999+1) (.string a) (.string a)=true
      unfold Instr.sameBits; rw [zt4]; simp⟩
def ziw:List (α×Value)->α->Option Value
  |[],_ => none
  |(b,u)::r,a => if b=a then some u else ziw r a
def zql:List (α×Value)->α->Value->List (α×Value)
  |[],a,v => [(a,v)]
  |(b,u)::r,a,v => if b=a then (a,v)::r else (b,u)::zql r a v
def zuP:List (α×Value)->α->List (α×Value)
  |[],_ => []
  |(b,u)::r,a => if b=a then r else (b,u)::zuP r a
def zjN:List (α×Value)->α->Nat->Option (Nat×Value)
  |[],_,_ => none
  |(b,u)::r,a,i => if b=a then some (i,u) else zjN r a (i+1)
def zdD (m:List (α×Value)):List α:=m.map (·.1)
theorem zlt (m:List (α×Value)) (a b:α) (v:Value):ziw (zql m a v) b=if a=b then some v else ziw m b:=by
  induction m with
  |nil => rfl
  |cons x r ih =>
    obtain ⟨c,u⟩:=x
    simp only [zql]
    by_cases h:c=a
    · subst h; rw [if_pos rfl]; simp only [ziw]
      by_cases hb:c=b
      · rw [if_pos hb,if_pos hb]
      · rw [if_neg hb,if_neg hb,if_neg hb]
    · rw [if_neg h]; simp only [ziw,ih]
      by_cases hb:c=b
      · rw [if_pos hb,if_neg (fun he=>h (hb.trans he.symm)),if_pos hb]
      · rw [if_neg hb,if_neg hb]
theorem zrK (m:List (α×Value)) (a:α) (v:Value):zdD (zql m a v)=if a∈zdD m then zdD m else zdD m++[a]:=by
  induction m with
  |nil => rfl
  |cons x r ih =>
    obtain ⟨c,u⟩:=x
    simp only [zql]
    by_cases h:c=a
    · subst h; rw [if_pos rfl]; simp [zdD]
    · rw [if_neg h]
      have e:zdD ((c,u)::zql r a v)=c::zdD (zql r a v):=rfl
      rw [e,ih]
      have e2:zdD ((c,u)::r)=c::zdD r:=rfl
      rw [e2]
      by_cases hm:a∈zdD r
      · rw [if_pos hm,if_pos (by simp [hm])]
      · rw [if_neg hm,if_neg (by simp [hm]; exact fun he=>h he.symm)]; rfl
theorem zDi {m:List (α×Value)} {a:α}:ziw m a=none↔a∉zdD m:=by
  induction m with
  |nil => simp [ziw,zdD]
  |cons x r ih =>
    obtain ⟨c,u⟩:=x
    have e2:zdD ((c,u)::r)=c::zdD r:=rfl
    rw [e2]
    simp only [ziw]
    by_cases h:c=a
    · subst h; simp
    · rw [if_neg h,ih]; simp; exact fun _ he=>h he.symm
theorem zuQ (m:List (α×Value)) (hn:(zdD m).Nodup) (a b:α):ziw (zuP m a) b=if a=b then none else ziw m b:=by
  induction m with
  |nil => simp [zuP,ziw]
  |cons x r ih =>
    obtain ⟨c,u⟩:=x
    have e2:zdD ((c,u)::r)=c::zdD r:=rfl
    rw [e2,List.nodup_cons] at hn
    simp only [zuP]
    by_cases h:c=a
    · subst h; rw [if_pos rfl]; simp only [ziw]
      by_cases hb:c=b
      · subst hb; rw [if_pos rfl]; exact zDi.2 hn.1
      · rw [if_neg hb,if_neg hb]
    · rw [if_neg h]; simp only [ziw,ih hn.2]
      by_cases hb:c=b
      · subst hb; rw [if_pos rfl,if_neg (fun he=>h he.symm),if_pos rfl]
      · rw [if_neg hb,if_neg hb]
theorem zrJ (m:List (α×Value)) (a:α):zdD (zuP m a)=(zdD m).erase a:=by
  induction m with
  |nil => rfl
  |cons x r ih =>
    obtain ⟨c,u⟩:=x
    simp only [zuP]
    have e2:zdD ((c,u)::r)=c::zdD r:=rfl
    by_cases h:c=a
    · subst h; rw [if_pos rfl,e2]; simp
    · rw [if_neg h,e2,List.erase_cons_tail (by simpa using h),<- ih]; rfl
theorem zfh {m:List (α×Value)} {a:α} {i j:Nat} {u:Value} (h:zjN m a i=some (j,u)):i<=j/\m[j-i]?=some (a,u)/\(∀ v,zql m a v=m.set (j-i) (a,v))/\zuP m a=m.eraseIdx (j-i)/\ziw m a=some u:=by
  induction m generalizing i with
  |nil => simp [zjN] at h
  |cons x r ih =>
    obtain ⟨c,v⟩:=x
    simp only [zjN] at h
    by_cases hc:c=a
    · subst hc
      rw [if_pos rfl] at h
      obtain ⟨rfl,rfl⟩:=Prod.mk.inj (Option.some.inj h)
      refine ⟨Nat.le_refl _,by simp,fun w=>by simp [zql],by simp [zuP],by simp [ziw]⟩
    · rw [if_neg hc] at h
      obtain ⟨h1,h2,h3,h4,h5⟩:=ih h
      have e:j-i=(j-(i+1))+1:=by omega
      refine ⟨by omega,by rw [e]; simpa using h2,fun w=>?_,?_,?_⟩
      · rw [e]; simp only [zql,if_neg hc,h3 w,List.set_cons_succ]
      · rw [e]; simp only [zuP,if_neg hc,h4,List.eraseIdx_cons_succ]
      · simp only [ziw,if_neg hc,h5]
theorem zfg {m:List (α×Value)} {a:α} {i:Nat} (h:zjN m a i=none):(∀ v,zql m a v=m++[(a,v)])/\zuP m a=m/\ziw m a=none:=by
  induction m generalizing i with
  |nil => exact ⟨fun _ => rfl,rfl,rfl⟩
  |cons x r ih =>
    obtain ⟨c,v⟩:=x
    simp only [zjN] at h
    by_cases hc:c=a
    · rw [if_pos hc] at h; cases h
    · rw [if_neg hc] at h
      obtain ⟨h1,h2,h3⟩:=ih h
      exact ⟨fun w=>by simp [zql,hc,h1 w],by simp [zuP,hc,h2],by simp [ziw,hc,h3]⟩
section
variable {k:TypeId} {enc:α->Value} {d:TypeDesc}
theorem zuh (K:zBe P k enc d) (a:α):∀ (m:List (α×Value)) (es:List MapEntry) (i:Nat),es.map (fun e=>(e.key,e.val))=m.map (fun x=>(enc x.1,x.2))->Instr.findNow d (enc a) es i=some (zjN m a i)
  |[],es,i,h => by
    simp at h; subst h; rfl
  |(b,u)::m,es,i,h => by
    cases es with
    |nil => simp at h
    |cons e es =>
      simp only [List.map_cons,List.cons.injEq,Prod.mk.injEq] at h
      obtain ⟨⟨h1,h2⟩,h3⟩:=h
      unfold Instr.findNow
      rw [h1,K.same]
      by_cases hab:b=a
      · subst hab; simp [zjN,h2]
      · have:decide (a=b)=false:=by simp; exact fun he=>hab he.symm
        rw [this]; simp only [zjN,if_neg hab]
        exact zuh K a m es (i+1) h3
structure zdb (enc:α->Value) (w:World) (r:Nat) (m:List (α×Value)):Prop where
  nodup:(zdD m).Nodup
  es:∃ es clock,w.heap[r]?=some (.map es clock)/\es.toList.map (fun e=>(e.key,e.val))=m.map (fun x=>(enc x.1,x.2))
theorem zdb.lt {w:World} {r:Nat} {m:List (α×Value)} (h:zdb enc w r m):r<w.heap.size:=by
  obtain ⟨es,c,h1,_⟩:=h.es
  exact (Array.getElem?_eq_some_iff.1 h1).1
theorem zdb.ext {w w':World} {r:Nat} {m:List (α×Value)} (h:zdb enc w r m) (he:Ext w w'):zdb enc w' r m:=by
  have hl:=h.lt
  obtain ⟨es,c,h1,h2⟩:=h.es
  exact ⟨h.nodup,es,c,by rw [he.block r hl]; exact h1,h2⟩
theorem zdb.grew {w w':World} {r:Nat} {m:List (α×Value)} {p q:Option Addr} (h:zdb enc w r m) (hp:∀ x,p=some x->x.block≠r) (hg:zcv w w' p q):zdb enc w' r m:=by
  have hl:=h.lt
  obtain ⟨es,c,h1,h2⟩:=h.es
  refine ⟨h.nodup,es,c,?_,h2⟩
  rw [hg.by_.block r hl fun he=>?_]
  · exact h1
  · cases p with
    |none => cases he
    |some x => simp [blk] at he; exact hp x rfl he.symm
theorem zkL {t:TypeId} {w:World} {K:Value->World->Prop} (hk:∀ w',zdb enc w' w.heap.size []->Ext w w'->K (.map (some w.heap.size)) w'):Run P (.makeMap t) w K:=by
  refine ⟨_,w.alloc (.map #[] 0),rfl,hk _ ⟨by simp [zdD],#[],0,?_,rfl⟩ (Below.alloc (Below.refl _ _) (Nat.le_refl _) _)⟩
  exact heap_alloc_new w _
theorem zdR (K:zBe P k enc d) {w:World} {m:List (α×Value)} {es:Array MapEntry} (h:es.toList.map (fun e=>(e.key,e.val))=m.map (fun x=>(enc x.1,x.2))) (a:α):(Instr.findKey k (enc a) es.toList).run P w=.ok (zjN m a 0) w:=by
  unfold Instr.findKey
  rw [Sem.run_bind,run_underlying K.u,Result.andThen_ok,zuh K a m _ 0 h]
  simp
theorem zcw {w:World} {r:Nat} {es:Array MapEntry} {c:Nat} (h:w.heap[r]?=some (.map es c)):(getObj r).run P w=.ok (.map es c) w:=by simp [getObj,Sem.run,h]
theorem zm1 (K:zBe P k enc d) {t e:TypeId} (ht:P.underlying t=some (.map k e)) {i:TypeInfo} {z:Value} (hi:P.info? e=some i) (hz:i.zero=some z) {w:World} {r:Nat} {m:List (α×Value)} (h:zdb enc w r m) {a:α} {ok:Bool} {Q:Value->World->Prop}
    (hk:Q (if ok then .tuple #[(ziw m a).getD z,.bool (ziw m a).isSome] else (ziw m a).getD z) w):Run P (.lookup t (.map (some r)) (enc a) ok) w Q:=by
  obtain ⟨es,c,h1,h2⟩:=h.es
  refine ⟨_,w,?_,hk⟩
  show (Instr.lookup t (.map (some r)) (enc a) ok).run P w=_
  have hzv:(zeroValue e).run P w=.ok z w:=by simp [zeroValue,typeInfo,hi,hz]
  unfold Instr.lookup
  simp only [Sem.run_bind,run_underlying ht,Result.andThen_ok,zcw h1,Sem.run_pure,K.check,zdR K h2]
  cases hf:zjN m a 0 with
  |none =>
    have:=(zfg hf).2.2
    cases ok<;>simp [this,hzv]
  |some x =>
    obtain ⟨j,u⟩:=x
    have:=(zfh hf).2.2.2.2
    cases ok<;>simp [this]
theorem zG1 (K:zBe P k enc d) {t e:TypeId} (ht:P.underlying t=some (.map k e)) {sz b:Nat} {t':TypeId} {z:Value} (he:zfR P t'=some (e,sz,b,z)) {w:World} {r:Nat} {m:List (α×Value)} (h:zdb enc w r m) {a:α} {Q:Value->World->Prop}
    (hk:Q ((ziw m a).getD z) w):Run P (.lookup t (.map (some r)) (enc a) false) w Q:=by
  obtain ⟨i,_,h2,h6,_⟩:=zdY he
  exact zm1 K ht h2 h6 h hk
theorem zce {w:World} {r:Nat} {es es':Array MapEntry} {c c':Nat} (h:w.heap[r]?=some (.map es c)):∃ w',(setObj r (.map es' c')).run P w=.ok () w'/\w'.heap[r]?=some (.map es' c')/\zcv w w' (some ⟨r,0,none⟩) (some ⟨r,0,none⟩):=by
  have hl:=(Array.getElem?_eq_some_iff.1 h).1
  refine ⟨{ w with heap:=w.heap.setIfInBounds r (.map es' c') },by simp [setObj,Sem.run,h],by simp [hl],⟨⟨rfl,rfl,rfl,by simp,fun j hj hne=>?_⟩,.inl rfl⟩⟩
  have:r≠j:=fun he=>hne (by simp [blk,he])
  simp [Array.getElem?_setIfInBounds,this]
theorem zhW (K:zBe P k enc d) {t e:TypeId} (ht:P.underlying t=some (.map k e)) {w:World} {r:Nat} {m:List (α×Value)} (h:zdb enc w r m) {a:α} {v:Value} {Q:Value->World->Prop}
    (hk:∀ w',zdb enc w' r (zql m a v)->zcv w w' (some ⟨r,0,none⟩) (some ⟨r,0,none⟩)->Q undef w'):Run P (.mapUpdate t (.map (some r)) (enc a) v) w Q:=by
  obtain ⟨es,c,h1,h2⟩:=h.es
  have hn:(zdD (zql m a v)).Nodup:=by
    rw [zrK]
    split
    · exact h.nodup
    · rename_i hm
      rw [List.nodup_append]
      exact ⟨h.nodup,by simp,fun x hx y hy he=>by simp at hy; subst hy; subst he; exact hm hx⟩
  cases hf:zjN m a 0 with
  |none =>
    obtain ⟨g1,_,g3⟩:=zfg hf
    obtain ⟨w',r1,r2,r3⟩:=zce (P:=P) (es':=es.push { key:=enc a,val:=v,born:=c }) (c':=c+1) h1
    refine ⟨_,w',?_,hk w' ⟨hn,_,_,r2,?_⟩ r3⟩
    · show (do Instr.mapUpdate t (.map (some r)) (enc a) v; pure undef:Sem Value).run P w=_
      unfold Instr.mapUpdate
      simp only [Sem.run_bind,run_underlying ht,Result.andThen_ok,zcw h1,K.check,zdR K h2,hf,r1,Sem.run_pure]
    · rw [g1]; simp [h2]
  |some x =>
    obtain ⟨j,u⟩:=x
    obtain ⟨_,g2,g3,_,_⟩:=zfh hf
    rw [Nat.sub_zero] at g2
    have hj:j<es.size:=by
      have:=congrArg List.length h2
      simp at this
      have:=(List.getElem?_eq_some_iff.1 g2).1
      omega
    have hkey:es[j].key=enc a:=by
      have:=congrArg (fun l=>l[j]?) h2
      simp [g2,hj] at this
      exact this.1
    have hst:(Instr.keyThatStays (enc a) (enc a)).run P w=.ok (enc a) w:=by unfold Instr.keyThatStays; rw [K.stay]; simp
    obtain ⟨w',r1,r2,r3⟩:=zce (P:=P) (es':=es.modify j fun e=>{ e with key:=enc a,val:=v }) (c':=c) h1
    refine ⟨_,w',?_,hk w' ⟨hn,_,_,r2,?_⟩ r3⟩
    · show (do Instr.mapUpdate t (.map (some r)) (enc a) v; pure undef:Sem Value).run P w=_
      unfold Instr.mapUpdate
      simp only [Sem.run_bind,run_underlying ht,Result.andThen_ok,zcw h1,K.check,zdR K h2,hf]
      simp only [Array.getElem?_eq_getElem hj,Option.map_some,Option.getD_some,hkey,hst,Result.andThen_ok,r1,Sem.run_pure]
    · rw [g3,Nat.sub_zero]
      apply List.ext_getElem?
      intro i
      rw [List.map_set,<- h2]
      simp only [List.getElem?_map,Array.getElem?_toList,Array.getElem?_modify,List.getElem?_set,List.length_map,Array.length_toList]
      by_cases hij:j=i
      · subst hij; simp [hj]
      · simp [hij]
theorem zAX (K:zBe P k enc d) {t e ty:TypeId} {ts:List TypeId} (ht:P.underlying t=some (.map k e)) {w:World} {r:Nat} {m:List (α×Value)} (h:zdb enc w r m) {a:α} {Q:Value->World->Prop}
    (hk:∀ w',zdb enc w' r (zuP m a)->zcv w w' (some ⟨r,0,none⟩) (some ⟨r,0,none⟩)->Q (.tuple #[]) w'):Run P (.delete (t::ts).toArray ty [.map (some r),enc a]) w Q:=by
  obtain ⟨es,c,h1,h2⟩:=h.es
  have hn:(zdD (zuP m a)).Nodup:=by rw [zrJ]; exact h.nodup.erase _
  cases hf:zjN m a 0 with
  |none =>
    obtain ⟨_,g1,g3⟩:=zfg hf
    obtain ⟨w',r1,r2,r3⟩:=zce (P:=P) (es':=es) (c':=c) h1
    refine ⟨_,w',?_,hk w' ⟨hn,_,_,r2,by rw [g1]; exact h2⟩ r3⟩
    show (Builtin.delete_ (t::ts).toArray ty #[.map (some r),enc a]).run P w=_
    unfold Builtin.delete_
    simp [run_underlying ht,zcw h1,K.check,zdR K h2,hf,r1]
  |some x =>
    obtain ⟨j,u⟩:=x
    obtain ⟨_,g2,_,g4,_⟩:=zfh hf
    rw [Nat.sub_zero] at g2 g4
    obtain ⟨w',r1,r2,r3⟩:=zce (P:=P) (es':=es.eraseIdxIfInBounds j) (c':=c) h1
    refine ⟨_,w',?_,hk w' ⟨hn,_,_,r2,?_⟩ r3⟩
    · show (Builtin.delete_ (t::ts).toArray ty #[.map (some r),enc a]).run P w=_
      unfold Builtin.delete_
      simp [run_underlying ht,zcw h1,K.check,zdR K h2,hf,r1]
    · have hj:j<es.size:=by
        have:=congrArg List.length h2
        simp at this
        have:=(List.getElem?_eq_some_iff.1 g2).1
        omega
      rw [g4]
      have:(es.eraseIdxIfInBounds j).toList=es.toList.eraseIdx j:=by simp [Array.eraseIdxIfInBounds,hj]
      rw [this,zbS,h2,<- zbS]
end
variable {P:Program}
structure znQ where
  e:TypeId
  s:Nat
  p:Option Addr
  n:Nat
  c:Nat
  xs:List Value
def znQ.ok (B:Nat) (w:World) (r:znQ):Prop:=Own B w r.e r.s r.p r.n r.c r.xs
structure zc4 (w0:World) (ns:List Nat) (w:World) (rs:List znQ):Prop where
  ext:Ext w0 w
  own:∀ (i:Nat) (r:znQ),rs[i]?=some r->r.ok w0.heap.size w
  apart:∀ (i j:Nat) (a b:znQ),i≠j->rs[i]?=some a->rs[j]?=some b->zbP a.p b.p
  free:∀ (i:Nat) (r:znQ),rs[i]?=some r->∀ b∈ns,∀ x,r.p=some x->x.block≠b
theorem zc4.nil {w0 w:World} {ns:List Nat} (h:Ext w0 w):zc4 w0 ns w [] :=
  ⟨h,fun i r hr=>by simp at hr,fun i j a b _ ha=>by simp at ha,fun i r hr=>by simp at hr⟩
theorem zc4.get {w0 w:World} {ns:List Nat} {rs:List znQ} (h:zc4 w0 ns w rs) (i:Nat) {e:TypeId} {s:Nat} {p:Option Addr} {n c:Nat} {xs:List Value} (hi:rs[i]?=some ⟨e,s,p,n,c,xs⟩):Own w0.heap.size w e s p n c xs:=h.own i _ hi
theorem zc4.to {w0 w w':World} {ns:List Nat} {rs:List znQ} (h:zc4 w0 ns w rs) (he:Ext w w'):zc4 w0 ns w' rs :=
  ⟨h.ext.trans he,fun i r hr=>(h.own i r hr).ext he,h.apart,h.free⟩
theorem zc4.put {w0 w w':World} {ns:List Nat} {rs:List znQ} (h:zc4 w0 ns w rs) (i:Nat) {r r':znQ} (hi:rs[i]?=some r) (o:r'.ok w0.heap.size w') (g:zcv w w' r.p r'.p) (hf:∀ b∈ns,b<w.heap.size):zc4 w0 ns w' (rs.set i r'):=by
  have hlt:i<rs.length:=by
    rcases Nat.lt_or_ge i rs.length with h|h
    · exact h
    · rw [List.getElem?_eq_none h] at hi; cases hi
  have key:∀ (j:Nat) (a:znQ),(rs.set i r')[j]?=some a->(j=i/\a=r')\/(j≠i/\rs[j]?=some a):=by
    intro j a ha
    rw [List.getElem?_set] at ha
    by_cases hij:i=j
    · subst hij
      rw [if_pos rfl,if_pos hlt] at ha
      exact .inl ⟨rfl,(Option.some.inj ha).symm⟩
    · rw [if_neg hij] at ha
      exact .inr ⟨fun h=>hij h.symm,ha⟩
  have hap:∀ (j:Nat) (a:znQ),j≠i->rs[j]?=some a->zbP a.p r'.p:=fun j a hj ha=>(h.apart j i a r hj ha hi).grew (h.own j a ha) g
  refine ⟨g.ext h.ext (h.own i r hi),fun j a ha=>?_,fun j k a b hjk ha hb=>?_,fun j a ha b hb x hx=>?_⟩
  · rcases key j a ha with ⟨h1,h2⟩|⟨hj,ha'⟩
    · rw [h2]; exact o
    · exact (h.own j a ha').st (h.apart j i a r hj ha' hi) g
  · rcases key j a ha with ⟨h1,h2⟩|⟨hj,ha'⟩
    · rcases key k b hb with ⟨h3,h4⟩|⟨hk,hb'⟩
      · exact absurd (h1.trans h3.symm) hjk
      · rw [h2]; exact (hap k b hk hb').symm
    · rcases key k b hb with ⟨h3,h4⟩|⟨hk,hb'⟩
      · rw [h4]; exact hap j a hj ha'
      · exact h.apart j k a b hjk ha' hb'
  · rcases key j a ha with ⟨h1,h2⟩|⟨hj,ha'⟩
    · subst h2
      rcases g.new with hn|hn
      · cases hp:r.p with
        |none => rw [hp,hx] at hn; simp [blk] at hn
        |some y =>
          rw [hp,hx] at hn
          simp only [blk,Option.map_some,Option.some.injEq] at hn
          rw [hn]
          exact h.free _ r hi b hb y hp
      · have:=hn x hx
        have:=hf b hb
        omega
    · exact h.free j a ha' b hb x hx
theorem zc4.new {w0 w w':World} {ns:List Nat} {rs:List znQ} (h:zc4 w0 ns w rs) {r:znQ} (o:r.ok w0.heap.size w') (he:Ext w w') (hn:∀ a,r.p=some a->w.heap.size<=a.block) (hf:∀ b∈ns,b<w.heap.size):zc4 w0 ns w' (r::rs):=by
  refine ⟨h.ext.trans he,fun j a ha=>?_,fun j k a b hjk ha hb=>?_,fun j a ha b hb x hx=>?_⟩
  · cases j with
    |zero => simp at ha; subst ha; exact o
    |succ j => exact (h.own j a (by simpa using ha)).ext he
  · have hnew:∀ (j:Nat) (a:znQ),rs[j]?=some a->zbP a.p r.p:=fun j a ha x y hx hy hxy=>by
      have:=(h.own j a ha).lt x hx
      have:=hn y hy
      omega
    cases j with
    |zero =>
      simp at ha; subst ha
      cases k with
      |zero => exact absurd rfl hjk
      |succ k => exact (hnew k b (by simpa using hb)).symm
    |succ j =>
      cases k with
      |zero => simp at hb; subst hb; exact hnew j a (by simpa using ha)
      |succ k => exact h.apart j k a b (fun h => hjk (by omega)) (by simpa using ha) (by simpa using hb)
  · cases j with
    |zero =>
      simp at ha; subst ha
      have:=hn x hx
      have:=hf b hb
      omega
    |succ j => exact h.free j a (by simpa using ha) b hb x hx
theorem zc4.new0 {w0 w w':World} {ns:List Nat} {rs:List znQ} (h:zc4 w0 ns w rs) {e:TypeId} {s n c:Nat} {xs:List Value} (o:∀ B,B<=w.heap.size->Own B w' e s (some ⟨w.heap.size,0,none⟩) n c xs) (he:Ext w w') (hf:∀ b∈ns,b<w.heap.size):zc4 w0 ns w' (⟨e,s,some ⟨w.heap.size,0,none⟩,n,c,xs⟩::rs) :=
  h.new (o _ h.ext.size) he (fun a ha=>by obtain rfl:=Option.some.inj ha; simp) hf
theorem zc4.store {w0 w:World} {ns:List Nat} {rs:List znQ} (h:zc4 w0 ns w rs) (i:Nat) {e:TypeId} {s:Nat} {p a:Option Addr} {n c:Nat} {xs vs:List Value} (hi:rs[i]?=some ⟨e,s,p,n,c,xs⟩) (off:Nat) {K:World->Prop} (ha:a=p.map (·.add off)) (hlen:off+vs.length<=xs.length) (hpos:vs≠[])
    (h1:∀ v∈vs,v.oneCell'=true) (hf:∀ b∈ns,b<w.heap.size) (hk:∀ w',zc4 w0 ns w' (rs.set i ⟨e,s,p,n,c,zdE xs off vs⟩)->zcv w w' p p->K w'):zao w a vs ns K :=
  zaW (h.get i hi) ha hlen hpos h1 (fun b hb x hx=>h.free i _ hi b hb x hx) fun w' o g=>hk w' (h.put i hi o g hf) g
section make
variable {w0 w:World} {ns:List Nat} {rs:List znQ}
theorem zc4.new_row {t:TypeId} {vs:List Value} (h:zc4 w0 ns w rs) (h1:∀ v∈vs,v.oneCell'=true) (hf:∀ b∈ns,b<w.heap.size) {K:Option Addr->World->Prop}
    (hk:∀ p w',zc4 w0 ns w' (⟨t,vs.length,p,1,1,vs⟩::rs)->Ext w w'->K p w'):New w t vs K :=
  zbE h1 fun w' o e=>hk _ w' (h.new0 o e hf) e
end make
variable {P:Program}
structure Fr (S:Nat->Prop) (w w':World):Prop where
  os:w'.os=w.os
  tape:w'.tape=w.tape
  output:w'.output=w.output
  size:w.heap.size<=w'.heap.size
  block:∀ k,k<w.heap.size->¬ S k->w'.heap[k]?=w.heap[k]?
theorem Fr.refl (S:Nat->Prop) (w:World):Fr S w w:=⟨rfl,rfl,rfl,Nat.le_refl _,fun _ _ _=>rfl⟩
theorem Fr.trans {S S':Nat->Prop} {w w' w'':World} (h:Fr S w w') (k:Fr S' w' w'') (hs:∀ b,S' b->S b\/w.heap.size<=b):Fr S w w'' :=
  ⟨k.os.trans h.os,k.tape.trans h.tape,k.output.trans h.output,Nat.le_trans h.size k.size,fun b hb hn =>
    (k.block b (Nat.lt_of_lt_of_le hb h.size) fun h'=>(hs b h').elim hn fun h=>by omega).trans (h.block b hb hn)⟩
theorem Fr.tr {S:Nat->Prop} {w w' w'':World} (h:Fr S w w') (k:Fr S w' w''):Fr S w w'':=h.trans k fun _ h=>.inl h
theorem Fr.mono {S S':Nat->Prop} {w w':World} (h:Fr S w w') (hs:∀ b,S b->S' b):Fr S' w w':=⟨h.os,h.tape,h.output,h.size,fun b hb hn=>h.block b hb fun h'=>hn (hs b h')⟩
theorem zac {S:Nat->Prop} {w w':World} (h:Ext w w'):Fr S w w':=⟨h.os,h.tape,h.output,h.size,fun b hb _=>h.block b hb⟩
theorem zbD {S:Nat->Prop} {ds ns:List Nat} {w w':World} (h:zag ds ns w w') (hd:∀ d∈ds,S d\/w.heap.size<=d):Fr S w w':=⟨h.os,h.tape,h.output,h.size,fun b hb hn=>h.block b hb fun h'=>(hd b h').elim hn fun h=>by omega⟩
theorem zaR {S:Nat->Prop} {w w':World} {p q:Option Addr} (h:zcv w w' p q) (hs:∀ a,p=some a->S a.block):Fr S w w' :=
  ⟨h.by_.os,h.by_.tape,h.by_.output,h.by_.size,fun b hb hn=>h.by_.block b hb fun he=>by
    cases p with
    |none => simp [blk] at he
    |some a => simp [blk] at he; exact hn (he▸hs a rfl)⟩
theorem Fr.ext {S:Nat->Prop} {w0 w w':World} (h:Fr S w w') (h0:Ext w0 w) (hs:∀ b,S b->w0.heap.size<=b):Ext w0 w' :=
  ⟨h.os.trans h0.os,h.tape.trans h0.tape,h.output.trans h0.output,Nat.le_trans h0.size h.size,fun b hb=>(h.block b (Nat.lt_of_lt_of_le hb h0.size) fun h'=>by have:=hs b h'; omega).trans (h0.block b hb)⟩
theorem Fr.kept {S:Nat->Prop} {w w':World} {ns:List Nat} (h:Fr S w w') (hn:∀ b∈ns,b<w.heap.size/\¬ S b):zbM ns w w':=fun b hb=>h.block b (hn b hb).1 (hn b hb).2
theorem Own.fr {B:Nat} {S:Nat->Prop} {w w':World} {e:TypeId} {s:Nat} {p:Option Addr} {n c:Nat} {xs:List Value} (h:Own B w e s p n c xs) (k:Fr S w w') (hp:∀ a,p=some a->¬ S a.block):Own B w' e s p n c xs:=by
  cases p with
  |none =>
    refine ⟨h.1,?_⟩
    rcases h.2 with hn|⟨g,cap,cur,hv,_⟩
    · exact .inl hn
    · simp at hv
  |some a =>
    refine ⟨h.1,?_⟩
    rcases h.2 with hn|⟨g,cap,cur,hv,hb,hg,zav⟩
    · exact .inl hn
    · refine .inr ⟨g,cap,cur,hv,hb,?_,zav⟩
      have:a=⟨g,0,none⟩:=by simp at hv; exact hv.1
      have hlt:=(h.lt a rfl).2
      subst this
      rw [k.block g hlt (hp _ rfl)]; exact hg
theorem zau.fr {S:Nat->Prop} {w w':World} {p:Option Addr} {vs:List Value} (h:zau w p vs) (k:Fr S w w') (hp:∀ a,p=some a->¬ S a.block):zau w' p vs:=by
  intro i v hv
  obtain ⟨a,rfl,hb,hc⟩:=zdO (h i v hv)
  show w'.cell? (a.add i)=some v
  rw [World.cell?_of_block (w:=w) (by rw [zaV]; exact k.block _ hb (hp a rfl))]
  exact hc
theorem zdN {S:Nat->Prop} {w w':World} {p:Option Addr} {i:Nat} {v:Value} (h:cell w p i=some v) (k:Fr S w w') (hp:∀ a,p=some a->¬ S a.block):cell w' p i=some v:=by
  obtain ⟨a,rfl,hb,hc⟩:=zdO h
  show w'.cell? (a.add i)=some v
  rw [World.cell?_of_block (w:=w) (by rw [zaV]; exact k.block _ hb (hp a rfl))]
  exact hc
theorem zdb.fr {α:Type} [DecidableEq α] {enc:α->Value} {S:Nat->Prop} {w w':World} {r:Nat} {m:List (α×Value)} (h:zdb enc w r m) (k:Fr S w w') (hp:¬ S r):zdb enc w' r m:=by
  obtain ⟨es,c,h1,h2⟩:=h.es
  exact ⟨h.nodup,es,c,(k.block r h.lt hp).trans h1,h2⟩
theorem Own.cellAt {B:Nat} {w:World} {e:TypeId} {s:Nat} {p:Option Addr} {n c:Nat} {xs:List Value} (h:Own B w e s p n c xs) {i:Nat} {v:Value} (hv:xs[i]?=some v):cell w p i=some v:=h.cells i v hv
theorem Own.cellAt0 {B:Nat} {w:World} {e:TypeId} {s:Nat} {p:Option Addr} {n c:Nat} {xs:List Value} (h:Own B w e s p n c xs) {i:Nat} {v:Value} (hv:xs[i]?=some v):cell w (pAdd p i) 0=some v:=by rw [zal]; exact h.cells i v hv
theorem zaP (p:Option Addr):pAdd p 0=p:=by cases p<;>simp [pAdd,add_zero]
theorem zcp {B:Nat} {w:World} {e:TypeId} {s:Nat} {q:Option Addr} {n c off:Nat} {xs:List Value} {v:Value} {ns:List Nat} {K:World->Prop}
    (ho:Own B w e s q n c xs) (hlen:off<xs.length) (h1:v.oneCell'=true) (hns:∀ b∈ns,∀ x,q=some x->x.block≠b)
    (hk:∀ w',Own B w' e s q n c (xs.set off v)->zcv w w' q q->K w'):zao w (pAdd q off) [v] ns K :=
  zaW ho rfl (by simp; omega) (by simp) (by simpa using h1) hns hk
theorem zDh {t:TypeId} {i:TypeInfo} {m:Method} {f:FuncId} {pr:Bool} {name:String} {v r:Value} {w:World} {n:Nat} (hi:P.info? t=some i) (hm:i.methods.find? (·.name==name)=some m) (hp:m.path=#[]) (hf:m.func=some (f,pr))
    (hr : (receiverAt t (.val v) pr (some ((name.splitOn ".").getLastD name))).run P w = .ok r w) : (method (n + 1) t v name).run P w = .ok (f, r) w := by
  have h1:(typeInfo t).run P w=.ok i w:=by
    unfold typeInfo
    simp only [Sem.run_bind]
    rw [show Sem.run P program w=.ok P w from rfl]
    simp [hi]
  simp only [method,Sem.run_bind,h1,Result.andThen_ok,hm,hp,hf]
  simp [follow] at hr ⊢
  rw [hr]; rfl
theorem zzC {t e:TypeId} (ht:P.underlying t=some (.pointer e)) {v:Value} {o:Option String} {w:World}:(receiverAt t (.val v) true o).run P w=.ok v w:=by
  unfold receiverAt
  simp only [Sem.run_bind]
  rw [show (underlying t).run P w=.ok (.pointer e) w from by
    unfold underlying
    simp only [Sem.run_bind]
    rw [show Sem.run P program w=.ok P w from rfl]
    simp [ht]]
  simp [Place.get]
theorem zDQ {t e:TypeId} {d:TypeDesc} (ht:P.underlying t=some (.pointer e)) (hd:P.underlying e=some d) (ha:zc7 P e=false) {a:Addr} {v:Value} {o:Option String} {w:World} (hc:cell w (some a) 0=some v):(receiverAt t (.val (.pointer (some a))) false o).run P w=.ok v w:=by
  have hc':w.cell? a=some v:=by simpa [cell,add_zero] using hc
  unfold receiverAt
  simp only [Sem.run_bind]
  rw [show (underlying t).run P w=.ok (.pointer e) w from run_underlying ht w]
  cases o with
  |none => simp [Place.get,loadVar,zen hd,ha,hc',asAddr]
  |some name =>
    have e : Builtin.ssaWrapNilChk_ #[t] t #[.pointer (some a), strVal "", strVal name] = pure (.pointer (some a)) := rfl
    simp [Place.get,e,loadVar,zen hd,ha,hc',asAddr]
theorem zfF {t:TypeId} {d:TypeDesc} (ht:P.underlying t=some d) (hn:∀ m,d≠.interface m) {v:Value} {w:World} {K:Value->World->Prop} (h:K (.iface t v) w):Run P (.makeInterface t v) w K:=by
  refine ⟨.iface t v,w,?_,h⟩
  simp only [MC.sem,Instr.makeInterface,Sem.run_bind,run_underlying ht,Result.andThen_ok]
  cases d<;>first|rfl|exact absurd rfl (hn _)
theorem zrV {t x:TypeId} {d:TypeDesc} (ht:P.underlying t=some d) (hn:∀ m,d≠.interface m) {v:Value} {w:World} {K:Value->World->Prop} (h:K v w):Run P (.typeAssert (.iface t v) x t false) w K:=by
  refine ⟨v,w,?_,h⟩
  simp only [MC.sem,Instr.typeAssert,Sem.run_bind,run_underlying ht,Result.andThen_ok]
  cases d<;>first|simp|exact absurd rfl (hn _)
theorem znK {t ty e:TypeId} {s b:Nat} {z:Value} (he:zfR P t=some (e,s,b,z)) (hs:0<s) {B:Nat} {w:World} {p:Option Addr} {n c:Nat} {xs:List Value} {v:Value} {ns:List Nat}
    {K:Option Addr->Nat->Nat->World->Prop} (ho:Own B w e s p n c xs) (hB:B<=w.heap.size) (hns:∀ b∈ns,∀ x,p=some x->x.block≠b) (hv:v.cells.size=s) (h1:∀ u∈v.cells.toList,u.oneCell'=true) (hb:(n+1)*b<=140737488355328) (hs24:s<=16777216) (hm:n+1<=9223372036854775807)
    (hk:∀ p' c' w',Own B w' e s p' (n+1) c' (xs++v.cells.toList)->zcv w w' p p'->p'≠none->(∀ b∈ns,∀ x,p'=some x->x.block≠b)->K p' (n+1) c' w') :
    ∀ w1,zag [] ns w w1->Run P (.buildSlice t 1 [(0,v)]) w1 fun v2 w2=>Ext w1 w2/\∃ q:Option Addr,∃ m:Nat,∃ d:Nat,v2=.slice q m d/\∀ w3,zag [] ns w2 w3 ->
      Run P (.append #[t,t] ty [.slice p n c,.slice q m d]) w3 fun v4 w4=>zbM ns w3 w4/\∃ q':Option Addr,∃ m':Nat,∃ d':Nat,v4=.slice q' m' d'/\K q' m' d' w4:=by
  intro w1 x1
  have e1:=zaa x1
  refine zcD he [v] rfl rfl (fun u hu=>by simp at hu; subst hu; exact hv) (by omega) (by omega) fun w2 o2 e2=>⟨e2,_,_,_,rfl,fun w3 x3=>?_⟩
  have e3:=zaa x3
  have o2:=(o2 w1.heap.size (Nat.le_refl _)).ext e3
  have ho':=((ho.ext e1).ext e2).ext e3
  have hsz:B<=w3.heap.size:=Nat.le_trans hB (Nat.le_trans e1.size (Nat.le_trans e2.size e3.size))
  refine zmZ he hs ho' hsz (by simp) (news:=v.cells.toList) (by simp [hv]) (by simpa using o2.cells) h1 hb hm fun p' c' w4 h2 h3 h4=>⟨fun b hb=>?_,_,_,_,rfl,hk p' c' w4 h2 ?_ ?_ ?_⟩
  · refine h3.by_.block b (x3.lt b hb) fun he=>?_
    cases p with
    |none => cases he
    |some y => simp [blk] at he; exact hns b hb y rfl he.symm
  · exact zcv.of_ext e1 (zcv.of_ext e2 (zcv.of_ext e3 h3))
  · intro hn; have:=h4.1 hn; omega
  · intro b hb y hy heq
    rcases h3.new with hn|hn
    · subst hy
      cases p with
      |none => simp [blk] at hn
      |some z' => simp [blk] at hn; exact hns b hb z' rfl (by omega)
    · have:=hn y hy
      have:=x3.lt b hb
      omega
end Go.Sx
namespace Go.Proofs.YtcceeahmcecbnaaGreatDoor
open Go.Sx Go.RowKit
def unl (l:Array Bool):Nat:=l.toList.countP (fun b=>!b)
theorem zEw {l:Array Bool} {i:Nat} (h:l.getD i true=false):unl l=unl (l.setIfInBounds i true)+1:=by
  unfold unl
  have hi:i<l.size:=by
    rcases Nat.lt_or_ge i l.size with h'|h'
    · exact h'
    · simp [Array.getElem?_eq_none h'] at h
  have hg:l.toList[i]'(by simpa using hi)=false:=by simpa [hi] using h
  have e:(l.setIfInBounds i true).toList=l.toList.set i true:=by simp
  rw [e]
  have h1:=List.countP_set (p:=fun b=>!b) (l:=l.toList) (i:=i) (a:=true) (by simpa using hi)
  rw [h1,hg]
  have:0<l.toList.countP (fun b=>!b):=List.countP_pos_iff.2 ⟨false,by rw [<- hg]; exact List.getElem_mem _,rfl⟩
  generalize l.toList.countP (fun b=>!b)=c at this ⊢
  show c=c-1+0+1
  omega
theorem zEB {P:Program} {md:Region.Mode} {ops:Array Oper} {Q:Exit->Act->World->Prop} {I:Array Bool->Act->World->Prop}
    (hs:∀ l a w i,I l a w->i∈Region.ready md ops l->wpOp P ops Q i (I (l.setIfInBounds i true)) a w)
    (hq:∀ l a w,I l a w->Region.ready md ops l=[]->Q .normal a w) :
    ∀ (fuel:Nat) (l:Array Bool) (a:Act) (w:World),unl l<=fuel->I l a w->wpAny P md ops Q fuel l a w:=by
  intro fuel
  induction fuel with
  |zero =>
    intro l a w hf hi
    have hn:Region.ready md ops l=[]:=by
      cases hr:Region.ready md ops l with
      |nil => rfl
      |cons x xs =>
        have:=zEw (mem_ready.1 (hr▸List.mem_cons_self:x∈Region.ready md ops l)).1
        omega
    exact ⟨hn,hq l a w hi hn⟩
  |succ fuel ih =>
    intro l a w hf hi
    refine ⟨hq l a w hi,fun i hm=>wpOp_mono (fun a' w' h=>ih _ a' w' ?_ h) (hs l a w i hi hm)⟩
    have:=zEw (mem_ready.1 hm).1
    omega
def Cst (w w':World):Prop:=∀ (b:Nat) (cs:Array Value) (t:TypeId) (f:Nat×Nat),w.heap[b]?=some (.cells cs t f)->w'.heap[b]?=some (.cells cs t f)
theorem Cst.of_ext {w w':World} (h:Ext w w'):Cst w w':=fun b cs t f hb=>by rw [h.block b (Array.getElem?_eq_some_iff.1 hb).1]; exact hb
theorem Cst.cell {w w':World} (h:Cst w w') {p:Addr} {v:Value} (hc:w.cell? p=some v):w'.cell? p=some v:=by
  unfold World.cell? at hc ⊢
  cases hb:w.heap[p.block]? with
  |none => simp [hb] at hc
  |some o =>
    cases o with
    |cells c t f => rw [h _ _ _ _ hb]; rw [hb] at hc; exact hc
    |_ => simp [hb] at hc
theorem Cst.of_grew {w w':World} {r:Nat} {m:List (ByteArray×Value)} (hm:zdb Value.string w r m) (hg:zcv w w' (some ⟨r,0,none⟩) (some ⟨r,0,none⟩)):Cst w w':=fun b cs t f hb=>by
  obtain ⟨es,c,h1,_⟩:=hm.es
  have hne:b≠r:=fun h=>by subst h; rw [h1] at hb; cases hb
  rw [hg.by_.block b (Array.getElem?_eq_some_iff.1 hb).1 (by simp [blk]; exact hne)]; exact hb
def MAt (PV:Nat->Value->World->Prop) (KL:List (ByteArray×Nat×Nat)) (l:Array Bool) (w:World) (k:ByteArray) (g:Option Value):Prop :=
  match KL.find? (fun x=>decide (x.1=k)) with
  |some (_,j,b) => if l.getD j false=true then ∃ v,g=some v/\PV b v w else g=none
  |none => g=none
structure DI (PV:Nat->Value->World->Prop) (ops:Array Oper) (KL:List (ByteArray×Nat×Nat)) (TI:List (Nat×Nat)) (base:List Nat) (b0:Act) (w0:World) (l:Array Bool) (a:Act) (w:World):Prop where
  lsz:l.size=ops.size
  size:a.tmps.size=b0.tmps.size
  defers:a.defers=b0.defers
  base:∀ d∈base,a.tmps.getD d undef=b0.tmps.getD d undef
  ext:Ext w0 w
  val:∀ i o d,ops[i]?=some o->l.getD i false=true->o.dst=some d->PV i (a.tmps.getD d undef) w
  mp:l.getD 0 false=true->∃ mb M,a.tmps.getD 6 undef=.map (some mb)/\w0.heap.size<=mb/\zdb Value.string w mb M/\∀ k,MAt PV KL l w k (ziw M k)
  nomap:l.getD 0 false=false->∀ x∈KL,l.getD x.2.1 false=false
  tie:∀ x∈TI,l.getD x.1 false=true->l.getD 0 false=true/\a.tmps.getD x.2 undef=a.tmps.getD 6 undef
def zn1 (ops:Array Oper) (KL:List (ByteArray×Nat×Nat)) (TI:List (Nat×Nat)) (base:List Nat) (n:Nat):Bool :=
  (ops.toList.filterMap (·.dst)).Nodup&&(List.range ops.size).all (fun i=>(ops[i]?).all fun o =>
    o.guard.isNone&&o.dst.all fun d=>decide (d<n)&&!base.contains d&&(decide (i≠0)||decide (d=6))
      && KL.all (fun x=>decide (x.2.1≠i)))&&(decide ((ops[0]?.bind (·.dst))=some 6)&&TI.all fun x=>decide ((ops[x.1]?.bind (·.dst))=some x.2)&&decide (x.1≠0))
section
variable {PV:Nat->Value->World->Prop} {ops:Array Oper} {KL:List (ByteArray×Nat×Nat)} {TI:List (Nat×Nat)} {base:List Nat} {b0:Act} {w0:World} {l:Array Bool} {a:Act} {w:World} {P:Program} {Q:Exit->Act->World->Prop}
theorem zzv {n:Nat} (h:zn1 ops KL TI base n=true) {i:Nat} {o:Oper} {d:Nat} (hi:ops[i]?=some o) (hd:o.dst=some d) :
    o.guard=none/\d<n/\d∉base/\(i≠0\/d=6)/\∀ x∈KL,x.2.1≠i:=by
  simp only [zn1,Bool.and_eq_true,List.all_eq_true,List.mem_range] at h
  have:=h.1.2 i (Array.getElem?_eq_some_iff.1 hi).1
  rw [hi] at this
  simp only [Option.all_some,hd,Bool.and_eq_true,Option.isNone_iff_eq_none,decide_eq_true_eq,Bool.not_eq_true',Bool.or_eq_true,List.all_eq_true] at this
  refine ⟨this.1,this.2.1.1.1,?_,this.2.1.2,fun x hx=>this.2.2 x hx⟩
  have h2:=this.2.1.1.2
  intro hm
  rw [List.contains_iff_mem.2 hm] at h2
  cases h2
theorem zi3 {α β:Type} {f:α->Option β}:∀ {l:List α},(l.filterMap f).Nodup->∀ {i j:Nat} {x y:α} {d:β},l[i]?=some x->l[j]?=some y->f x=some d->f y=some d->i=j
  |[],_,i,j,x,y,d,hx,_,_,_ => by simp at hx
  |z::r,hn,i,j,x,y,d,hx,hy,fx,fy => by
    have hmem:∀ {k:Nat} {u:α},r[k]?=some u->f u=some d->d∈r.filterMap f:=fun h1 h2=>List.mem_filterMap.2 ⟨_,List.mem_of_getElem? h1,h2⟩
    have hn':(r.filterMap f).Nodup:=by
      cases hz:f z with
      |none => rwa [List.filterMap_cons_none hz] at hn
      |some b => rw [List.filterMap_cons_some hz] at hn; exact (List.nodup_cons.1 hn).2
    have hnot:f z=some d->d∉r.filterMap f:=fun hz=>by
      rw [List.filterMap_cons_some hz] at hn; exact (List.nodup_cons.1 hn).1
    cases i with
    |zero =>
      cases j with
      |zero => rfl
      |succ j =>
        simp at hx hy; subst hx
        exact absurd (hmem hy fy) (hnot fx)
    |succ i =>
      cases j with
      |zero =>
        simp at hx hy; subst hy
        exact absurd (hmem hx fx) (hnot fy)
      |succ j =>
        simp at hx hy
        exact congrArg (·+1) (zi3 hn' hx hy fx fy)
theorem zlK {n:Nat} (h:zn1 ops KL TI base n=true) {i j:Nat} {o u:Oper} {d:Nat} (hi:ops[i]?=some o) (hj:ops[j]?=some u) (hd:o.dst=some d) (hu:u.dst=some d):i=j:=by
  simp only [zn1,Bool.and_eq_true] at h
  exact zi3 (of_decide_eq_true h.1.1) (x:=o) (y:=u) (by simpa using hi) (by simpa using hj) hd hu
theorem zvn {n:Nat} (h:zn1 ops KL TI base n=true) {x:Nat×Nat} (hx:x∈TI):(∃ o,ops[x.1]?=some o/\o.dst=some x.2)/\x.1≠0:=by
  simp only [zn1,Bool.and_eq_true,List.all_eq_true,decide_eq_true_eq] at h
  have:=h.2.2 x hx
  exact ⟨by obtain ⟨o,q1,q2⟩:=Option.bind_eq_some_iff.1 this.1; exact ⟨o,q1,q2⟩,this.2⟩
theorem zDA {n:Nat} (h:zn1 ops KL TI base n=true):∃ o6,ops[0]?=some o6/\o6.dst=some 6:=by
  simp only [zn1,Bool.and_eq_true,decide_eq_true_eq] at h
  obtain ⟨o6,q1,q2⟩:=Option.bind_eq_some_iff.1 h.2.1
  exact ⟨o6,q1,q2⟩
theorem zpd {l:Array Bool} {i:Nat} (h:i<l.size) (d:Bool):(l.setIfInBounds i true).getD i d=true:=by simp [h]
theorem ztc {a:Act} {d:Nat} {v:Value} (h:d<a.tmps.size):(a.put (some d) v).tmps.getD d undef=v:=by simp [Act.put,h]
theorem zg5 {a:Act} {d e:Nat} {v:Value} (h:d≠e):(a.put (some d) v).tmps.getD e undef=a.tmps.getD e undef:=by
  simp [Act.put,Array.getElem?_setIfInBounds_ne h]
theorem DI.put {n:Nat} (hok:zn1 ops KL TI base n=true) (hb:b0.tmps.size=n) (hst:∀ i v w w',Cst w w'->PV i v w->PV i v w') {i:Nat} {o:Oper} {d:Nat} {v:Value} {w':World}
    (h:DI PV ops KL TI base b0 w0 l a w) (hi:ops[i]?=some o) (hd:o.dst=some d) (hx:Ext w w') (hv:PV i v w')
    (h0:i=0->l.getD 0 false=false/\v=.map (some w.heap.size)/\zdb Value.string w' w.heap.size [])
    (ht:∀ x∈TI,x.1=i->l.getD 0 false=true/\v=a.tmps.getD 6 undef) :
    DI PV ops KL TI base b0 w0 (l.setIfInBounds i true) (a.put o.dst v) w':=by
  obtain ⟨_,g2,g3,g4,g5⟩:=zzv hok hi hd
  have hil:i<l.size:=by rw [h.lsz]; exact (Array.getElem?_eq_some_iff.1 hi).1
  have hc:=Cst.of_ext hx
  rw [hd]
  have hmap:∀ k g,MAt PV KL l w k g->MAt PV KL (l.setIfInBounds i true) w' k g:=fun k g hk=>by
    unfold MAt at hk ⊢
    split at hk
    · rename_i y j b he
      have hm:=List.mem_of_find?_eq_some he
      rw [getD_set_ne false (Ne.symm (g5 _ hm))]
      split at hk
      · rename_i hl
        rw [if_pos hl]
        obtain ⟨v',e1,e2⟩:=hk
        exact ⟨v',e1,hst _ _ _ _ hc e2⟩
      · rename_i hl
        rw [if_neg hl]; exact hk
    · exact hk
  refine ⟨by rw [Array.size_setIfInBounds]; exact h.lsz,by simp only [Act.put,Array.size_setIfInBounds]; exact h.size,h.defers,fun e he=>?_,h.ext.trans hx,fun j u e hj hl he=>?_,fun hl=>?_,fun hl x hxm=>?_,fun x hxm hl=>?_⟩
  · rw [zg5 (fun hh:d=e=>g3 (by rw [hh]; exact he))]; exact h.base e he
  · by_cases hij:i=j
    · subst hij
      rw [hi] at hj; injection hj with hj; subst hj
      rw [hd] at he; injection he with he; subst he
      rw [ztc (by rw [h.size,hb]; exact g2)]; exact hv
    · rw [getD_set_ne false hij] at hl
      have hde:d≠e:=fun hh=>hij (zlK hok hi hj hd (hh▸he))
      rw [zg5 hde]
      exact hst _ _ _ _ hc (h.val j u e hj hl he)
  · by_cases hi0:i=0
    · subst hi0
      obtain ⟨z1,z2,z3⟩:=h0 rfl
      have hd6:d=6:=by rcases g4 with g4|g4; exact absurd rfl g4; exact g4
      subst hd6
      refine ⟨w.heap.size,[],?_,h.ext.size,z3,fun k=>hmap k _ ?_⟩
      · rw [ztc (by rw [h.size,hb]; exact g2),z2]
      · unfold MAt
        split
        · rename_i y j b he
          have:=h.nomap z1 _ (List.mem_of_find?_eq_some he)
          rw [if_neg (by rw [this]; decide)]; rfl
        · rfl
    · rw [getD_set_ne false hi0] at hl
      obtain ⟨mb,M,e1,e2,e3,e4⟩:=h.mp hl
      have hne:d≠6:=fun hh=>by
        have h6:∃ o6,ops[0]?=some o6/\o6.dst=some 6:=by
          simp only [zn1,Bool.and_eq_true,decide_eq_true_eq] at hok
          obtain ⟨o6,q1,q2⟩:=Option.bind_eq_some_iff.1 hok.2.1
          exact ⟨o6,q1,q2⟩
        obtain ⟨o6,q1,q2⟩:=h6
        exact hi0 (zlK hok hi q1 (hh▸hd) q2)
      exact ⟨mb,M,by rw [zg5 hne]; exact e1,e2,e3.ext hx,fun k=>hmap k _ (e4 k)⟩
  · have hi0:i≠0:=fun hh=>by subst hh; rw [zpd hil] at hl; cases hl
    rw [getD_set_ne false hi0] at hl
    rw [getD_set_ne false (Ne.symm (g5 x hxm))]
    exact h.nomap hl x hxm
  · obtain ⟨⟨ox,t1,t2⟩,t3⟩:=zvn hok hxm
    have h6:i≠0->d≠6:=fun hi0 hh=>by
      obtain ⟨o6,q1,q2⟩:=zDA hok
      exact hi0 (zlK hok hi q1 (hh▸hd) q2)
    by_cases hxi:x.1=i
    · obtain ⟨z1,z2⟩:=ht x hxm hxi
      have hi0:i≠0:=fun hh=>t3 (hxi.trans hh)
      have hdx:d=x.2:=by
        have:ox=o:=by rw [hxi,hi] at t1; injection t1 with t1; exact t1.symm
        rw [this,hd] at t2; injection t2
      refine ⟨by rw [getD_set_ne false hi0]; exact z1,?_⟩
      rw [<- hdx,ztc (by rw [h.size,hb]; exact g2),zg5 (h6 hi0),z2]
    · rw [getD_set_ne false (Ne.symm hxi)] at hl
      obtain ⟨z1,z2⟩:=h.tie x hxm hl
      have hi0:i≠0:=fun hh=>by rw [(h0 hh).1] at z1; cases z1
      refine ⟨by rw [getD_set_ne false hi0]; exact z1,?_⟩
      rw [zg5 (fun hh=>hxi (zlK hok t1 hi t2 (hd.trans (congrArg some hh)))),zg5 (h6 hi0)]
      exact z2
theorem DI.ins {n:Nat} (hok:zn1 ops KL TI base n=true) (hst:∀ i v w w',Cst w w'->PV i v w->PV i v w') {i:Nat} {o:Oper} {K:ByteArray} {b:Nat} {v:Value} {w':World} {mb:Nat} {M:List (ByteArray×Value)}
    (h:DI PV ops KL TI base b0 w0 l a w) (hi:ops[i]?=some o) (hd:o.dst=none) (hi0:i≠0) (hl0:l.getD 0 false=true) (hmb:a.tmps.getD 6 undef=.map (some mb)) (hle:w0.heap.size<=mb)
    (hm:zdb Value.string w mb M) (hat:∀ k,MAt PV KL l w k (ziw M k))
    (hk:KL.find? (fun x=>decide (x.1=K))=some (K,i,b)) (hu:∀ x∈KL,x.2.1=i->x.1=K) (hv:PV b v w)
    (hm':zdb Value.string w' mb (zql M K v)) (hg:zcv w w' (some ⟨mb,0,none⟩) (some ⟨mb,0,none⟩)) :
    DI PV ops KL TI base b0 w0 (l.setIfInBounds i true) (a.put o.dst undef) w':=by
  have hil:i<l.size:=by rw [h.lsz]; exact (Array.getElem?_eq_some_iff.1 hi).1
  have hc:=Cst.of_grew hm hg
  rw [hd]
  refine ⟨by rw [Array.size_setIfInBounds]; exact h.lsz,h.size,h.defers,h.base,hg.below h.ext h.ext.size (fun x hx=>by cases hx; exact hle),fun j u e hj hl he=>?_,fun _=>?_,fun hl=>?_,fun x hxm hl=>?_⟩
  · by_cases hij:i=j
    · subst hij
      rw [hi] at hj; injection hj with hj; subst hj
      rw [hd] at he; cases he
    · rw [getD_set_ne false hij] at hl
      exact hst _ _ _ _ hc (h.val j u e hj hl he)
  · refine ⟨mb,_,hmb,hle,hm',fun k=>?_⟩
    rw [zlt]
    by_cases hkk:K=k
    · subst hkk
      rw [if_pos rfl]
      unfold MAt
      rw [hk]
      simp only []
      rw [if_pos (zpd hil _)]
      exact ⟨v,rfl,hst _ _ _ _ hc hv⟩
    · rw [if_neg hkk]
      have hh:=hat k
      unfold MAt at hh ⊢
      split at hh
      · rename_i y j b' he
        have hjm:=List.mem_of_find?_eq_some he
        have hye:y=k:=by have:=List.find?_some he; simpa using this
        have hij:i≠j:=fun hij=>hkk (by rw [<- hu _ hjm hij.symm]; exact hye)
        rw [getD_set_ne false hij]
        split at hh
        · rename_i hl
          rw [if_pos hl]
          obtain ⟨v',e1,e2⟩:=hh
          exact ⟨v',e1,hst _ _ _ _ hc e2⟩
        · rename_i hl
          rw [if_neg hl]; exact hh
      · exact hh
  · rw [getD_set_ne false hi0,hl0] at hl; cases hl
  · obtain ⟨⟨ox,t1,t2⟩,t3⟩:=zvn hok hxm
    have hxi:x.1≠i:=fun hh=>by rw [hh,hi] at t1; injection t1 with t1; rw [<- t1,hd] at t2; cases t2
    rw [getD_set_ne false (Ne.symm hxi)] at hl
    exact ⟨by rw [getD_set_ne false hi0]; exact hl0,(h.tie x hxm hl).2⟩
theorem zoD {K:Act->World->Prop} {i:Nat} {o:Oper} {v:Value} {w':World} (hi:ops[i]?=some o) (hg:o.guard=none) (hr:(execOp a.eval o).run P w=.ok (.value v) w') (hk:K (a.put o.dst v) w') :
    wpOp P ops Q i K a w:=by
  unfold wpOp
  rw [hi]
  simp only [Region.wanted,hg,if_true]
  refine .inl ?_
  unfold Oper.wp
  rw [hr]; exact hk
theorem zEC {K:Act->World->Prop} {i:Nat} {o:Oper} {w':World} (hi:ops[i]?=some o) (hg:o.guard=none) (hr:(execOp a.eval o).run P w=.ok .skip w') (hk:K (a.put o.dst undef) w') :
    wpOp P ops Q i K a w:=by
  unfold wpOp
  rw [hi]
  simp only [Region.wanted,hg,if_true]
  refine .inl ?_
  unfold Oper.wp
  rw [hr]; exact hk
theorem zBb {K:Act->World->Prop} {i:Nat} {o:Oper} {f:FuncId} {args:Array Value} (hi:ops[i]?=some o) (hg:o.guard=none) (hr:(execOp a.eval o).run P w=.ok (.enter f args) w)
    (hk:FnP P f args w fun v w'=>K (a.put o.dst v) w'):wpOp P ops Q i K a w:=by
  unfold wpOp
  rw [hi]
  simp only [Region.wanted,hg,if_true]
  refine .inl ?_
  unfold Oper.wp
  rw [hr]
  show Calls P f args w _
  refine Calls.mono hk.2 fun e w' ⟨v,he,hv⟩=>?_
  subst he
  exact hv
end
noncomputable def zeG:Array Oper:=match Tryz.f151.body with
  |some (.seq _ (.seq _ (.seq _ (.seq (.region _ ops _) _)))) => ops
  |_ => #[]
noncomputable def zcC (i : Nat) : Oper := (zeG[i]?).getD ⟨none, .move (.const undef), 0, "", #[], none⟩
theorem zos:zeG.size=59:=by kernel_rfl
theorem zjS {i:Nat} (h:i<59):zeG[i]?=some (zcC i):=by
  have:i<zeG.size:=by rw [zos]; exact h
  simp [zcC,this]
def zbp (db:Addr) (F:FuncId) (v:Value):Prop:=v=.func (.func F) #[.pointer (some db)] #[]
def zgP (pb:Addr) (F:FuncId) (v:Value):Prop:=v=.func (.func F) #[] #[.pointer (some pb)]
def zf1 (pb:Addr) (F:FuncId) (v:Value) (w:World):Prop :=
  ∃ p3:Addr,v=.func (.func 207) #[] #[.pointer (some pb),.pointer (some p3)]/\w.cell? p3=some (.func (.func F) #[] #[.pointer (some pb)])
def zdh (pb:Addr) (F:FuncId) (v:Value) (w:World):Prop :=
  ∃ p2 p1:Addr,v=.func (.func 251) #[] #[.pointer (some p2)]/\w.cell? p2=some (.func (.func 204) #[] #[.pointer (some p1)])/\∃ u,w.cell? p1=some u/\zf1 pb F u w
def zns (pb:Addr) (v:Value) (w:World):Prop :=
  ∃ p2:Addr,v=.func (.func 251) #[] #[.pointer (some p2)]/\w.cell? p2=some (.func (.func 218) #[] #[.pointer (some pb)])
def zd3 (n:Int) (b:Bool) (R:Value->World->Prop) (v:Value) (w:World):Prop :=
  ∃ f bd cap,v=.agg #[.int .i64 n,.bool b,.func f bd cap]/\R (.func f bd cap) w
def zKJ (w w':World):Prop:=∀ (p:Addr) (v:Value),(match v with|.pointer (some _)=>True|.func _ _ _=>True|_=>False)->w.cell? p=some v->w'.cell? p=some v
theorem Cst.cel {w w':World} (h:Cst w w'):zKJ w w':=fun p v _ hc=>h.cell hc
theorem zf1.cst {pb:Addr} {F:FuncId} {v:Value} {w w':World} (h:zf1 pb F v w) (k:zKJ w w'):zf1 pb F v w':=by
  obtain ⟨p,e1,e2⟩:=h; exact ⟨p,e1,k _ _ trivial e2⟩
theorem zdh.cst {pb:Addr} {F:FuncId} {v:Value} {w w':World} (h:zdh pb F v w) (k:zKJ w w'):zdh pb F v w':=by
  obtain ⟨p,q,e1,e2,u,e3,e4⟩:=h
  have e4':=e4.cst k
  obtain ⟨p3,rfl,_⟩:=e4
  exact ⟨p,q,e1,k _ _ trivial e2,_,k _ _ trivial e3,e4'⟩
theorem zns.cst {pb:Addr} {v:Value} {w w':World} (h:zns pb v w) (k:zKJ w w'):zns pb v w':=by
  obtain ⟨p,e1,e2⟩:=h; exact ⟨p,e1,k _ _ trivial e2⟩
theorem zd3.cst {n:Int} {b:Bool} {R:Value->World->Prop} {v:Value} {w w':World} (h:zd3 n b R v w) (k:∀ v,R v w->R v w'):zd3 n b R v w':=by
  obtain ⟨f,bd,cap,e1,e2⟩:=h; exact ⟨f,bd,cap,e1,k _ e2⟩
def PV (db pb:Addr):Nat->Value->World->Prop
  |1,v,w => v=.pointer (some db)
  |2,v,w => zbp db 208 v
  |3,v,w => zd3 4 false (fun f _ => zbp db 208 f) v w
  |5,v,w => v=.pointer (some db)
  |6,v,w => zbp db 209 v
  |7,v,w => zd3 1 false (fun f _ => zbp db 209 f) v w
  |9,v,w => v=.pointer (some db)
  |10,v,w => zbp db 210 v
  |11,v,w => zd3 7 false (fun f _ => zbp db 210 f) v w
  |13,v,w => v=.pointer (some db)
  |14,v,w => zbp db 211 v
  |15,v,w => zd3 6 true (fun f _ => zbp db 211 f) v w
  |17,v,w => v=.func (.func 202) #[] #[]
  |18,v,w => zgP pb 206 v
  |19,v,w => zgP pb 212 v
  |20,v,w => zf1 pb 212 v w
  |21,v,w => zdh pb 212 v w
  |22,v,w => zd3 2 false (zdh pb 212) v w
  |24,v,w => v=.pointer (some db)
  |25,v,w => zbp db 213 v
  |26,v,w => zd3 1 true (fun f _ => zbp db 213 f) v w
  |28,v,w => v=.func (.func 202) #[] #[]
  |29,v,w => zgP pb 206 v
  |30,v,w => zgP pb 214 v
  |31,v,w => zf1 pb 214 v w
  |32,v,w => zdh pb 214 v w
  |33,v,w => zd3 2 false (zdh pb 214) v w
  |35,v,w => v=.func (.func 202) #[] #[]
  |36,v,w => zgP pb 206 v
  |37,v,w => zgP pb 216 v
  |38,v,w => zf1 pb 216 v w
  |39,v,w => zdh pb 216 v w
  |40,v,w => zd3 2 false (zdh pb 216) v w
  |42,v,w => v=.func (.func 202) #[] #[]
  |43,v,w => zgP pb 206 v
  |44,v,w => zgP pb 217 v
  |45,v,w => zf1 pb 217 v w
  |46,v,w => zdh pb 217 v w
  |47,v,w => zd3 2 false (zdh pb 217) v w
  |49,v,w => zgP pb 218 v
  |50,v,w => zns pb v w
  |51,v,w => zd3 2 false (zns pb) v w
  |53,v,w => v=.pointer (some db)
  |54,v,w => zbp db 222 v
  |55,v,w => zd3 2 true (fun f _ => zbp db 222 f) v w
  |_,_,_ => True
theorem zHt (db pb:Addr) (i:Nat) (v:Value) (w w':World) (k:zKJ w w') (h:PV db pb i v w):PV db pb i v w':=by
  unfold PV at h ⊢
  split at h
  · exact h
  · exact h
  · exact h.cst (fun _ x=>x)
  · exact h
  · exact h
  · exact h.cst (fun _ x=>x)
  · exact h
  · exact h
  · exact h.cst (fun _ x=>x)
  · exact h
  · exact h
  · exact h.cst (fun _ x=>x)
  · exact h
  · exact h
  · exact h
  · exact h.cst k
  · exact h.cst k
  · exact h.cst (fun _ x=>x.cst k)
  · exact h
  · exact h
  · exact h.cst (fun _ x=>x)
  · exact h
  · exact h
  · exact h
  · exact h.cst k
  · exact h.cst k
  · exact h.cst (fun _ x=>x.cst k)
  · exact h
  · exact h
  · exact h
  · exact h.cst k
  · exact h.cst k
  · exact h.cst (fun _ x=>x.cst k)
  · exact h
  · exact h
  · exact h
  · exact h.cst k
  · exact h.cst k
  · exact h.cst (fun _ x=>x.cst k)
  · exact h
  · exact h.cst k
  · exact h.cst (fun _ x=>x.cst k)
  · exact h
  · exact h
  · exact h.cst (fun _ x=>x)
  · exact trivial
theorem zjY (db pb:Addr) (i:Nat) (v:Value) (w w':World) (k:Cst w w') (h:PV db pb i v w):PV db pb i v w':=zHt db pb i v w w' k.cel h
def KL:List (ByteArray×Nat×Nat):=[((⟨#[104,111,115,116]⟩:ByteArray),4,3),((⟨#[111,112,101,110]⟩:ByteArray),8,7),((⟨#[110,101,120,116]⟩:ByteArray),12,11),((⟨#[115,117,98,109,105,116]⟩:ByteArray),16,15),((⟨#[116,105,99,107]⟩:ByteArray),23,22),((⟨#[112,108,97,110]⟩:ByteArray),27,26),((⟨#[103,111,111,100]⟩:ByteArray),34,33),((⟨#[98,97,100]⟩:ByteArray),41,40),((⟨#[99,97,110,99,101,108]⟩:ByteArray),48,47),((⟨#[115,104,111,119]⟩:ByteArray),52,51),((⟨#[102,114,101,101]⟩:ByteArray),56,55)]
def TI:List (Nat×Nat):=[(57,52),(58,2)]
theorem zxo:zn1 zeG KL TI [1,3,4] 53=true:=by kernel_rfl
abbrev zE7 (db pb:Addr) (b0:Act) (w0:World):=DI (PV db pb) zeG KL TI [1,3,4] b0 w0
structure zKI (db pb:Addr) (b0:Act) (w0:World):Prop where
  size:b0.tmps.size=53
  t1:b0.tmps.getD 1 undef=.pointer (some pb)
  t3:b0.tmps.getD 3 undef=.func (.func 202) #[] #[]
  t4:b0.tmps.getD 4 undef=.func (.func 206) #[] #[.pointer (some pb)]
  cell:w0.cell? pb=some (.pointer (some db))
  lt:pb.block<w0.heap.size
def zc6 (db pb:Addr) (i:Nat):Prop:=∀ (Q:Exit->Act->World->Prop) (b0:Act) (w0:World),zKI db pb b0 w0->∀ (l:Array Bool) (a:Act) (w:World),zE7 db pb b0 w0 l a w->i∈Region.ready .any zeG l ->
  wpOp Tryz.prog zeG Q i (zE7 db pb b0 w0 (l.setIfInBounds i true)) a w
theorem dep {i j:Nat} {l:Array Bool} (hi:i<59) (h:i∈Region.ready .any zeG l) (hb:(zcC i).after.any (fun e=>e.on==j&&Region.binds .any e)=true):l.getD j false=true:=by
  obtain ⟨_,o,ho,hall⟩:=mem_ready.1 h
  rw [zjS hi] at ho; injection ho with ho; subst ho
  obtain ⟨e,he,hb⟩:=Array.any_eq_true'.1 hb
  simp only [Bool.and_eq_true,beq_iff_eq] at hb
  rw [<- hb.1]; exact hall e he hb.2
theorem zll {i d:Nat} (hi:i<59) (hd:(zcC i).dst=some d):(zcC i).guard=none:=(zzv zxo (zjS hi) hd).1
theorem ev_t {db pb:Addr} {b0:Act} {w0:World} {l:Array Bool} {a:Act} {w:World} (hB:zKI db pb b0 w0) (h:zE7 db pb b0 w0 l a w) :
    a.eval (.tmp 1)=.pointer (some pb)/\a.eval (.tmp 3)=.func (.func 202) #[] #[]/\a.eval (.tmp 4)=.func (.func 206) #[] #[.pointer (some pb)]/\w.cell? pb=some (.pointer (some db)) :=
  ⟨(h.base 1 (by decide)).trans hB.t1,(h.base 3 (by decide)).trans hB.t3,(h.base 4 (by decide)).trans hB.t4,(h.ext.cell hB.lt).trans hB.cell⟩
theorem zgV {db pb:Addr} {b0:Act} {w0:World} {l:Array Bool} {a:Act} {w:World} (h:zE7 db pb b0 w0 l a w) {j d:Nat} (hj:j<59) (hd:(zcC j).dst=some d) (hl:l.getD j false=true) :
    PV db pb j (a.eval (.tmp d)) w:=h.val j _ d (zjS hj) hl hd
theorem zJ6 {i:Nat} (h:i<57):∀ x∈TI,x.1=i->False:=by
  intro x hx he
  have:x.1=57\/x.1=58:=by
    simp only [TI,List.mem_cons,List.not_mem_nil,or_false] at hx
    rcases hx with rfl|rfl
    · exact .inl rfl
    · exact .inr rfl
  omega
theorem zlT {db pb:Addr} {i d:Nat} (h0:0<i) (hi:i<57) (hd:(zcC i).dst=some d)
    (hr:∀ (b0:Act) (w0:World),zKI db pb b0 w0->∀ (l:Array Bool) (a:Act) (w:World),zE7 db pb b0 w0 l a w->i∈Region.ready .any zeG l->∃ v,(execOp a.eval (zcC i)).run Tryz.prog w=.ok (.value v) w/\PV db pb i v w):zc6 db pb i:=by
  intro Q b0 w0 hB l a w h hm
  obtain ⟨v,e1,e2⟩:=hr b0 w0 hB l a w h hm
  exact zoD (zjS (by omega)) (zll (by omega) hd) e1 (h.put zxo hB.size (zjY db pb) (zjS (by omega)) hd (Ext.refl w) e2 (fun hh=>by omega) (fun x hx he=>(zJ6 hi x hx he).elim))
theorem zJY (pb:Addr) (v:Addr) (w:World) (h:w.cell? pb=some (.pointer (some v))):(Instr.loadAt 115 (.pointer (some pb))).run Tryz.prog w=.ok (.pointer (some v)) w:=by
  have ha:(isAgg 115).run Tryz.prog w=.ok false w:=by kernel_rfl
  simp only [Instr.loadAt,Instr.sureAddr,Sem.run_bind,Sem.run_pure,Result.andThen_ok,loadVar,ha]
  simp [h]
theorem zm6 {db pb:Addr} (i d:Nat) (h0:0<i) (hi:i<57) (hop:(zcC i).op=.load 115 (.tmp 1)) (hd:(zcC i).dst=some d) (hp:∀ v w,v=.pointer (some db)->PV db pb i v w):zc6 db pb i :=
  zlT h0 hi hd fun b0 w0 hB l a w h hm=>by
    obtain ⟨e1,_,_,e4⟩:=ev_t hB h
    refine ⟨_,?_,hp _ w rfl⟩
    simp only [execOp,hop,e1,Sem.run_bind,zJY pb db w e4,Result.andThen_ok,Sem.run_pure]
theorem zjf {db pb:Addr} (i d t:Nat) (h0:0<i) (hi:i<57) (hop:(zcC i).op=.move (.tmp t)) (hd:(zcC i).dst=some d)
    (hp:(t=3/\∀ v w,v=.func (.func 202) #[] #[]->PV db pb i v w)\/(t=4/\∀ v w,zgP pb 206 v->PV db pb i v w)):zc6 db pb i :=
  zlT h0 hi hd fun b0 w0 hB l a w h hm=>by
    obtain ⟨_,e2,e3,_⟩:=ev_t hB h
    rcases hp with ⟨rfl,hp⟩|⟨rfl,hp⟩
    · exact ⟨_,by simp only [execOp,hop,e2,Sem.run_pure],hp _ w rfl⟩
    · exact ⟨_,by simp only [execOp,hop,e3,Sem.run_pure],hp _ w rfl⟩
theorem zvL {db pb:Addr} (i d F:Nat) (h0:0<i) (hi:i<57) (hop:(zcC i).op=.makeFunc (.func F) #[] #[.tmp 1]) (hd:(zcC i).dst=some d) (hp:∀ v w,zgP pb F v->PV db pb i v w):zc6 db pb i :=
  zlT h0 hi hd fun b0 w0 hB l a w h hm=>by
    obtain ⟨e1,_,_,_⟩:=ev_t hB h
    refine ⟨_,?_,hp _ w rfl⟩
    simp only [execOp,hop,Instr.makeFunc,List.map_toArray,List.map_cons,List.map_nil,e1,Sem.run_bind,Sem.run_pure,Result.andThen_ok]
theorem zm7 {db pb:Addr} (i d t j F:Nat) (h0:0<i) (hi:i<57) (hj:j<57) (hop:(zcC i).op=.makeFunc (.func F) #[.tmp t] #[]) (hd:(zcC i).dst=some d) (hdj:(zcC j).dst=some t)
    (hb:(zcC i).after.any (fun e=>e.on==j&&Region.binds .any e)=true) (hq:∀ v w,PV db pb j v w->v=.pointer (some db)) (hp:∀ v w,zbp db F v->PV db pb i v w):zc6 db pb i :=
  zlT h0 hi hd fun b0 w0 hB l a w h hm=>by
    have e1:=hq _ _ (zgV h (by omega) hdj (dep (by omega) hm hb))
    refine ⟨_,?_,hp _ w rfl⟩
    simp only [execOp,hop,Instr.makeFunc,List.map_toArray,List.map_cons,List.map_nil,e1,Sem.run_bind,Sem.run_pure,Result.andThen_ok]
theorem zFu (n:Int) (b:Bool) (f:Fn) (bd cap:Array Value) (w:World):(Instr.build 252 #[(0,.int .i64 n),(1,.bool b),(2,.func f bd cap)]).run Tryz.prog w=.ok (.agg #[.int .i64 n,.bool b,.func f bd cap]) w:=by kernel_rfl
theorem zd0 {db pb:Addr} {n:Int} {b:Bool} {R:Value->World->Prop} (i d t j:Nat) (h0:0<i) (hi:i<57) (hj:j<57) (hop:(zcC i).op=.build 252 #[(0,.const (.int .i64 n)),(1,.const (.bool b)),(2,.tmp t)]) (hd:(zcC i).dst=some d) (hdj:(zcC j).dst=some t)
    (hb:(zcC i).after.any (fun e=>e.on==j&&Region.binds .any e)=true) (hq:∀ v w,PV db pb j v w->(∃ f bd cap,v=.func f bd cap)/\R v w) (hp:∀ v w,zd3 n b R v w->PV db pb i v w):zc6 db pb i :=
  zlT h0 hi hd fun b0 w0 hB l a w h hm=>by
    obtain ⟨⟨f,bd,cap,e1⟩,e2⟩:=hq _ _ (zgV h (by omega) hdj (dep (by omega) hm hb))
    rw [e1] at e2
    refine ⟨_,?_,hp _ w ⟨f,bd,cap,rfl,e2⟩⟩
    have e3:∀ n:Int,a.eval (.const (.int .i64 n))=.int .i64 n:=fun _=>rfl
    have e4:∀ n:Bool,a.eval (.const (.bool n))=.bool n:=fun _=>rfl
    simp only [execOp,hop,List.map_toArray,List.map_cons,List.map_nil,e1,e3,e4,Sem.run_bind,zFu,Sem.run_pure,Result.andThen_ok]
theorem zhZ {db pb:Addr} (i d:Nat) (f x:Operand) (h0:0<i) (hi:i<57) (hop:(zcC i).op=.call { callee:=.value f,args:=#[x],argTypes:=#[70] }\/(zcC i).op=.call { callee:=.value f,args:=#[x],argTypes:=#[322] }) (hd:(zcC i).dst=some d)
    (hr:∀ (b0:Act) (w0:World),zKI db pb b0 w0->∀ (l:Array Bool) (a:Act) (w:World),zE7 db pb b0 w0 l a w->i∈Region.ready .any zeG l ->
      ∃ g cap,a.eval f=.func (.func g) #[] cap/\FnP Tryz.prog g (#[a.eval x]++cap) w fun v w'=>Ext w w'/\PV db pb i v w'):zc6 db pb i:=by
  intro Q b0 w0 hB l a w h hm
  obtain ⟨g,cap,e1,e2⟩:=hr b0 w0 hB l a w h hm
  have hrun:(execOp a.eval (zcC i)).run Tryz.prog w=.ok (.enter g (#[a.eval x]++cap)) w:=by
    rcases hop with hop|hop
    · have hh:=zhU (w:=w) hop e1 e2.1
      rwa [List.map_toArray,List.map_cons,List.map_nil] at hh
    · have hh:=zhU (w:=w) hop e1 e2.1
      rwa [List.map_toArray,List.map_cons,List.map_nil] at hh
  exact zBb (zjS (by omega)) (zll (by omega) hd) hrun (e2.mono fun v w' hv=>h.put zxo hB.size (zjY db pb) (zjS (by omega)) hd hv.1 hv.2 (fun hh=>by omega) (fun x hx he=>(zJ6 hi x hx he).elim))
theorem zlv {w w1:World} {t:TypeId} {v:Value} {p:Option Addr} (h:zz8 w t [v] p w1):∃ q:Addr,p=some q/\w1.cell? q=some v :=
  ⟨⟨w.heap.size,0,none⟩,h.at_,by simp [World.cell?,h.block]⟩
theorem zsM (pb:Addr) (F:FuncId) (w:World):FnP Tryz.prog 206 #[.func (.func F) #[] #[.pointer (some pb)],.pointer (some pb)] w fun v w'=>Ext w w'/\zf1 pb F v w' :=
  zhK _ (some pb) w _ fun w0 x0=>by
    refine ⟨fun v hv=>by simp at hv; subst hv; rfl,fun p w1 hn w2 x2=>?_⟩
    obtain ⟨q,rfl,hq⟩:=zlv hn
    exact ⟨(x0.trans hn.ext).trans x2,q,rfl,(Cst.of_ext x2).cell hq⟩
theorem zH4 (u:Value) (hu:u.oneCell'=true) (w:World):FnP Tryz.prog 203 #[u] w fun v w'=>Ext w w'/\∃ p2:Addr,v=.func (.func 251) #[] #[.pointer (some p2)]/\w'.cell? p2=some u :=
  znU _ w _ fun w0 x0=>by
    refine ⟨fun v hv=>by simp at hv; subst hv; exact hu,fun p w1 hn w2 x2=>?_⟩
    obtain ⟨q,rfl,hq⟩:=zlv hn
    exact ⟨(x0.trans hn.ext).trans x2,q,rfl,(Cst.of_ext x2).cell hq⟩
theorem zsO (pb:Addr) (F:FuncId) (u:Value) (w:World) (hu:zf1 pb F u w):FnP Tryz.prog 202 #[u] w fun v w'=>Ext w w'/\zdh pb F v w' :=
  zhJ _ w _ fun w0 x0=>by
    have ho:u.oneCell'=true:=by obtain ⟨p3,rfl,_⟩:=hu; rfl
    refine ⟨fun v hv=>by simp at hv; subst hv; exact ho,fun p w1 hn w2 x2=>?_⟩
    obtain ⟨q,rfl,hq⟩:=zlv hn
    refine (zH4 (.func (.func 204) #[] #[.pointer (some q)]) rfl w2).mono fun v w3 hv=>?_
    obtain ⟨x3,p2,e1,e2⟩:=hv
    refine ⟨x3,v,rfl,fun w5 x5=>⟨((((x0.trans hn.ext).trans x2).trans x3).trans x5),p2,q,e1,(Cst.of_ext x5).cell e2,u,?_,?_⟩⟩
    · exact (Cst.of_ext (x2.trans (x3.trans x5))).cell hq
    · exact hu.cst (Cst.of_ext ((((x0.trans hn.ext).trans x2).trans x3).trans x5)).cel
theorem kstr:zBe Tryz.prog 9 Value.string .string:=zsF (by kernel_rfl)
theorem zIj:Tryz.prog.underlying 254=some (.map 9 252):=by kernel_rfl
theorem zje {db pb:Addr} (i t j:Nat) (K:ByteArray) (h0:0<i) (hi:i<57) (hj:j<57) (hop:(zcC i).op=.insert 254 (.tmp 6) (.const (.string K)) (.tmp t)) (hd:(zcC i).dst=none) (hgu:(zcC i).guard=none) (hdj:(zcC j).dst=some t)
    (hb:(zcC i).after.any (fun e=>e.on==j&&Region.binds .any e)=true) (hb0:(zcC i).after.any (fun e=>e.on==0&&Region.binds .any e)=true)
    (hk:KL.find? (fun x=>decide (x.1=K))=some (K,i,j)) (hu:∀ x∈KL,x.2.1=i->x.1=K):zc6 db pb i:=by
  intro Q b0 w0 hB l a w h hm
  have hv:=zgV h (by omega) hdj (dep (by omega) hm hb)
  have hl0:=dep (by omega) hm hb0
  obtain ⟨mb,M,e1,e2,e3,e4⟩:=h.mp hl0
  obtain ⟨v',w',hr,hw⟩:=zhW (P:=Tryz.prog) kstr zIj e3 (a:=K) (v:=a.eval (.tmp t)) (Q:=fun v w'=>v=undef/\zdb Value.string w' mb (zql M K (a.eval (.tmp t)))/\zcv w w' (some ⟨mb,0,none⟩) (some ⟨mb,0,none⟩)) (fun w' h1 h2=>⟨rfl,h1,h2⟩)
  obtain ⟨rfl,hm',hg⟩:=hw
  have hr':(Instr.mapUpdate 254 (.map (some mb)) (.string K) (a.eval (.tmp t))).run Tryz.prog w=.ok () w':=by
    have hr2:(do Instr.mapUpdate 254 (.map (some mb)) (.string K) (a.eval (.tmp t)); pure undef:Sem Value).run Tryz.prog w=.ok undef w':=hr
    simp only [Sem.run_bind] at hr2
    cases hq:(Instr.mapUpdate 254 (.map (some mb)) (.string K) (a.eval (.tmp t))).run Tryz.prog w with
    |ok u w2 => rw [hq] at hr2; simp at hr2; rw [hr2]
    |halt x w2 => rw [hq] at hr2; simp at hr2
  refine zEC (zjS (by omega)) hgu ?_ (h.ins zxo (zjY db pb) (zjS (by omega)) hd (by omega) hl0 e1 e2 e3 e4 hk hu hv hm' hg)
  have e5:a.eval (.tmp 6)=.map (some mb):=e1
  have e6:a.eval (.const (.string K))=.string K:=rfl
  simp only [execOp,hop,e5,e6,Sem.run_bind,hr',Result.andThen_ok,Sem.run_pure]
theorem zKw {db pb:Addr}:zc6 db pb 0:=by
  intro Q b0 w0 hB l a w h hm
  have hl0:l.getD 0 false=false:=by
    have:=(mem_ready.1 hm).1
    cases hq:l[0]? with
    |none => simp [hq]
    |some b => simp [hq] at this ⊢; exact this
  obtain ⟨v',w',hr,hw⟩:=zkL (P:=Tryz.prog) (enc:=(Value.string:ByteArray->Value)) (t:=254) (w:=w) (K:=fun v w'=>v=.map (some w.heap.size)/\zdb Value.string w' w.heap.size []/\Ext w w') (fun w' h1 h2=>⟨rfl,h1,h2⟩)
  obtain ⟨rfl,hm',hx⟩:=hw
  have hop:(zcC 0).op=.makeMap 254 none:=by kernel_rfl
  have hr':(Instr.makeMap 254 none).run Tryz.prog w=.ok (.map (some w.heap.size)) w':=hr
  refine zoD (zjS (by omega)) (zll (d:=6) (by omega) (by kernel_rfl)) ?_ (h.put zxo hB.size (zjY db pb) (zjS (by omega)) (d:=6) (by kernel_rfl) hx (by unfold PV; exact trivial) (fun _=>⟨hl0,rfl,hm'⟩) (fun x hx he=>(zJ6 (by omega) x hx he).elim))
  simp only [execOp,hop,Option.map_none,Sem.run_bind,hr',Result.andThen_ok,Sem.run_pure]
theorem st_57 {db pb:Addr}:zc6 db pb 57:=by
  intro Q b0 w0 hB l a w h hm
  have hl0:=dep (j:=0) (by omega) hm (by kernel_rfl)
  have hop:(zcC 57).op=.move (.tmp 6):=by kernel_rfl
  refine zoD (v:=a.eval (.tmp 6)) (zjS (by omega)) (zll (d:=52) (by omega) (by kernel_rfl)) ?_ (h.put zxo hB.size (zjY db pb) (zjS (by omega)) (d:=52) (by kernel_rfl) (Ext.refl w) (by unfold PV; exact trivial) (fun hh=>by omega) (fun x hx he=>⟨hl0,rfl⟩))
  simp only [execOp,hop,Sem.run_pure]
theorem st_58 {db pb:Addr}:zc6 db pb 58:=by
  intro Q b0 w0 hB l a w h hm
  have hl0:=dep (j:=0) (by omega) hm (by kernel_rfl)
  have hl7:=dep (j:=57) (by omega) hm (by kernel_rfl)
  have hop:(zcC 58).op=.assign (.tmp 52):=by kernel_rfl
  refine zoD (v:=a.eval (.tmp 52)) (zjS (by omega)) (zll (d:=2) (by omega) (by kernel_rfl)) ?_ (h.put zxo hB.size (zjY db pb) (zjS (by omega)) (d:=2) (by kernel_rfl) (Ext.refl w) (by unfold PV; exact trivial) (fun hh=>by omega) (fun x hx he=>⟨hl0,(h.tie (57,52) (by decide) hl7).2⟩))
  simp only [execOp,hop,Sem.run_pure]
theorem st_1 {db pb:Addr}:zc6 db pb 1 :=
  zm6 1 7 (by decide) (by decide) (by kernel_rfl) (by kernel_rfl) (fun v w e=>e)
theorem st_2 {db pb:Addr}:zc6 db pb 2 :=
  zm7 2 8 7 1 208 (by decide) (by decide) (by decide) (by kernel_rfl) (by kernel_rfl) (by kernel_rfl) (by kernel_rfl) (fun v w e=>e) (fun v w e=>e)
theorem st_3 {db pb:Addr}:zc6 db pb 3 :=
  zd0 (n:=4) (b:=false) (R:=(fun f _=>zbp db 208 f)) 3 9 8 2 (by decide) (by decide) (by decide) (by kernel_rfl) (by kernel_rfl) (by kernel_rfl) (by kernel_rfl) (fun v w e=>⟨⟨_,_,_,e⟩,e⟩) (fun v w e=>e)
theorem st_4 {db pb:Addr}:zc6 db pb 4 :=
  zje 4 9 3 (⟨#[104,111,115,116]⟩:ByteArray) (by decide) (by decide) (by decide) (by kernel_rfl) (by kernel_rfl) (by kernel_rfl) (by kernel_rfl) (by kernel_rfl) (by kernel_rfl) (by kernel_rfl) (by decide)
theorem st_5 {db pb:Addr}:zc6 db pb 5 :=
  zm6 5 10 (by decide) (by decide) (by kernel_rfl) (by kernel_rfl) (fun v w e=>e)
theorem st_6 {db pb:Addr}:zc6 db pb 6 :=
  zm7 6 11 10 5 209 (by decide) (by decide) (by decide) (by kernel_rfl) (by kernel_rfl) (by kernel_rfl) (by kernel_rfl) (fun v w e=>e) (fun v w e=>e)
theorem st_7 {db pb:Addr}:zc6 db pb 7 :=
  zd0 (n:=1) (b:=false) (R:=(fun f _=>zbp db 209 f)) 7 12 11 6 (by decide) (by decide) (by decide) (by kernel_rfl) (by kernel_rfl) (by kernel_rfl) (by kernel_rfl) (fun v w e=>⟨⟨_,_,_,e⟩,e⟩) (fun v w e=>e)
theorem st_8 {db pb:Addr}:zc6 db pb 8 :=
  zje 8 12 7 (⟨#[111,112,101,110]⟩:ByteArray) (by decide) (by decide) (by decide) (by kernel_rfl) (by kernel_rfl) (by kernel_rfl) (by kernel_rfl) (by kernel_rfl) (by kernel_rfl) (by kernel_rfl) (by decide)
theorem st_9 {db pb:Addr}:zc6 db pb 9 :=
  zm6 9 13 (by decide) (by decide) (by kernel_rfl) (by kernel_rfl) (fun v w e=>e)
theorem st_10 {db pb:Addr}:zc6 db pb 10 :=
  zm7 10 14 13 9 210 (by decide) (by decide) (by decide) (by kernel_rfl) (by kernel_rfl) (by kernel_rfl) (by kernel_rfl) (fun v w e=>e) (fun v w e=>e)
theorem st_11 {db pb:Addr}:zc6 db pb 11 :=
  zd0 (n:=7) (b:=false) (R:=(fun f _=>zbp db 210 f)) 11 15 14 10 (by decide) (by decide) (by decide) (by kernel_rfl) (by kernel_rfl) (by kernel_rfl) (by kernel_rfl) (fun v w e=>⟨⟨_,_,_,e⟩,e⟩) (fun v w e=>e)
theorem st_12 {db pb:Addr}:zc6 db pb 12 :=
  zje 12 15 11 (⟨#[110,101,120,116]⟩:ByteArray) (by decide) (by decide) (by decide) (by kernel_rfl) (by kernel_rfl) (by kernel_rfl) (by kernel_rfl) (by kernel_rfl) (by kernel_rfl) (by kernel_rfl) (by decide)
theorem st_13 {db pb:Addr}:zc6 db pb 13 :=
  zm6 13 16 (by decide) (by decide) (by kernel_rfl) (by kernel_rfl) (fun v w e=>e)
theorem st_14 {db pb:Addr}:zc6 db pb 14 :=
  zm7 14 17 16 13 211 (by decide) (by decide) (by decide) (by kernel_rfl) (by kernel_rfl) (by kernel_rfl) (by kernel_rfl) (fun v w e=>e) (fun v w e=>e)
theorem st_15 {db pb:Addr}:zc6 db pb 15 :=
  zd0 (n:=6) (b:=true) (R:=(fun f _=>zbp db 211 f)) 15 18 17 14 (by decide) (by decide) (by decide) (by kernel_rfl) (by kernel_rfl) (by kernel_rfl) (by kernel_rfl) (fun v w e=>⟨⟨_,_,_,e⟩,e⟩) (fun v w e=>e)
theorem st_16 {db pb:Addr}:zc6 db pb 16 :=
  zje 16 18 15 (⟨#[115,117,98,109,105,116]⟩:ByteArray) (by decide) (by decide) (by decide) (by kernel_rfl) (by kernel_rfl) (by kernel_rfl) (by kernel_rfl) (by kernel_rfl) (by kernel_rfl) (by kernel_rfl) (by decide)
theorem st_17 {db pb:Addr}:zc6 db pb 17 :=
  zjf 17 19 3 (by decide) (by decide) (by kernel_rfl) (by kernel_rfl) (.inl ⟨rfl,fun v w e=>e⟩)
theorem st_18 {db pb:Addr}:zc6 db pb 18 :=
  zjf 18 20 4 (by decide) (by decide) (by kernel_rfl) (by kernel_rfl) (.inr ⟨rfl,fun v w e=>e⟩)
theorem st_19 {db pb:Addr}:zc6 db pb 19 :=
  zvL 19 21 212 (by decide) (by decide) (by kernel_rfl) (by kernel_rfl) (fun v w e=>e)
theorem st_20 {db pb:Addr}:zc6 db pb 20 :=
  zhZ 20 22 (.tmp 20) (.tmp 21) (by decide) (by decide) (.inl (by kernel_rfl)) (by kernel_rfl) fun b0 w0 hB l a w h hm=>by
    have e1:zgP pb 206 (a.eval (.tmp 20)):=zgV h (j:=18) (by decide) (by kernel_rfl) (dep (by decide) hm (by kernel_rfl))
    have e2:zgP pb 212 (a.eval (.tmp 21)):=zgV h (j:=19) (by decide) (by kernel_rfl) (dep (by decide) hm (by kernel_rfl))
    refine ⟨206,#[.pointer (some pb)],e1,?_⟩
    rw [e2]
    exact zsM pb 212 w
theorem st_21 {db pb:Addr}:zc6 db pb 21 :=
  zhZ 21 23 (.tmp 19) (.tmp 22) (by decide) (by decide) (.inl (by kernel_rfl)) (by kernel_rfl) fun b0 w0 hB l a w h hm=>by
    have e1:a.eval (.tmp 19)=.func (.func 202) #[] #[]:=zgV h (j:=17) (by decide) (by kernel_rfl) (dep (by decide) hm (by kernel_rfl))
    have e2:zf1 pb 212 (a.eval (.tmp 22)) w:=zgV h (j:=20) (by decide) (by kernel_rfl) (dep (by decide) hm (by kernel_rfl))
    exact ⟨202,#[],e1,zsO pb 212 _ w e2⟩
theorem st_22 {db pb:Addr}:zc6 db pb 22 :=
  zd0 (n:=2) (b:=false) (R:=(zdh pb 212)) 22 24 23 21 (by decide) (by decide) (by decide) (by kernel_rfl) (by kernel_rfl) (by kernel_rfl) (by kernel_rfl) (fun v w e=>⟨by obtain ⟨p,q,e1,_⟩:=e; exact ⟨_,_,_,e1⟩,e⟩) (fun v w e=>e)
theorem st_23 {db pb:Addr}:zc6 db pb 23 :=
  zje 23 24 22 (⟨#[116,105,99,107]⟩:ByteArray) (by decide) (by decide) (by decide) (by kernel_rfl) (by kernel_rfl) (by kernel_rfl) (by kernel_rfl) (by kernel_rfl) (by kernel_rfl) (by kernel_rfl) (by decide)
theorem st_24 {db pb:Addr}:zc6 db pb 24 :=
  zm6 24 25 (by decide) (by decide) (by kernel_rfl) (by kernel_rfl) (fun v w e=>e)
theorem st_25 {db pb:Addr}:zc6 db pb 25 :=
  zm7 25 26 25 24 213 (by decide) (by decide) (by decide) (by kernel_rfl) (by kernel_rfl) (by kernel_rfl) (by kernel_rfl) (fun v w e=>e) (fun v w e=>e)
theorem st_26 {db pb:Addr}:zc6 db pb 26 :=
  zd0 (n:=1) (b:=true) (R:=(fun f _=>zbp db 213 f)) 26 27 26 25 (by decide) (by decide) (by decide) (by kernel_rfl) (by kernel_rfl) (by kernel_rfl) (by kernel_rfl) (fun v w e=>⟨⟨_,_,_,e⟩,e⟩) (fun v w e=>e)
theorem st_27 {db pb:Addr}:zc6 db pb 27 :=
  zje 27 27 26 (⟨#[112,108,97,110]⟩:ByteArray) (by decide) (by decide) (by decide) (by kernel_rfl) (by kernel_rfl) (by kernel_rfl) (by kernel_rfl) (by kernel_rfl) (by kernel_rfl) (by kernel_rfl) (by decide)
theorem st_28 {db pb:Addr}:zc6 db pb 28 :=
  zjf 28 28 3 (by decide) (by decide) (by kernel_rfl) (by kernel_rfl) (.inl ⟨rfl,fun v w e=>e⟩)
theorem st_29 {db pb:Addr}:zc6 db pb 29 :=
  zjf 29 29 4 (by decide) (by decide) (by kernel_rfl) (by kernel_rfl) (.inr ⟨rfl,fun v w e=>e⟩)
theorem st_30 {db pb:Addr}:zc6 db pb 30 :=
  zvL 30 30 214 (by decide) (by decide) (by kernel_rfl) (by kernel_rfl) (fun v w e=>e)
theorem st_31 {db pb:Addr}:zc6 db pb 31 :=
  zhZ 31 31 (.tmp 29) (.tmp 30) (by decide) (by decide) (.inl (by kernel_rfl)) (by kernel_rfl) fun b0 w0 hB l a w h hm=>by
    have e1:zgP pb 206 (a.eval (.tmp 29)):=zgV h (j:=29) (by decide) (by kernel_rfl) (dep (by decide) hm (by kernel_rfl))
    have e2:zgP pb 214 (a.eval (.tmp 30)):=zgV h (j:=30) (by decide) (by kernel_rfl) (dep (by decide) hm (by kernel_rfl))
    refine ⟨206,#[.pointer (some pb)],e1,?_⟩
    rw [e2]
    exact zsM pb 214 w
theorem st_32 {db pb:Addr}:zc6 db pb 32 :=
  zhZ 32 32 (.tmp 28) (.tmp 31) (by decide) (by decide) (.inl (by kernel_rfl)) (by kernel_rfl) fun b0 w0 hB l a w h hm=>by
    have e1:a.eval (.tmp 28)=.func (.func 202) #[] #[]:=zgV h (j:=28) (by decide) (by kernel_rfl) (dep (by decide) hm (by kernel_rfl))
    have e2:zf1 pb 214 (a.eval (.tmp 31)) w:=zgV h (j:=31) (by decide) (by kernel_rfl) (dep (by decide) hm (by kernel_rfl))
    exact ⟨202,#[],e1,zsO pb 214 _ w e2⟩
theorem st_33 {db pb:Addr}:zc6 db pb 33 :=
  zd0 (n:=2) (b:=false) (R:=(zdh pb 214)) 33 33 32 32 (by decide) (by decide) (by decide) (by kernel_rfl) (by kernel_rfl) (by kernel_rfl) (by kernel_rfl) (fun v w e=>⟨by obtain ⟨p,q,e1,_⟩:=e; exact ⟨_,_,_,e1⟩,e⟩) (fun v w e=>e)
theorem st_34 {db pb:Addr}:zc6 db pb 34 :=
  zje 34 33 33 (⟨#[103,111,111,100]⟩:ByteArray) (by decide) (by decide) (by decide) (by kernel_rfl) (by kernel_rfl) (by kernel_rfl) (by kernel_rfl) (by kernel_rfl) (by kernel_rfl) (by kernel_rfl) (by decide)
theorem st_35 {db pb:Addr}:zc6 db pb 35 :=
  zjf 35 34 3 (by decide) (by decide) (by kernel_rfl) (by kernel_rfl) (.inl ⟨rfl,fun v w e=>e⟩)
theorem st_36 {db pb:Addr}:zc6 db pb 36 :=
  zjf 36 35 4 (by decide) (by decide) (by kernel_rfl) (by kernel_rfl) (.inr ⟨rfl,fun v w e=>e⟩)
theorem st_37 {db pb:Addr}:zc6 db pb 37 :=
  zvL 37 36 216 (by decide) (by decide) (by kernel_rfl) (by kernel_rfl) (fun v w e=>e)
theorem st_38 {db pb:Addr}:zc6 db pb 38 :=
  zhZ 38 37 (.tmp 35) (.tmp 36) (by decide) (by decide) (.inl (by kernel_rfl)) (by kernel_rfl) fun b0 w0 hB l a w h hm=>by
    have e1:zgP pb 206 (a.eval (.tmp 35)):=zgV h (j:=36) (by decide) (by kernel_rfl) (dep (by decide) hm (by kernel_rfl))
    have e2:zgP pb 216 (a.eval (.tmp 36)):=zgV h (j:=37) (by decide) (by kernel_rfl) (dep (by decide) hm (by kernel_rfl))
    refine ⟨206,#[.pointer (some pb)],e1,?_⟩
    rw [e2]
    exact zsM pb 216 w
theorem st_39 {db pb:Addr}:zc6 db pb 39 :=
  zhZ 39 38 (.tmp 34) (.tmp 37) (by decide) (by decide) (.inl (by kernel_rfl)) (by kernel_rfl) fun b0 w0 hB l a w h hm=>by
    have e1:a.eval (.tmp 34)=.func (.func 202) #[] #[]:=zgV h (j:=35) (by decide) (by kernel_rfl) (dep (by decide) hm (by kernel_rfl))
    have e2:zf1 pb 216 (a.eval (.tmp 37)) w:=zgV h (j:=38) (by decide) (by kernel_rfl) (dep (by decide) hm (by kernel_rfl))
    exact ⟨202,#[],e1,zsO pb 216 _ w e2⟩
theorem st_40 {db pb:Addr}:zc6 db pb 40 :=
  zd0 (n:=2) (b:=false) (R:=(zdh pb 216)) 40 39 38 39 (by decide) (by decide) (by decide) (by kernel_rfl) (by kernel_rfl) (by kernel_rfl) (by kernel_rfl) (fun v w e=>⟨by obtain ⟨p,q,e1,_⟩:=e; exact ⟨_,_,_,e1⟩,e⟩) (fun v w e=>e)
theorem st_41 {db pb:Addr}:zc6 db pb 41 :=
  zje 41 39 40 (⟨#[98,97,100]⟩:ByteArray) (by decide) (by decide) (by decide) (by kernel_rfl) (by kernel_rfl) (by kernel_rfl) (by kernel_rfl) (by kernel_rfl) (by kernel_rfl) (by kernel_rfl) (by decide)
theorem st_42 {db pb:Addr}:zc6 db pb 42 :=
  zjf 42 40 3 (by decide) (by decide) (by kernel_rfl) (by kernel_rfl) (.inl ⟨rfl,fun v w e=>e⟩)
theorem st_43 {db pb:Addr}:zc6 db pb 43 :=
  zjf 43 41 4 (by decide) (by decide) (by kernel_rfl) (by kernel_rfl) (.inr ⟨rfl,fun v w e=>e⟩)
theorem st_44 {db pb:Addr}:zc6 db pb 44 :=
  zvL 44 42 217 (by decide) (by decide) (by kernel_rfl) (by kernel_rfl) (fun v w e=>e)
theorem st_45 {db pb:Addr}:zc6 db pb 45 :=
  zhZ 45 43 (.tmp 41) (.tmp 42) (by decide) (by decide) (.inl (by kernel_rfl)) (by kernel_rfl) fun b0 w0 hB l a w h hm=>by
    have e1:zgP pb 206 (a.eval (.tmp 41)):=zgV h (j:=43) (by decide) (by kernel_rfl) (dep (by decide) hm (by kernel_rfl))
    have e2:zgP pb 217 (a.eval (.tmp 42)):=zgV h (j:=44) (by decide) (by kernel_rfl) (dep (by decide) hm (by kernel_rfl))
    refine ⟨206,#[.pointer (some pb)],e1,?_⟩
    rw [e2]
    exact zsM pb 217 w
theorem st_46 {db pb:Addr}:zc6 db pb 46 :=
  zhZ 46 44 (.tmp 40) (.tmp 43) (by decide) (by decide) (.inl (by kernel_rfl)) (by kernel_rfl) fun b0 w0 hB l a w h hm=>by
    have e1:a.eval (.tmp 40)=.func (.func 202) #[] #[]:=zgV h (j:=42) (by decide) (by kernel_rfl) (dep (by decide) hm (by kernel_rfl))
    have e2:zf1 pb 217 (a.eval (.tmp 43)) w:=zgV h (j:=45) (by decide) (by kernel_rfl) (dep (by decide) hm (by kernel_rfl))
    exact ⟨202,#[],e1,zsO pb 217 _ w e2⟩
theorem st_47 {db pb:Addr}:zc6 db pb 47 :=
  zd0 (n:=2) (b:=false) (R:=(zdh pb 217)) 47 45 44 46 (by decide) (by decide) (by decide) (by kernel_rfl) (by kernel_rfl) (by kernel_rfl) (by kernel_rfl) (fun v w e=>⟨by obtain ⟨p,q,e1,_⟩:=e; exact ⟨_,_,_,e1⟩,e⟩) (fun v w e=>e)
theorem st_48 {db pb:Addr}:zc6 db pb 48 :=
  zje 48 45 47 (⟨#[99,97,110,99,101,108]⟩:ByteArray) (by decide) (by decide) (by decide) (by kernel_rfl) (by kernel_rfl) (by kernel_rfl) (by kernel_rfl) (by kernel_rfl) (by kernel_rfl) (by kernel_rfl) (by decide)
theorem st_49 {db pb:Addr}:zc6 db pb 49 :=
  zvL 49 46 218 (by decide) (by decide) (by kernel_rfl) (by kernel_rfl) (fun v w e=>e)
theorem st_50 {db pb:Addr}:zc6 db pb 50 :=
  zhZ 50 47 (.func 203) (.tmp 46) (by decide) (by decide) (.inr (by kernel_rfl)) (by kernel_rfl) fun b0 w0 hB l a w h hm=>by
    have e2:zgP pb 218 (a.eval (.tmp 46)):=zgV h (j:=49) (by decide) (by kernel_rfl) (dep (by decide) hm (by kernel_rfl))
    refine ⟨203,#[],rfl,?_⟩
    rw [e2]
    exact zH4 _ rfl w
theorem st_51 {db pb:Addr}:zc6 db pb 51 :=
  zd0 (n:=2) (b:=false) (R:=(zns pb)) 51 48 47 50 (by decide) (by decide) (by decide) (by kernel_rfl) (by kernel_rfl) (by kernel_rfl) (by kernel_rfl) (fun v w e=>⟨by obtain ⟨p,e1,_⟩:=e; exact ⟨_,_,_,e1⟩,e⟩) (fun v w e=>e)
theorem st_52 {db pb:Addr}:zc6 db pb 52 :=
  zje 52 48 51 (⟨#[115,104,111,119]⟩:ByteArray) (by decide) (by decide) (by decide) (by kernel_rfl) (by kernel_rfl) (by kernel_rfl) (by kernel_rfl) (by kernel_rfl) (by kernel_rfl) (by kernel_rfl) (by decide)
theorem st_53 {db pb:Addr}:zc6 db pb 53 :=
  zm6 53 49 (by decide) (by decide) (by kernel_rfl) (by kernel_rfl) (fun v w e=>e)
theorem st_54 {db pb:Addr}:zc6 db pb 54 :=
  zm7 54 50 49 53 222 (by decide) (by decide) (by decide) (by kernel_rfl) (by kernel_rfl) (by kernel_rfl) (by kernel_rfl) (fun v w e=>e) (fun v w e=>e)
theorem st_55 {db pb:Addr}:zc6 db pb 55 :=
  zd0 (n:=2) (b:=true) (R:=(fun f _=>zbp db 222 f)) 55 51 50 54 (by decide) (by decide) (by decide) (by kernel_rfl) (by kernel_rfl) (by kernel_rfl) (by kernel_rfl) (fun v w e=>⟨⟨_,_,_,e⟩,e⟩) (fun v w e=>e)
theorem st_56 {db pb:Addr}:zc6 db pb 56 :=
  zje 56 51 55 (⟨#[102,114,101,101]⟩:ByteArray) (by decide) (by decide) (by decide) (by kernel_rfl) (by kernel_rfl) (by kernel_rfl) (by kernel_rfl) (by kernel_rfl) (by kernel_rfl) (by kernel_rfl) (by decide)
theorem zHc {db pb:Addr}:∀ i,i<59->zc6 db pb i
  |0,_ => zKw
  |1,_ => st_1
  |2,_ => st_2
  |3,_ => st_3
  |4,_ => st_4
  |5,_ => st_5
  |6,_ => st_6
  |7,_ => st_7
  |8,_ => st_8
  |9,_ => st_9
  |10,_ => st_10
  |11,_ => st_11
  |12,_ => st_12
  |13,_ => st_13
  |14,_ => st_14
  |15,_ => st_15
  |16,_ => st_16
  |17,_ => st_17
  |18,_ => st_18
  |19,_ => st_19
  |20,_ => st_20
  |21,_ => st_21
  |22,_ => st_22
  |23,_ => st_23
  |24,_ => st_24
  |25,_ => st_25
  |26,_ => st_26
  |27,_ => st_27
  |28,_ => st_28
  |29,_ => st_29
  |30,_ => st_30
  |31,_ => st_31
  |32,_ => st_32
  |33,_ => st_33
  |34,_ => st_34
  |35,_ => st_35
  |36,_ => st_36
  |37,_ => st_37
  |38,_ => st_38
  |39,_ => st_39
  |40,_ => st_40
  |41,_ => st_41
  |42,_ => st_42
  |43,_ => st_43
  |44,_ => st_44
  |45,_ => st_45
  |46,_ => st_46
  |47,_ => st_47
  |48,_ => st_48
  |49,_ => st_49
  |50,_ => st_50
  |51,_ => st_51
  |52,_ => st_52
  |53,_ => st_53
  |54,_ => st_54
  |55,_ => st_55
  |56,_ => st_56
  |57,_ => st_57
  |58,_ => st_58
  |n+59,h => by omega
theorem zGG:((List.range 59).all fun i=>(zcC i).after.all fun e=>decide (e.on<i))=true:=by kernel_rfl
theorem zAJ {l:Array Bool} (hl:l.size=zeG.size) (hr:Region.ready .any zeG l=[]):∀ i,i<59->l.getD i false=true:=by
  intro i
  induction i using Nat.strongRecOn with
  |_ i ih =>
    intro hi
    rcases hq:l.getD i true with _|_
    · have:i∈Region.ready .any zeG l:=mem_ready.2 ⟨hq,zcC i,zjS hi,fun e he _=>by
        have h1:=zGG
        rw [List.all_eq_true] at h1
        have h2:=h1 i (List.mem_range.2 hi)
        rw [Array.all_eq_true_iff_forall_mem] at h2
        have h3:=of_decide_eq_true (h2 e he)
        exact ih _ h3 (by omega)⟩
      rw [hr] at this; cases this
    · have hs:i<l.size:=by rw [hl,zos]; exact hi
      simp [hs] at hq ⊢; exact hq
def Tab (db pb:Addr) (w:World) (k:ByteArray) (g:Option Value):Prop :=
  match KL.find? (fun x=>decide (x.1=k)) with
  |some (_,_,b) => ∃ v,g=some v/\PV db pb b v w
  |none => g=none
theorem tab_of {db pb:Addr} {l:Array Bool} {w:World} {k:ByteArray} {g:Option Value} (hl:∀ i,i<59->l.getD i false=true) (h:MAt (PV db pb) KL l w k g):Tab db pb w k g:=by
  unfold MAt at h; unfold Tab
  split at h
  · rename_i y j b he
    try rw [he]
    have hj:j<59:=by
      have hm:=List.mem_of_find?_eq_some he
      have:∀ x∈KL,x.2.1<59:=by decide
      exact this _ hm
    rw [if_pos (hl j hj)] at h
    exact h
  · rename_i he
    first|exact h|(rw [he]; exact h)
theorem end151 {db pb:Addr} {b0:Act} {w0:World} {l:Array Bool} {a:Act} {w:World} (h:zE7 db pb b0 w0 l a w) (hr:Region.ready .any zeG l=[]) :
    Ext w0 w/\a.tmps.size=b0.tmps.size/\a.defers=b0.defers/\∃ mb M,a.tmps.getD 2 undef=.map (some mb)/\w0.heap.size<=mb/\zdb Value.string w mb M/\∀ k,Tab db pb w k (ziw M k):=by
  have hl:=zAJ h.lsz hr
  obtain ⟨mb,M,e1,e2,e3,e4⟩:=h.mp (hl 0 (by decide))
  exact ⟨h.ext,h.size,h.defers,mb,M,by rw [(h.tie (58,2) (by decide) (hl 58 (by decide))).2]; exact e1,e2,e3,fun k=>tab_of hl (e4 k)⟩
theorem zHb {db pb:Addr} {b0:Act} {w0:World} (hB:zKI db pb b0 w0):zE7 db pb b0 w0 (Array.replicate 59 false) b0 w0:=by
  have hf:∀ i,(Array.replicate 59 false).getD i false=false:=fun i=>by
    simp [Array.getElem?_replicate]; split<;>rfl
  refine ⟨by rw [zos]; simp,rfl,rfl,fun d hd=>rfl,Ext.refl w0,fun i o d _ hl=>?_,fun hl=>?_,fun _ x _=>hf _,fun x _ hl=>?_⟩
  · rw [hf] at hl; cases hl
  · rw [hf] at hl; cases hl
  · rw [hf] at hl; cases hl
theorem any151 {db pb:Addr} {b0:Act} {w0:World} {Q:Exit->Act->World->Prop} (hB:zKI db pb b0 w0)
    (hQ:∀ a w,Ext w0 w->a.tmps.size=b0.tmps.size->a.defers=b0.defers->(∃ mb M,a.tmps.getD 2 undef=.map (some mb)/\w0.heap.size<=mb/\zdb Value.string w mb M/\∀ k,Tab db pb w k (ziw M k))->Q .normal a w) :
    wpAny Tryz.prog .any zeG Q 59 (Array.replicate 59 false) b0 w0:=by
  refine zEB (I:=zE7 db pb b0 w0) (fun l a w i h hm=>?_) (fun l a w h hr=>?_) 59 _ b0 w0 (by decide) (zHb hB)
  · have hi:i<59:=by
      obtain ⟨_,o,ho,_⟩:=mem_ready.1 hm
      have:=(Array.getElem?_eq_some_iff.1 ho).1
      rwa [zos] at this
    exact zHc i hi Q b0 w0 hB l a w h hm
  · obtain ⟨h1,h2,h3,h4⟩:=end151 h hr
    exact hQ a w h1 h2 h3 h4
theorem zIQ (w:World) (v:Value):(w.alloc (.cells #[v] 115)).cell? ⟨w.heap.size,0,none⟩=some v:=by
  have h:(w.alloc (.cells #[v] 115)).heap[w.heap.size]?=some (.cells #[v] 115):=heap_alloc_new w _
  unfold World.cell?
  simp only [h]; rfl
theorem zBV (w:World) (o:Obj):(w.alloc o).heap.size=w.heap.size+1:=Array.size_push ..
theorem zAn (db:Addr) (w:World):FnP Tryz.prog 151 #[.pointer (some db)] w fun v w'=>Ext w w'/\∃ pb mb M,v=.map (some mb)/\w'.cell? pb=some (.pointer (some db))/\zdb Value.string w' mb M/\∀ k,Tab db pb w' k (ziw M k):=by
  refine ⟨fun args w=>Tryz.call151 args w,?_⟩
  go_enter Tryz.func151,Tryz.ntmps151
  go_wp2
  rename_i K hK
  refine wp_region_any (by kernel_rfl) ?_
  change wpAny _ _ zeG _ 59 (Array.replicate 59 false) _ _
  have hx0:Ext w { (w.alloc (.cells #[.pointer (some db)] 115)) with drawn:=(w.alloc (.cells #[.pointer (some db)] 115)).drawn+1 } :=
    Below.drew (Below.alloc (Below.refl _ _) (Nat.le_refl _) _)
  have hc0:(w.alloc (.cells #[.pointer (some db)] 115)).cell? ⟨w.heap.size,0,none⟩=some (.pointer (some db)):=zIQ w _
  have hz0:(w.alloc (.cells #[.pointer (some db)] 115)).heap.size=w.heap.size+1:=zBV w _
  refine any151 (db:=db) (pb:=⟨w.heap.size,0,none⟩) ⟨by simp,by rfl,by rfl,by rfl,hc0,by show w.heap.size<(w.alloc (.cells #[.pointer (some db)] 115)).heap.size; omega⟩ fun a w1 hx hs hd ht=>?_
  obtain ⟨mb,M,e1,e2,e3,e4⟩:=ht
  refine hK a w1 ?_
  obtain ⟨tm,df⟩:=a
  have hd':df=[]:=hd
  subst hd'
  refine wp_ret ?_
  refine bodyPost_ret (results_tmp (t:=2) rfl _ _ _) rfl ?_
  refine ⟨_,rfl,hx0.trans hx,⟨w.heap.size,0,none⟩,mb,M,e1,?_,e3,e4⟩
  refine (hx.cell ?_).trans hc0
  show w.heap.size<(w.alloc (.cells #[.pointer (some db)] 115)).heap.size
  omega
end Go.Proofs.YtcceeahmcecbnaaGreatDoor
namespace Go.Proofs.YtcceeahmcecbnaaGreatDoor
open Go.RowKit Go.Extern.Stop Go.Stop Go.Extern
theorem as_nil (t:Value) (w:World):Calls Tryz.prog 104 #[.nilIface,t] w fun e w'=>e=.returned (.bool false)/\w'=w:=by
  go_enter Tryz.func104,Tryz.ntmps104
  go_wp2
  go_ret
  exact ⟨rfl,rfl⟩
namespace As
theorem valueOf196 (t:Addr) (w:World):(ReflectliteValue.unpack (.iface 196 (.pointer (some t)))).run Tryz.prog w
    = .ok (.agg #[.pointer (some ⟨11,196,none⟩),.pointer (some ⟨w.heap.size,0,none⟩),.int .u64 150]) (w.alloc (.cells #[.pointer (some t)] 196)):=by kernel_rfl
theorem type196 (a : Addr) (w : World) : (ReflectliteValue.methodAny (ReflectliteValue.valueError "reflectlite.Value.Type" 0) (fun t _ _ _ => ReflectliteType.toType t) #[.agg #[.pointer (some ⟨11, 196, none⟩), .pointer (some a), .int .u64 150]]).run Tryz.prog w
    = .ok (.iface 329 (.agg #[.pointer (some ⟨11,196,none⟩)])) w:=by kernel_rfl
theorem methodKind (h : Value) (w : World) : (Go.method 539 329 (.agg #[h]) "Kind").run Tryz.prog w = .ok (302, h) w := by kernel_rfl
theorem kind196 (w:World):((ReflectliteType.abiMethod fun t=>Functor.map (fun a:Nat=>Value.int IntKind.u8 (a:Int)) (Rtype.kind t)) #[.pointer (some ⟨11,196,none⟩)]).run Tryz.prog w=.ok (.int .u8 22) w:=by kernel_rfl
theorem kind24 (w:World):((ReflectliteType.abiMethod fun t=>Functor.map (fun a:Nat=>Value.int IntKind.u8 (a:Int)) (Rtype.kind t)) #[.pointer (some ⟨11,24,none⟩)]).run Tryz.prog w=.ok (.int .u8 2) w:=by kernel_rfl
theorem rlm (z:Sem Value) (f:TypeId->Addr->Nat->Nat->Sem Value) (v:Value) :
    ReflectliteValue.method z f #[v]=(do match <- ReflectliteValue.parts v with|none=>z|some (t,a,fl)=>f t a fl (fl%32)):=rfl
theorem zzy (a:Addr) (w:World):(ReflectliteValue.parts (.agg #[.pointer (some ⟨11,196,none⟩),.pointer (some a),.int .u64 150])).run Tryz.prog w=.ok (some (196,a,150)) w:=by kernel_rfl
theorem zzY:Tryz.prog.underlying 196=some (.pointer 24):=by kernel_rfl
theorem zKC:Tryz.prog.underlying 24=some (.int .i64):=by kernel_rfl
theorem isNil196 (a p:Addr) (W:World) (ha:W.cell? a=some (.pointer (some p))) :
    (ReflectliteValue.method (ReflectliteValue.valueError "reflectlite.Value.IsNil" 0) ReflectliteValue.isNil #[.agg #[.pointer (some ⟨11, 196, none⟩), .pointer (some a), .int .u64 150]]).run Tryz.prog W = .ok (.bool false) W := by
  rw [rlm]
  simp only [Sem.run_bind,zzy,Result.andThen]
  simp [ReflectliteValue.isNil,loadVar,isAgg,underlying,zzY,ha,Result.andThen]
theorem methodElem (h : Value) (w : World) : (Go.method 539 329 (.agg #[h]) "Elem").run Tryz.prog w = .ok (329, .agg #[h]) w := by kernel_rfl
theorem methodImplements (h : Value) (w : World) : (Go.method 539 329 (.agg #[h]) "Implements").run Tryz.prog w = .ok (330, .agg #[h]) w := by kernel_rfl
theorem methodAssignableTo (h : Value) (w : World) : (Go.method 539 329 (.agg #[h]) "AssignableTo").run Tryz.prog w = .ok (327, .agg #[h]) w := by kernel_rfl
theorem elem196 (w:World):(ReflectliteType.method ReflectliteType.elem #[.agg #[.pointer (some ⟨11,196,none⟩)]]).run Tryz.prog w=.ok (.iface 329 (.agg #[.pointer (some ⟨11,24,none⟩)])) w:=by kernel_rfl
theorem implements24 (w : World) : (ReflectliteType.relation "Implements" ReflectliteType.implements_ #[.agg #[.pointer (some ⟨11, 24, none⟩)], .iface 329 (.agg #[.pointer (some ⟨11, 175, none⟩)])]).run Tryz.prog w = .ok (.bool true) w := by kernel_rfl
theorem typeOf24 (v:Value) (w:World):(ReflectliteType.typeOf #[.iface 24 v]).run Tryz.prog w=.ok (.iface 329 (.agg #[.pointer (some ⟨11,24,none⟩)])) w:=by kernel_rfl
theorem typeOf257 (v:Value) (w:World):(ReflectliteType.typeOf #[.iface 257 v]).run Tryz.prog w=.ok (.iface 329 (.agg #[.pointer (some ⟨11,257,none⟩)])) w:=by kernel_rfl
theorem assignable24 (w : World) : (ReflectliteType.relation "AssignableTo" ReflectliteType.assignableTo #[.agg #[.pointer (some ⟨11, 24, none⟩)], .iface 329 (.agg #[.pointer (some ⟨11, 24, none⟩)])]).run Tryz.prog w = .ok (.bool true) w := by kernel_rfl
theorem assignable257 (w : World) : (ReflectliteType.relation "AssignableTo" ReflectliteType.assignableTo #[.agg #[.pointer (some ⟨11, 257, none⟩)], .iface 329 (.agg #[.pointer (some ⟨11, 24, none⟩)])]).run Tryz.prog w = .ok (.bool false) w := by kernel_rfl
theorem valueOf24 (n:Int) (w:World):(ReflectliteValue.unpack (.iface 24 (.int .i64 n))).run Tryz.prog w
    = .ok (.agg #[.pointer (some ⟨11,24,none⟩),.pointer (some ⟨w.heap.size,0,none⟩),.int .u64 130]) (w.alloc (.cells #[.int .i64 n] 24)):=by kernel_rfl
theorem zCw (w:World):(Rtype.elem? 196).run Tryz.prog w=.ok (some 24) w:=by kernel_rfl
theorem zuR (p:Addr) (w:World):(ReflectliteValue.mk 24 p ReflectliteValue.flagAddr).run Tryz.prog w=.ok (.agg #[.pointer (some ⟨11,24,none⟩),.pointer (some p),.int .u64 386]) w:=by kernel_rfl
theorem elemV196 (a p:Addr) (W:World) (ha:W.cell? a=some (.pointer (some p))) :
    (ReflectliteValue.method (ReflectliteValue.valueError "reflectlite.Value.Elem" 0) ReflectliteValue.elem #[.agg #[.pointer (some ⟨11, 196, none⟩), .pointer (some a), .int .u64 150]]).run Tryz.prog W
      = .ok (.agg #[.pointer (some ⟨11,24,none⟩),.pointer (some p),.int .u64 386]) W:=by
  rw [rlm]
  simp only [Sem.run_bind,zzy,Result.andThen]
  simp [ReflectliteValue.elem,loadVar,isAgg,underlying,zzY,ha,Result.andThen,zCw,zuR]
theorem rls (v x:Value):ReflectliteValue.set #[v,x]=(do
    let (some (dst,a,fl),some (src,b,_)):=(<- ReflectliteValue.parts v,<- ReflectliteValue.parts x)
      | unsupported (.noEntry "extern/(internal/reflectlite.Value).Set.zeroValue")
    if fl / ReflectliteValue.flagAddr % 2 == 0 then unsupported (.noEntry "extern/(internal/reflectlite.Value).Set.unaddressable")
    let val <- loadVar src b
    if <- Rtype.directlyAssignable dst src then storeVar dst a val
    else if <- Rtype.implements dst src then
      if (<- Rtype.kind src)==20 then
        match val with
        | .nilIface => unsupported (.noEntry "extern/reflectlite: a nil value of one interface type handed on as a value of another")
        |_ => storeVar dst a val
      else storeVar dst a (.iface src val)
    else panicString ("reflectlite.Set: value of type " ++ (<- Rtype.spelt src) ++ " is not assignable to type " ++ (<- Rtype.spelt dst))
    pure (.tuple #[])):=rfl
theorem zGI (a:Addr) (w:World):(ReflectliteValue.parts (.agg #[.pointer (some ⟨11,24,none⟩),.pointer (some a),.int .u64 386])).run Tryz.prog w=.ok (some (24,a,386)) w:=by kernel_rfl
theorem zKe (a:Addr) (w:World):(ReflectliteValue.parts (.agg #[.pointer (some ⟨11,24,none⟩),.pointer (some a),.int .u64 130])).run Tryz.prog w=.ok (some (24,a,130)) w:=by kernel_rfl
theorem zFK (w:World):(Rtype.directlyAssignable 24 24).run Tryz.prog w=.ok true w:=by kernel_rfl
theorem set24 (ta b:Addr) (n:Int) (old:Value) (W:World) (hb:W.cell? b=some (.int .i64 n)) (ht:W.cell? ta=some old) (hf:W.frozen? ta=false) :
    (ReflectliteValue.set #[.agg #[.pointer (some ⟨11,24,none⟩),.pointer (some ta),.int .u64 386],.agg #[.pointer (some ⟨11,24,none⟩),.pointer (some b),.int .u64 130]]).run Tryz.prog W
      = .ok (.tuple #[]) (W.setCell ta (.int .i64 n)):=by
  rw [rls]
  simp only [Sem.run_bind,zGI,zKe,Result.andThen]
  simp [ReflectliteValue.flagAddr,loadVar,isAgg,underlying,zKC,hb,Result.andThen,zFK,storeVar,Value.cells,storeCells,Addr.add]
  rw [run_store Tryz.prog W ta _ _ (by rfl)]
  simp [ht,hf]
theorem noAs (v:Value) (xT:TypeId) (w:World):(Instr.typeAssert (.iface 257 v) xT 334 true).run Tryz.prog w=.ok (.tuple #[.nilIface,.bool false]) w:=run_typeAssert_lacksB Tryz.underlying334 (by kernel_rfl) (by kernel_rfl) v xT w
theorem hasUnwrap (v:Value) (xT:TypeId) (w:World):(Instr.typeAssert (.iface 257 v) xT 337 true).run Tryz.prog w=.ok (.tuple #[.iface 257 v,.bool true]) w:=run_typeAssert_hasB Tryz.underlying337 (by kernel_rfl) v xT w
theorem methodUnwrap (a b : Value) (w : World) : (Go.method 539 257 (.agg #[a, b]) "Unwrap").run Tryz.prog w = .ok (318, .agg #[a, b]) w := by kernel_rfl
end As
set_option maxRecDepth 100000 in
set_option maxHeartbeats 4000000 in
theorem as_hit (n:Int) (t:Addr) (old:Value) (w:World) (hg:w.cell? ⟨0,0,none⟩=some (.iface 329 (.agg #[.pointer (some ⟨11,175,none⟩)]))) (ht0:w.cell? t=some old) (hf0:w.frozen? t=false) :
    Calls Tryz.prog 104 #[.iface 24 (.int .i64 n),.iface 196 (.pointer (some t))] w fun ev w'=>ev=.returned (.bool true)/\∃ o1 o2 o3 o4:Obj,w'=((((w.alloc o1).alloc o2).alloc o3).alloc o4).setCell t (.int .i64 n):=by
  have h152:=@run_callFunc_extern Tryz.prog 152 _ (fun args=>ReflectliteValue.unpack (args.getD 0 (.tuple #[]))) Tryz.func152 (by kernel_rfl) (by kernel_rfl) (by kernel_rfl) (by kernel_rfl)
  have h153 := @run_callFunc_extern Tryz.prog 153 _ (ReflectliteValue.methodAny (ReflectliteValue.valueError "reflectlite.Value.Type" 0) (fun t _ _ _ => ReflectliteType.toType t)) Tryz.func153 (by kernel_rfl) (by kernel_rfl) (by kernel_rfl) (by kernel_rfl)
  have h154 := @run_callFunc_extern Tryz.prog 154 _ (ReflectliteValue.method (ReflectliteValue.valueError "reflectlite.Value.IsNil" 0) ReflectliteValue.isNil) Tryz.func154 (by kernel_rfl) (by kernel_rfl) (by kernel_rfl) (by kernel_rfl)
  have h302:=@run_callFunc_extern Tryz.prog 302 _ (ReflectliteType.abiMethod fun t=>do pure (.int .u8 (<- Rtype.kind t))) Tryz.func302 (by kernel_rfl) (by kernel_rfl) (by kernel_rfl) (by kernel_rfl)
  have h329:=@run_callFunc_extern Tryz.prog 329 _ (ReflectliteType.method ReflectliteType.elem) Tryz.func329 (by kernel_rfl) (by kernel_rfl) (by kernel_rfl) (by kernel_rfl)
  have h330 := @run_callFunc_extern Tryz.prog 330 _ (ReflectliteType.relation "Implements" ReflectliteType.implements_) Tryz.func330 (by kernel_rfl) (by kernel_rfl) (by kernel_rfl) (by kernel_rfl)
  have h223:=@run_callFunc_extern Tryz.prog 223 _ ReflectliteType.typeOf Tryz.func223 (by kernel_rfl) (by kernel_rfl) (by kernel_rfl) (by kernel_rfl)
  have h327 := @run_callFunc_extern Tryz.prog 327 _ (ReflectliteType.relation "AssignableTo" ReflectliteType.assignableTo) Tryz.func327 (by kernel_rfl) (by kernel_rfl) (by kernel_rfl) (by kernel_rfl)
  have h224 := @run_callFunc_extern Tryz.prog 224 _ (ReflectliteValue.method (ReflectliteValue.valueError "reflectlite.Value.Elem" 0) ReflectliteValue.elem) Tryz.func224 (by kernel_rfl) (by kernel_rfl) (by kernel_rfl) (by kernel_rfl)
  have h225:=@run_callFunc_extern Tryz.prog 225 _ ReflectliteValue.set Tryz.func225 (by kernel_rfl) (by kernel_rfl) (by kernel_rfl) (by kernel_rfl)
  have tO:=As.typeOf24
  have mA:=As.methodAssignableTo
  have a24:=As.assignable24
  have v24:=As.valueOf24
  have f6:=As.valueOf196
  have f7:=As.type196
  have mK:=As.methodKind
  have mE:=As.methodElem
  have mI:=As.methodImplements
  have k196:=As.kind196
  have k24:=As.kind24
  have e196:=As.elem196
  have i24:=As.implements24
  have n8:=As.isNil196 ⟨w.heap.size,0,none⟩ t ((w.alloc (.cells #[.pointer (some t)] 196)).alloc (.cells #[.pointer (some ⟨11,196,none⟩),.pointer (some ⟨w.heap.size,0,none⟩),.int .u64 150] 261)) (by simp)
  have hlt:0<w.heap.size:=by
    rcases Nat.eq_zero_or_pos w.heap.size with h0|h
    · simp [World.cell?,h0] at hg
    · exact h
  have hg2:((w.alloc (.cells #[.pointer (some t)] 196)).alloc (.cells #[.pointer (some ⟨11,196,none⟩),.pointer (some ⟨w.heap.size,0,none⟩),.int .u64 150] 261)).cell? ⟨0,0,none⟩=some (.iface 329 (.agg #[.pointer (some ⟨11,175,none⟩)])):=by
    rw [World.cell?_alloc_lt _ _ ⟨0,0,none⟩ (by simp),World.cell?_alloc_lt _ _ ⟨0,0,none⟩ hlt]; exact hg
  have htl:t.block<w.heap.size:=by
    rcases Nat.lt_or_ge t.block w.heap.size with h|h
    · exact h
    · simp [World.cell?,Array.getElem?_eq_none h] at ht0
  have el:=As.elemV196 ⟨w.heap.size,0,none⟩ t (((w.alloc (.cells #[.pointer (some t)] 196)).alloc (.cells #[.pointer (some ⟨11,196,none⟩),.pointer (some ⟨w.heap.size,0,none⟩),.int .u64 150] 261)).alloc (.cells #[.pointer (some ⟨11,196,none⟩),.pointer (some ⟨w.heap.size,0,none⟩),.int .u64 150] 261)) (by rw [World.cell?_alloc_lt _ _ ⟨w.heap.size,0,none⟩ (by simp; omega)]; simp)
  have st:=As.set24 t ⟨w.heap.size+1+1+1,0,none⟩ n old ((((w.alloc (.cells #[.pointer (some t)] 196)).alloc (.cells #[.pointer (some ⟨11,196,none⟩),.pointer (some ⟨w.heap.size,0,none⟩),.int .u64 150] 261)).alloc (.cells #[.pointer (some ⟨11,196,none⟩),.pointer (some ⟨w.heap.size,0,none⟩),.int .u64 150] 261)).alloc (.cells #[.int .i64 n] 24))
    (by rw [World.cell?_alloc_at _ _ _ _ (by simp)]; rfl)
    (by rw [World.cell?_alloc_lt _ _ t (by simp; omega),World.cell?_alloc_lt _ _ t (by simp; omega),World.cell?_alloc_lt _ _ t (by simp; omega),World.cell?_alloc_lt _ _ t htl]; exact ht0)
    (by rw [World.frozen?_alloc_old _ _ t (by simp; omega),World.frozen?_alloc_old _ _ t (by simp; omega),World.frozen?_alloc_old _ _ t (by simp; omega),World.frozen?_alloc_old _ _ t (Nat.ne_of_lt htl)]; exact hf0)
  go_enter Tryz.func104,Tryz.ntmps104
  go_wp2
  refine wp_loop_rounds 1 ?_
  rw [rounds_succ]
  go_wp2
  go_ret
  exact ⟨rfl,_,_,_,_,rfl⟩
set_option maxRecDepth 100000 in
set_option maxHeartbeats 4000000 in
theorem zIT (k n:Int) (t:Addr) (old:Value) (w:World) (hg:w.cell? ⟨0,0,none⟩=some (.iface 329 (.agg #[.pointer (some ⟨11,175,none⟩)]))) (ht0:w.cell? t=some old) (hf0:w.frozen? t=false) :
    Calls Tryz.prog 104 #[.iface 257 (.agg #[.int .i64 k,.iface 24 (.int .i64 n)]),.iface 196 (.pointer (some t))] w fun ev w'=>ev=.returned (.bool true)/\∃ o1 o2 o3 o4 o5:Obj,w'=(((((w.alloc o1).alloc o2).alloc o3).alloc o4).alloc o5).setCell t (.int .i64 n):=by
  have h152:=@run_callFunc_extern Tryz.prog 152 _ (fun args=>ReflectliteValue.unpack (args.getD 0 (.tuple #[]))) Tryz.func152 (by kernel_rfl) (by kernel_rfl) (by kernel_rfl) (by kernel_rfl)
  have h153 := @run_callFunc_extern Tryz.prog 153 _ (ReflectliteValue.methodAny (ReflectliteValue.valueError "reflectlite.Value.Type" 0) (fun t _ _ _ => ReflectliteType.toType t)) Tryz.func153 (by kernel_rfl) (by kernel_rfl) (by kernel_rfl) (by kernel_rfl)
  have h154 := @run_callFunc_extern Tryz.prog 154 _ (ReflectliteValue.method (ReflectliteValue.valueError "reflectlite.Value.IsNil" 0) ReflectliteValue.isNil) Tryz.func154 (by kernel_rfl) (by kernel_rfl) (by kernel_rfl) (by kernel_rfl)
  have h302:=@run_callFunc_extern Tryz.prog 302 _ (ReflectliteType.abiMethod fun t=>do pure (.int .u8 (<- Rtype.kind t))) Tryz.func302 (by kernel_rfl) (by kernel_rfl) (by kernel_rfl) (by kernel_rfl)
  have h329:=@run_callFunc_extern Tryz.prog 329 _ (ReflectliteType.method ReflectliteType.elem) Tryz.func329 (by kernel_rfl) (by kernel_rfl) (by kernel_rfl) (by kernel_rfl)
  have h330 := @run_callFunc_extern Tryz.prog 330 _ (ReflectliteType.relation "Implements" ReflectliteType.implements_) Tryz.func330 (by kernel_rfl) (by kernel_rfl) (by kernel_rfl) (by kernel_rfl)
  have h223:=@run_callFunc_extern Tryz.prog 223 _ ReflectliteType.typeOf Tryz.func223 (by kernel_rfl) (by kernel_rfl) (by kernel_rfl) (by kernel_rfl)
  have h327 := @run_callFunc_extern Tryz.prog 327 _ (ReflectliteType.relation "AssignableTo" ReflectliteType.assignableTo) Tryz.func327 (by kernel_rfl) (by kernel_rfl) (by kernel_rfl) (by kernel_rfl)
  have h224 := @run_callFunc_extern Tryz.prog 224 _ (ReflectliteValue.method (ReflectliteValue.valueError "reflectlite.Value.Elem" 0) ReflectliteValue.elem) Tryz.func224 (by kernel_rfl) (by kernel_rfl) (by kernel_rfl) (by kernel_rfl)
  have h225:=@run_callFunc_extern Tryz.prog 225 _ ReflectliteValue.set Tryz.func225 (by kernel_rfl) (by kernel_rfl) (by kernel_rfl) (by kernel_rfl)
  have tO:=As.typeOf24
  have tS:=As.typeOf257
  have aS:=As.assignable257
  have mU:=As.methodUnwrap
  have noAs:=As.noAs
  have hasU:=As.hasUnwrap
  have mA:=As.methodAssignableTo
  have a24:=As.assignable24
  have v24:=As.valueOf24
  have f6:=As.valueOf196
  have f7:=As.type196
  have mK:=As.methodKind
  have mE:=As.methodElem
  have mI:=As.methodImplements
  have k196:=As.kind196
  have k24:=As.kind24
  have e196:=As.elem196
  have i24:=As.implements24
  have n8:=As.isNil196 ⟨w.heap.size,0,none⟩ t ((w.alloc (.cells #[.pointer (some t)] 196)).alloc (.cells #[.pointer (some ⟨11,196,none⟩),.pointer (some ⟨w.heap.size,0,none⟩),.int .u64 150] 261)) (by simp)
  have hlt:0<w.heap.size:=by
    rcases Nat.eq_zero_or_pos w.heap.size with h0|h
    · simp [World.cell?,h0] at hg
    · exact h
  have hg2:((w.alloc (.cells #[.pointer (some t)] 196)).alloc (.cells #[.pointer (some ⟨11,196,none⟩),.pointer (some ⟨w.heap.size,0,none⟩),.int .u64 150] 261)).cell? ⟨0,0,none⟩=some (.iface 329 (.agg #[.pointer (some ⟨11,175,none⟩)])):=by
    rw [World.cell?_alloc_lt _ _ ⟨0,0,none⟩ (by simp),World.cell?_alloc_lt _ _ ⟨0,0,none⟩ hlt]; exact hg
  have htl:t.block<w.heap.size:=by
    rcases Nat.lt_or_ge t.block w.heap.size with h|h
    · exact h
    · simp [World.cell?,Array.getElem?_eq_none h] at ht0
  have el:=As.elemV196 ⟨w.heap.size,0,none⟩ t ((((w.alloc (.cells #[.pointer (some t)] 196)).alloc (.cells #[.pointer (some ⟨11,196,none⟩),.pointer (some ⟨w.heap.size,0,none⟩),.int .u64 150] 261)).alloc (.cells #[.pointer (some ⟨11,196,none⟩),.pointer (some ⟨w.heap.size,0,none⟩),.int .u64 150] 261)).alloc (.cells #[.int .i64 k,.iface 24 (.int .i64 n)] 257)) (by rw [World.cell?_alloc_lt _ _ ⟨w.heap.size,0,none⟩ (by simp; omega),World.cell?_alloc_lt _ _ ⟨w.heap.size,0,none⟩ (by simp; omega)]; simp)
  have st:=As.set24 t ⟨w.heap.size+1+1+1+1,0,none⟩ n old (((((w.alloc (.cells #[.pointer (some t)] 196)).alloc (.cells #[.pointer (some ⟨11,196,none⟩),.pointer (some ⟨w.heap.size,0,none⟩),.int .u64 150] 261)).alloc (.cells #[.pointer (some ⟨11,196,none⟩),.pointer (some ⟨w.heap.size,0,none⟩),.int .u64 150] 261)).alloc (.cells #[.int .i64 k,.iface 24 (.int .i64 n)] 257)).alloc (.cells #[.int .i64 n] 24))
    (by rw [World.cell?_alloc_at _ _ _ _ (by simp)]; rfl)
    (by rw [World.cell?_alloc_lt _ _ t (by simp; omega),World.cell?_alloc_lt _ _ t (by simp; omega),World.cell?_alloc_lt _ _ t (by simp; omega),World.cell?_alloc_lt _ _ t (by simp; omega),World.cell?_alloc_lt _ _ t htl]; exact ht0)
    (by rw [World.frozen?_alloc_old _ _ t (by simp; omega),World.frozen?_alloc_old _ _ t (by simp; omega),World.frozen?_alloc_old _ _ t (by simp; omega),World.frozen?_alloc_old _ _ t (by simp; omega),World.frozen?_alloc_old _ _ t (Nat.ne_of_lt htl)]; exact hf0)
  go_enter Tryz.func104,Tryz.ntmps104
  go_wp2
  refine wp_loop_rounds 2 ?_
  rw [rounds_succ]
  go_wp2
  rw [rounds_succ]
  go_wp2
  go_ret
  exact ⟨rfl,_,_,_,_,_,rfl⟩
end Go.Proofs.YtcceeahmcecbnaaGreatDoor
namespace Go.Proofs.YtcceeahmcecbnaaGreatDoor
open Go.Sx Go.RowKit
abbrev zcg:FuncId:=12
abbrev zax:FuncId:=13
abbrev zas:FuncId:=19
abbrev zeu:FuncId:=49
abbrev zgh:FuncId:=103
abbrev zoJ:FuncId:=104
abbrev za6:FuncId:=151
def zp6 (x:Option Addr) (Z:ByteArray) (aa:World) (K:Value->World->Prop):Prop:=
 ∀ M,Ext aa M->FnP Tryz.prog zbi #[(.string Z),(.string (⟨#[32]⟩:ByteArray))] M fun X B=>Ext M B/\∃ t y N,X=(.slice t y N)/\∃ (w:Option Addr->Bool->World->Prop),(t≠none/\(0:Int)<=0/\(0:Int)<(y:Int)/\(∀ q,Ext B q->FnP Tryz.prog za6 #[(.pointer x)] q fun O c=>Ext q c/\∃ f,O=f/\∃ g,cell c (pIdx t 0 1) 0=some (.string g)/\(∀ a,Ext c a->Run Tryz.prog (.lookup 254 f (.string g) true) a fun z m=>Ext a m/\∃ C D E F,z=(.tuple #[(.agg #[(.int .i64 C),(.bool D),E]),(.bool F)])/\∀ G,Ext m G->New G 252 [(.int .i64 0),(.bool false),.nilFunc] fun I P=>zao P I [(.int .i64 C),(.bool D),E] [] fun n=>w I F n)/\∀ a,Ext c a->New a 252 [(.int .i64 0),(.bool false),.nilFunc] fun J m=>∀ b,Ext m b->Run Tryz.prog (.lookup 254 f (.string g) true) b fun r e=>Ext b e/\∃ h i j k,r=(.tuple #[(.agg #[(.int .i64 h),(.bool i),j]),(.bool k)])/\zao e J [(.int .i64 h),(.bool i),j] [] fun n=>w J k n)/\(∃ u,cell B (pIdx t 0 1) 0=some (.string u)/\(∀ c,Ext B c->FnP Tryz.prog za6 #[(.pointer x)] c fun R o=>Ext c o/\∃ g,R=g/\(∀ a,Ext o a->Run Tryz.prog (.lookup 254 g (.string u) true) a fun z m=>Ext a m/\∃ C D E F,z=(.tuple #[(.agg #[(.int .i64 C),(.bool D),E]),(.bool F)])/\∀ G,Ext m G->New G 252 [(.int .i64 0),(.bool false),.nilFunc] fun I P=>zao P I [(.int .i64 C),(.bool D),E] [] fun n=>w I F n)/\∀ a,Ext o a->New a 252 [(.int .i64 0),(.bool false),.nilFunc] fun J m=>∀ b,Ext m b->Run Tryz.prog (.lookup 254 g (.string u) true) b fun r e=>Ext b e/\∃ h i j k,r=(.tuple #[(.agg #[(.int .i64 h),(.bool i),j]),(.bool k)])/\zao e J [(.int .i64 h),(.bool i),j] [] fun n=>w J k n)/\∀ c,Ext B c->New c 252 [(.int .i64 0),(.bool false),.nilFunc] fun W o=>∀ d,Ext o d->FnP Tryz.prog za6 #[(.pointer x)] d fun A a=>Ext d a/\∃ l,A=l/\∀ b,Ext a b->Run Tryz.prog (.lookup 254 l (.string u) true) b fun r e=>Ext b e/\∃ h i j k,r=(.tuple #[(.agg #[(.int .i64 h),(.bool i),j]),(.bool k)])/\zao e W [(.int .i64 h),(.bool i),j] [] fun n=>w W k n)/\∀ q,Ext B q->New q 252 [(.int .i64 0),(.bool false),.nilFunc] fun L c=>(∀ o,Ext c o->FnP Tryz.prog za6 #[(.pointer x)] o fun Y d=>Ext o d/\∃ T,Y=T/\∃ l,cell d (pIdx t 0 1) 0=some (.string l)/\∀ b,Ext d b->Run Tryz.prog (.lookup 254 T (.string l) true) b fun r e=>Ext b e/\∃ h i j k,r=(.tuple #[(.agg #[(.int .i64 h),(.bool i),j]),(.bool k)])/\zao e L [(.int .i64 h),(.bool i),j] [] fun n=>w L k n)/\∃ f,cell c (pIdx t 0 1) 0=some (.string f)/\∀ d,Ext c d->FnP Tryz.prog za6 #[(.pointer x)] d fun A a=>Ext d a/\∃ l,A=l/\∀ b,Ext a b->Run Tryz.prog (.lookup 254 l (.string f) true) b fun r e=>Ext b e/\∃ h i j k,r=(.tuple #[(.agg #[(.int .i64 h),(.bool i),j]),(.bool k)])/\zao e L [(.int .i64 h),(.bool i),j] [] fun n=>w L k n)/\∀ (s:Option Addr) (S:Bool) (p:World),w s S p->(((S=false)->∀ q,Ext p q->Run Tryz.prog (.makeInterface 24 (.int .i64 1)) q fun O c=>Ext q c/\∃ f,O=f/\∀ d,Ext c d->K (.tuple #[(.string (⟨#[]⟩:ByteArray)),f]) d))/\((S=true)->s≠none/\∃ u,cell p (pAdd s 0) 0=some (.int .i64 u)/\((((y:Int)≠u)->∀ c,Ext p c->Run Tryz.prog (.makeInterface 24 (.int .i64 3)) c fun R o=>Ext c o/\∃ g,R=g/\Value.oneCell' g=true/\∀ a,Ext o a->Run Tryz.prog (.makeInterface 257 (.agg #[(.int .i64 (y:Int)),g])) a fun z m=>Ext a m/\∃ v,z=v/\∀ e,Ext m e->K (.tuple #[(.string (⟨#[]⟩:ByteArray)),v]) e))/\(((y:Int)=u)->s≠none/\∃ H,cell p (pAdd s 1) 0=some (.bool H)/\((H=true)->x≠none)/\((H=true)->x≠none)/\(((H=true)->∃ f,cell p (pAdd x 1) 0=some (.pointer f)/\(((f=none)->∀ d,Ext p d->Run Tryz.prog (.makeInterface 24 (.int .i64 9)) d fun A a=>Ext d a/\∃ l,A=l/\∀ b,Ext a b->K (.tuple #[(.string (⟨#[]⟩:ByteArray)),l]) b))/\((f≠none)->s≠none/\∃ g,cell p (pAdd s 2) 0=some g/\∀ a,Ext p a->zIq Tryz.prog g [(.slice t y N)] a fun z m=>∃ v U,z=(.tuple #[(.string v),U])/\∀ V,Ext m V->K (.tuple #[(.string v),U]) V)))/\((H=false)->s≠none/\∃ f,cell p (pAdd s 2) 0=some f/\∀ d,Ext p d->zIq Tryz.prog f [(.slice t y N)] d fun A a=>∃ l v,A=(.tuple #[(.string l),v])/\∀ e,Ext a e->K (.tuple #[(.string l),v]) e)))
theorem zpA (a:Option Addr) (b:ByteArray) (c:World) (d:Value->World->Prop) (h:zp6 a b c d):FnP Tryz.prog zgh #[(.pointer a),(.string b)] c d:=
 zab (Eq.mp (by kernel_rfl:_=Runs Tryz.prog d ({N:=52,pub:=[7],muts:=[2000000,1000000,21,29,22,24,81]}:Cfg) Tryz.f103 (Tryz.f103.body.getD .skip) [.sc (.ptr a),.sc (.str b)] c) h) Tryz.func103 (by kernel_rfl) (fun a w=>Tryz.call103 a w) (by kernel_rfl) (by kernel_rfl) rfl rfl
def zp5 (y:Option Addr) (z:ByteArray) (A:World) (q:Value->World->Prop):Prop:=
 ∀ f,Ext A f->FnP Tryz.prog zgh #[(.pointer y),(.string z)] f fun r s=>∃ g h,r=(.tuple #[(.string g),h])/\∀ i,Ext s i->New i 24 [(.int .i64 0)] fun o t=>∀ b,Ext t b->Run Tryz.prog (.makeInterface 196 (.pointer o)) b fun u p=>Ext b p/\∃ j,u=j/\∀ k,Ext p k->FnP Tryz.prog zoJ #[h,j] k fun v a=>∃ c,v=(.bool c)/\(((c=true)->∃ l,cell a o 0=some (.int .i64 l)/\∀ d,Ext a d->FnP Tryz.prog zbt #[(.int .i64 l)] d fun w x=>Ext d x/\∃ e,w=(.string e)/\zdk (⟨#[101,114,114,32]⟩:ByteArray) e/\∀ m,Ext a m->q (.string ((⟨#[101,114,114,32]⟩:ByteArray)++e)) m))/\((c=false)->∀ n,Ext a n->q (.string g) n)
theorem zpz (a:Option Addr) (b:ByteArray) (c:World) (d:Value->World->Prop) (h:zp5 a b c d):FnP Tryz.prog zeu #[(.pointer a),(.string b)] c d:=
 zab (Eq.mp (by kernel_rfl:_=Runs Tryz.prog d ({N:=21,pub:=[7],muts:=[21,29,22,24,81,103,104]}:Cfg) Tryz.f49 (Tryz.f49.body.getD .skip) [.sc (.ptr a),.sc (.str b)] c) h) Tryz.func49 (by kernel_rfl) (fun a w=>Tryz.call49 a w) (by kernel_rfl) (by kernel_rfl) rfl rfl
def zv0 (z:Option Addr) (d H:Nat) (A:World) (B:Value->World->Prop):Prop:=
 ((100<(d:Int))->∀ b,Ext A b->B (.tuple #[(.slice none 0 0),(.int .i64 2)]) b)/\(((d:Int)<=100)->∀ b,Ext A b->FnP Tryz.prog zjq #[] b fun C v=>Ext b v/\∃ m,C=(.pointer m)/\∃ (l:Option Addr->Nat->Nat->Int->World->Prop) (y:Option Addr->Nat->Nat->Int->World->Nat),l none 0 0 0 v/\∀ (e:Option Addr) (f:Nat) (g:Nat) (a:Int) (c:World),l e f g a c->(((a<(d:Int))->z≠none/\(0:Int)<=a/\(a:Int)<(d:Int)/\∃ n,cell c (pIdx z a 1) 0=some (.string n)/\∀ o,Ext c o->FnP Tryz.prog zeu #[(.pointer m),(.string n)] o fun D E=>∃ p,D=(.string p)/\∀ h,Ext E h->Run Tryz.prog (.buildSlice 22 1 [(0,(.string p))]) h fun F w=>Ext h w/\∃ q r s,F=(.slice q r s)/\∀ t,Ext w t->Run Tryz.prog (.append #[22,22] 22 [(.slice e f g),(.slice q r s)]) t fun G x=>∃ i j k,G=(.slice i j k)/\InR .i64 (a+1)/\(l i j k (a+1) x/\y i j k (a+1) x<y e f g a c)))/\(((d:Int)<=a)->∀ u,Ext c u->B (.tuple #[(.slice e f g),(.int .i64 0)]) u))
theorem zu9 (a:Option Addr) (b c:Nat) (d:World) (e:Value->World->Prop) (h:zv0 a b c d e):FnP Tryz.prog zcg #[(.slice a b c)] d e:=
 zab (Eq.mp (by kernel_rfl:_=Runs Tryz.prog e ({N:=26,muts:=[21,29,22,24,81,49]}:Cfg) Tryz.f12 (Tryz.f12.body.getD .skip) [.sc (.slc a b c)] d) h) Tryz.func12 (by kernel_rfl) (fun a w=>Tryz.call12 a w) (by kernel_rfl) (by kernel_rfl) rfl rfl
def zeI  (w:World) (Q:Value->World->Prop):Prop :=
  ∀ w0,Ext w w0 ->
  Run Tryz.prog (.buildSlice 22 6 [(0,(.string (⟨#[104,111,115,116,32,97,32,99,112,117,61,50,32,45]⟩:ByteArray))),(1,(.string (⟨#[111,112,101,110]⟩:ByteArray))),(2,(.string (⟨#[115,117,98,109,105,116,32,97,110,110,32,48,32,99,112,117,61,49,32,45,32,99,112,117,62,61,49]⟩:ByteArray))),(3,(.string (⟨#[112,108,97,110]⟩:ByteArray))),(4,(.string (⟨#[103,111,111,100,32,49]⟩:ByteArray))),(5,(.string (⟨#[115,104,111,119,32,49]⟩:ByteArray)))]) w0 fun v1 w1 =>
   Ext w0 w1 /\
   ∃ t2:Option Addr,∃ tl3:Nat,∃ tc4:Nat,v1=(.slice t2 tl3 tc4) /\
   ∀ w5,Ext w1 w5 ->
   FnP Tryz.prog zcg #[(.slice t2 tl3 tc4)] w5 fun v6 w6 =>
    ∃ t7:Option Addr,∃ tl8:Nat,∃ tc9:Nat,∃ t10:Int,v6=(.tuple #[(.slice t7 tl8 tc9),(.int .i64 t10)]) /\
    (((t10=0) ->
     ∀ w11,Ext w6 w11 ->
     Run Tryz.prog (.buildSlice 22 6 [(0,(.string (⟨#[111,107]⟩:ByteArray))),(1,(.string (⟨#[111,107]⟩:ByteArray))),(2,(.string (⟨#[49]⟩:ByteArray))),(3,(.string (⟨#[49,64,97]⟩:ByteArray))),(4,(.string (⟨#[111,107]⟩:ByteArray))),(5,(.string (⟨#[100,111,110,101]⟩:ByteArray)))]) w11 fun v12 w12 =>
      Ext w11 w12 /\
      ∃ t13:Option Addr,∃ tl14:Nat,∃ tc15:Nat,v12=(.slice t13 tl14 tc15) /\
      ∀ w16,Ext w12 w16 ->
      FnP Tryz.prog zax #[(.slice t7 tl8 tc9),(.slice t13 tl14 tc15)] w16 fun v17 w17 =>
       Ext w16 w17 /\
       ∃ t18:Bool,v17=(.bool t18) /\
       ∀ w19,Ext w12 w19 ->
       Q (.bool t18) w19)) /\
    ((t10≠0) ->
     ∀ w11,Ext w6 w11 ->
     Q (.bool false) w11)
theorem zi8  (w:World) (Q:Value->World->Prop) (h:zeI  w Q):FnP Tryz.prog zas #[] w Q:=by
  have e_:zeI  w Q=Runs Tryz.prog Q ({ N:=15,wrap:=[],pub:=[],muts:=[21,29,22,24,81,12],joins:=[] }:Cfg) Tryz.f19 (Tryz.f19.body.getD .skip) [] w:=by kernel_rfl
  rw [e_] at h
  exact zab h Tryz.func19 (by kernel_rfl) (fun args w=>Tryz.call19 args w) (by kernel_rfl) (by kernel_rfl) rfl rfl
def zeY (m:Option Addr) (c p:Nat) (n:Option Addr) (g q:Nat) (o:World) (h:Value->World->Prop):Prop:=
 (((c:Int)≠(g:Int))->∀ i,Ext o i->h (.bool false) i)/\(((c:Int)=(g:Int))->∃ (f:Int->World->Prop) (l:Int->World->Nat),f 0 o/\∀ (a:Int) (b:World),f a b->(((a<(c:Int))->m≠none/\(0:Int)<=a/\(a:Int)<(c:Int)/\∃ d,cell b (pIdx m a 1) 0=some (.string d)/\n≠none/\(0:Int)<=a/\(a:Int)<(g:Int)/\∃ e,cell b (pIdx n a 1) 0=some (.string e)/\((d≠e)->∀ j,Ext b j->h (.bool false) j)/\((d=e)->InR .i64 (a+1)/\(f (a+1) b/\l (a+1) b<l a b))))/\(((c:Int)<=a)->∀ k,Ext b k->h (.bool true) k))
theorem zeV (a:Option Addr) (b c:Nat) (d:Option Addr) (e f:Nat) (g:World) (i:Value->World->Prop) (h:zeY a b c d e f g i):FnP Tryz.prog zax #[(.slice a b c),(.slice d e f)] g i:=
 zab (Eq.mp (by kernel_rfl:_=Runs Tryz.prog i ({N:=26}:Cfg) Tryz.f13 (Tryz.f13.body.getD .skip) [.sc (.slc a b c),.sc (.slc d e f)] g) h) Tryz.func13 (by kernel_rfl) (fun a w=>Tryz.call13 a w) (by kernel_rfl) (by kernel_rfl) rfl rfl
end Go.Proofs.YtcceeahmcecbnaaGreatDoor
namespace Go.Proofs
open Go.Shelf
def Tryz.lays156_ren:Go.Shelf.Ren:=⟨fun|156=>173|165=>185|166=>99|169=>102|240=>148|241=>240|276=>199|277=>263|n=>n,fun|31=>22|9=>9|3=>3|4=>4|0=>0|20=>20|72=>184|76=>186|70=>182|37=>93|75=>175|127=>249|164=>258|5=>5|80=>190|n=>n,fun|n=>n⟩
theorem Tryz.lays156:Go.Proofs.Lays.n156 Tryz.prog Tryz.lays156_ren:={
  mixed:=by kernel_rfl
  f156:=Tryz.func173.trans (congrArg some (by kernel_rfl))
  f165:=Tryz.func185.trans (congrArg some (by kernel_rfl))
  f166:=Tryz.func99.trans (congrArg some (by kernel_rfl))
  f169:=Tryz.func102.trans (congrArg some (by kernel_rfl))
  f240:=Tryz.func148.trans (congrArg some (by kernel_rfl))
  f241:=Tryz.func240.trans (congrArg some (by kernel_rfl))
  f276:=Tryz.func199.trans (congrArg some (by kernel_rfl))
  f277:=Tryz.func263.trans (congrArg some (by kernel_rfl))
  t0:=Tryz.underlying0
  a0:=Tryz.isAgg0
  z0:=Tryz.sizeOf0
  v0:=Tryz.zeroValue0
  t3:=Tryz.underlying3
  a3:=Tryz.isAgg3
  z3:=Tryz.sizeOf3
  v3:=Tryz.zeroValue3
  t4:=Tryz.underlying4
  a4:=Tryz.isAgg4
  z4:=Tryz.sizeOf4
  v4:=Tryz.zeroValue4
  t9:=Tryz.underlying9
  a9:=Tryz.isAgg9
  z9:=Tryz.sizeOf9
  v9:=Tryz.zeroValue9
  t20:=Tryz.underlying20
  a20:=Tryz.isAgg20
  z20:=Tryz.sizeOf20
  v20:=Tryz.zeroValue20
  t31:=Tryz.underlying22
  a31:=Tryz.isAgg22
  z31:=Tryz.sizeOf22
  v31:=Tryz.zeroValue22
  t37:=Tryz.underlying93
  a37:=Tryz.isAgg93
  z37:=Tryz.sizeOf93
  v37:=Tryz.zeroValue93
  t70:=Tryz.underlying182
  a70:=Tryz.isAgg182
  z70:=Tryz.sizeOf182
  v70:=Tryz.zeroValue182
  t72:=Tryz.underlying184
  a72:=Tryz.isAgg184
  z72:=Tryz.sizeOf184
  v72:=Tryz.zeroValue184
  t75:=Tryz.underlying175
  a75:=Tryz.isAgg175
  z75:=Tryz.sizeOf175
  v75:=Tryz.zeroValue175
  t76:=Tryz.underlying186
  a76:=Tryz.isAgg186
  z76:=Tryz.sizeOf186
  v76:=Tryz.zeroValue186
  t127:=Tryz.underlying249
  a127:=Tryz.isAgg249
  z127:=Tryz.sizeOf249
  v127:=Tryz.zeroValue249
  t164:=Tryz.underlying258
  a164:=Tryz.isAgg258
  z164:=Tryz.sizeOf258
  v164:=Tryz.zeroValue258 }
theorem Tryz.Builder_Extra_156:Builder.Extra Tryz.prog Tryz.lays156_ren:={
  sizeBuilder:=by kernel_rfl
  liesBuilder:=by kernel_rfl
  t5:=Tryz.underlying5
  a5:=Tryz.isAgg5
  z5:=Tryz.sizeOf5
  v5:=Tryz.zeroValue5
  infoByte:=by kernel_rfl
  cellsByte:=by kernel_rfl
  sizeByte:=by kernel_rfl
  neB5:=by decide }
open Go.RowKit in
theorem Tryz.strings_Join_none (a:Option Addr) (c:Nat) (sep:ByteArray) (w:World) :
    Calls Tryz.prog 173 #[.slice a 0 c,.string sep] w fun e w'=>e=.returned (.string ⟨#[]⟩)/\w'=w:=Any.strings_Join_none Tryz.lays156 Tryz.Builder_Extra_156 a c sep w
open Go.RowKit in
theorem Tryz.strings_Join (bk o c:Nat) (xs:List ByteArray) (sep:ByteArray) (w:World) (hcells:∀ (j:Nat) x,xs[j]?=some x->w.cell? ⟨bk,o+j,none⟩=some (.string x)) (hbk:bk<w.heap.size) (hN:xs.length<=140737488355328) (hcap:xs.length<=c) (hlen:(Lib.join (xs.map (·.data.toList)) sep.data.toList).length<=140737488355328) :
    Calls Tryz.prog 173 #[.slice (some ⟨bk,o,none⟩) xs.length c,.string sep] w fun e w'=>e=.returned (.string ⟨(Lib.join (xs.map (·.data.toList)) sep.data.toList).toArray⟩)/\Below w.heap.size w w':=Any.strings_Join Tryz.lays156 Tryz.Builder_Extra_156 bk o c xs sep w hcells hbk hN hcap hlen
def Tryz.laysM246_ren:Go.Shelf.Ren:=⟨fun|246=>132|283=>178|284=>179|285=>180|286=>181|129=>233|317=>232|318=>234|319=>235|320=>236|337=>261|338=>262|n=>n,fun|2=>2|3=>3|9=>9|4=>4|171=>297|0=>0|53=>102|37=>93|5=>5|173=>300|212=>353|51=>354|20=>20|213=>355|46=>163|232=>399|233=>400|n=>n,fun|17=>1|18=>8|19=>9|n=>n⟩
def Tryz.laysM243_ren:Go.Shelf.Ren:=⟨fun|243=>156|246=>132|283=>178|284=>179|285=>180|286=>181|129=>233|317=>232|318=>234|319=>235|320=>236|337=>261|338=>262|n=>n,fun|3=>3|9=>9|2=>2|4=>4|171=>297|0=>0|53=>102|37=>93|5=>5|173=>300|212=>353|51=>354|20=>20|213=>355|46=>163|232=>399|233=>400|n=>n,fun|17=>1|18=>8|19=>9|n=>n⟩
def Tryz.laysM171_ren:Go.Shelf.Ren:=⟨fun|171=>105|243=>156|246=>132|283=>178|284=>179|285=>180|286=>181|129=>233|317=>232|318=>234|319=>235|320=>236|337=>261|338=>262|n=>n,fun|3=>3|9=>9|2=>2|4=>4|171=>297|0=>0|53=>102|37=>93|5=>5|173=>300|212=>353|51=>354|20=>20|213=>355|46=>163|232=>399|233=>400|n=>n,fun|17=>1|18=>8|19=>9|n=>n⟩
theorem Tryz.laysM171:Go.Proofs.LaysM.n171 Tryz.prog Tryz.laysM171_ren:={
  mixed:=by kernel_rfl
  f129:=Tryz.func233.trans (congrArg some (by kernel_rfl))
  f171:=Tryz.func105.trans (congrArg some (by kernel_rfl))
  f243:=Tryz.func156.trans (congrArg some (by kernel_rfl))
  f246:=Tryz.func132.trans (congrArg some (by kernel_rfl))
  f283:=Tryz.func178.trans (congrArg some (by kernel_rfl))
  f284:=Tryz.func179.trans (congrArg some (by kernel_rfl))
  f285:=Tryz.func180.trans (congrArg some (by kernel_rfl))
  f286:=Tryz.func181.trans (congrArg some (by kernel_rfl))
  f317:=Tryz.func232.trans (congrArg some (by kernel_rfl))
  f318:=Tryz.func234.trans (congrArg some (by kernel_rfl))
  f319:=Tryz.func235.trans (congrArg some (by kernel_rfl))
  f320:=Tryz.func236.trans (congrArg some (by kernel_rfl))
  f337:=Tryz.func261.trans (congrArg some (by kernel_rfl))
  f338:=Tryz.func262.trans (congrArg some (by kernel_rfl))
  t0:=Tryz.underlying0
  a0:=Tryz.isAgg0
  z0:=Tryz.sizeOf0
  v0:=Tryz.zeroValue0
  t2:=Tryz.underlying2
  a2:=Tryz.isAgg2
  z2:=Tryz.sizeOf2
  v2:=Tryz.zeroValue2
  t3:=Tryz.underlying3
  a3:=Tryz.isAgg3
  z3:=Tryz.sizeOf3
  v3:=Tryz.zeroValue3
  t4:=Tryz.underlying4
  a4:=Tryz.isAgg4
  z4:=Tryz.sizeOf4
  v4:=Tryz.zeroValue4
  t5:=Tryz.underlying5
  a5:=Tryz.isAgg5
  z5:=Tryz.sizeOf5
  v5:=Tryz.zeroValue5
  t9:=Tryz.underlying9
  a9:=Tryz.isAgg9
  z9:=Tryz.sizeOf9
  v9:=Tryz.zeroValue9
  t20:=Tryz.underlying20
  a20:=Tryz.isAgg20
  z20:=Tryz.sizeOf20
  v20:=Tryz.zeroValue20
  t37:=Tryz.underlying93
  a37:=Tryz.isAgg93
  z37:=Tryz.sizeOf93
  v37:=Tryz.zeroValue93
  t46:=Tryz.underlying163
  a46:=Tryz.isAgg163
  z46:=Tryz.sizeOf163
  v46:=Tryz.zeroValue163
  t51:=Tryz.underlying354
  a51:=Tryz.isAgg354
  z51:=Tryz.sizeOf354
  v51:=Tryz.zeroValue354
  t53:=Tryz.underlying102
  a53:=Tryz.isAgg102
  z53:=Tryz.sizeOf102
  v53:=Tryz.zeroValue102
  t171:=Tryz.underlying297
  a171:=Tryz.isAgg297
  z171:=Tryz.sizeOf297
  v171:=Tryz.zeroValue297
  t173:=Tryz.underlying300
  a173:=Tryz.isAgg300
  z173:=Tryz.sizeOf300
  v173:=Tryz.zeroValue300
  t212:=Tryz.underlying353
  a212:=Tryz.isAgg353
  z212:=Tryz.sizeOf353
  v212:=Tryz.zeroValue353
  t213:=Tryz.underlying355
  a213:=Tryz.isAgg355
  z213:=Tryz.sizeOf355
  t232:=Tryz.underlying399
  a232:=Tryz.isAgg399
  z232:=Tryz.sizeOf399
  v232:=Tryz.zeroValue399
  t233:=Tryz.underlying400
  a233:=Tryz.isAgg400
  z233:=Tryz.sizeOf400
  v233:=Tryz.zeroValue400
  g17:=by kernel_rfl
  g18:=by kernel_rfl
  g19:=by kernel_rfl
  i0:=by kernel_rfl
  i2:=by kernel_rfl
  i3:=by kernel_rfl
  i4:=by kernel_rfl
  i5:=by kernel_rfl
  i9:=by kernel_rfl
  i20:=by kernel_rfl
  i37:=by kernel_rfl
  i46:=by kernel_rfl
  i51:=by kernel_rfl
  i53:=by kernel_rfl
  i171:=by kernel_rfl
  i173:=by kernel_rfl
  i212:=by kernel_rfl
  i232:=by kernel_rfl
  i233:=by kernel_rfl
  m17:=by kernel_rfl
  m18:=by kernel_rfl
  m19:=by kernel_rfl }
open Go.RowKit Go.Sort Go.Lib in
theorem Tryz.strconv_Itoa (n : Int) (h0 : -9223372036854775808 <= n) (h1 : n <= 9223372036854775807) (w : World) (htab : Lib.TabIs Tryz.prog w "internal/strconv.uint64pow10" .u64 Lib.pow10Tab) :
    Calls Tryz.prog 105 #[.int .i64 n] w fun e w'=>e=.returned (.string ⟨(Lib.itoa n).toArray⟩)/\∃ k os,w'=grow (w.drewN k) os:=Any.strconv_Itoa Tryz.laysM171 n h0 h1 w htab
def Tryz.laysM173_ren:Go.Shelf.Ren:=⟨fun|173=>90|246=>132|283=>178|284=>179|285=>180|286=>181|129=>233|317=>232|318=>234|319=>235|320=>236|337=>261|338=>262|n=>n,fun|2=>2|3=>3|9=>9|4=>4|171=>297|0=>0|53=>102|37=>93|5=>5|173=>300|212=>353|51=>354|20=>20|213=>355|46=>163|232=>399|233=>400|n=>n,fun|17=>1|18=>8|19=>9|n=>n⟩
theorem Tryz.laysM173:Go.Proofs.LaysM.n173 Tryz.prog Tryz.laysM173_ren:={
  mixed:=by kernel_rfl
  f129:=Tryz.func233.trans (congrArg some (by kernel_rfl))
  f173:=Tryz.func90.trans (congrArg some (by kernel_rfl))
  f246:=Tryz.func132.trans (congrArg some (by kernel_rfl))
  f283:=Tryz.func178.trans (congrArg some (by kernel_rfl))
  f284:=Tryz.func179.trans (congrArg some (by kernel_rfl))
  f285:=Tryz.func180.trans (congrArg some (by kernel_rfl))
  f286:=Tryz.func181.trans (congrArg some (by kernel_rfl))
  f317:=Tryz.func232.trans (congrArg some (by kernel_rfl))
  f318:=Tryz.func234.trans (congrArg some (by kernel_rfl))
  f319:=Tryz.func235.trans (congrArg some (by kernel_rfl))
  f320:=Tryz.func236.trans (congrArg some (by kernel_rfl))
  f337:=Tryz.func261.trans (congrArg some (by kernel_rfl))
  f338:=Tryz.func262.trans (congrArg some (by kernel_rfl))
  t0:=Tryz.underlying0
  a0:=Tryz.isAgg0
  z0:=Tryz.sizeOf0
  v0:=Tryz.zeroValue0
  t2:=Tryz.underlying2
  a2:=Tryz.isAgg2
  z2:=Tryz.sizeOf2
  v2:=Tryz.zeroValue2
  t3:=Tryz.underlying3
  a3:=Tryz.isAgg3
  z3:=Tryz.sizeOf3
  v3:=Tryz.zeroValue3
  t4:=Tryz.underlying4
  a4:=Tryz.isAgg4
  z4:=Tryz.sizeOf4
  v4:=Tryz.zeroValue4
  t5:=Tryz.underlying5
  a5:=Tryz.isAgg5
  z5:=Tryz.sizeOf5
  v5:=Tryz.zeroValue5
  t9:=Tryz.underlying9
  a9:=Tryz.isAgg9
  z9:=Tryz.sizeOf9
  v9:=Tryz.zeroValue9
  t20:=Tryz.underlying20
  a20:=Tryz.isAgg20
  z20:=Tryz.sizeOf20
  v20:=Tryz.zeroValue20
  t37:=Tryz.underlying93
  a37:=Tryz.isAgg93
  z37:=Tryz.sizeOf93
  v37:=Tryz.zeroValue93
  t46:=Tryz.underlying163
  a46:=Tryz.isAgg163
  z46:=Tryz.sizeOf163
  v46:=Tryz.zeroValue163
  t51:=Tryz.underlying354
  a51:=Tryz.isAgg354
  z51:=Tryz.sizeOf354
  v51:=Tryz.zeroValue354
  t53:=Tryz.underlying102
  a53:=Tryz.isAgg102
  z53:=Tryz.sizeOf102
  v53:=Tryz.zeroValue102
  t171:=Tryz.underlying297
  a171:=Tryz.isAgg297
  z171:=Tryz.sizeOf297
  v171:=Tryz.zeroValue297
  t173:=Tryz.underlying300
  a173:=Tryz.isAgg300
  z173:=Tryz.sizeOf300
  v173:=Tryz.zeroValue300
  t212:=Tryz.underlying353
  a212:=Tryz.isAgg353
  z212:=Tryz.sizeOf353
  v212:=Tryz.zeroValue353
  t213:=Tryz.underlying355
  a213:=Tryz.isAgg355
  z213:=Tryz.sizeOf355
  t232:=Tryz.underlying399
  a232:=Tryz.isAgg399
  z232:=Tryz.sizeOf399
  v232:=Tryz.zeroValue399
  t233:=Tryz.underlying400
  a233:=Tryz.isAgg400
  z233:=Tryz.sizeOf400
  v233:=Tryz.zeroValue400
  g17:=by kernel_rfl
  g18:=by kernel_rfl
  g19:=by kernel_rfl
  i0:=by kernel_rfl
  i2:=by kernel_rfl
  i3:=by kernel_rfl
  i4:=by kernel_rfl
  i5:=by kernel_rfl
  i9:=by kernel_rfl
  i20:=by kernel_rfl
  i37:=by kernel_rfl
  i46:=by kernel_rfl
  i51:=by kernel_rfl
  i53:=by kernel_rfl
  i171:=by kernel_rfl
  i173:=by kernel_rfl
  i212:=by kernel_rfl
  i232:=by kernel_rfl
  i233:=by kernel_rfl
  m17:=by kernel_rfl
  m18:=by kernel_rfl
  m19:=by kernel_rfl }
open Go.RowKit Go.Sort Go.Lib in
theorem Tryz.strconv_FormatInt_10 (n : Int) (h0 : -9223372036854775808 <= n) (h1 : n <= 9223372036854775807) (w : World) (htab : Lib.TabIs Tryz.prog w "internal/strconv.uint64pow10" .u64 Lib.pow10Tab) :
    Calls Tryz.prog 90 #[.int .i64 n,.int .i64 10] w fun e w'=>e=.returned (.string ⟨(Lib.itoa n).toArray⟩)/\∃ k os,w'=grow (w.drewN k) os:=Any.strconv_FormatInt_10 Tryz.laysM173 n h0 h1 w htab
def Tryz.laysC172_ren:Go.Shelf.Ren:=⟨fun|172=>175|244=>230|245=>144|247=>143|279=>194|280=>195|281=>196|282=>197|287=>193|316=>249|171=>105|205=>250|321=>247|322=>248|243=>156|246=>132|283=>178|284=>179|285=>180|286=>181|129=>233|317=>232|318=>234|319=>235|320=>236|337=>261|338=>262|n=>n,fun|9=>9|3=>3|75=>175|76=>186|4=>4|5=>5|167=>312|37=>93|0=>0|85=>176|2=>2|168=>315|53=>102|175=>313|46=>163|210=>366|127=>249|145=>386|143=>384|21=>21|171=>297|173=>300|212=>353|51=>354|20=>20|213=>355|232=>399|233=>400|80=>190|n=>n,fun|15=>2|16=>3|17=>1|18=>8|19=>9|n=>n⟩
theorem Tryz.laysC172:Go.Proofs.LaysC.n172 Tryz.prog Tryz.laysC172_ren:={
  mixed:=by kernel_rfl
  f129:=Tryz.func233.trans (congrArg some (by kernel_rfl))
  f171:=Tryz.func105.trans (congrArg some (by kernel_rfl))
  f172:=Tryz.func175.trans (congrArg some (by kernel_rfl))
  f205:=Tryz.func250.trans (congrArg some (by kernel_rfl))
  f243:=Tryz.func156.trans (congrArg some (by kernel_rfl))
  f244:=Tryz.func230.trans (congrArg some (by kernel_rfl))
  f245:=Tryz.func144.trans (congrArg some (by kernel_rfl))
  f246:=Tryz.func132.trans (congrArg some (by kernel_rfl))
  f247:=Tryz.func143.trans (congrArg some (by kernel_rfl))
  f279:=Tryz.func194.trans (congrArg some (by kernel_rfl))
  f280:=Tryz.func195.trans (congrArg some (by kernel_rfl))
  f281:=Tryz.func196.trans (congrArg some (by kernel_rfl))
  f282:=Tryz.func197.trans (congrArg some (by kernel_rfl))
  f283:=Tryz.func178.trans (congrArg some (by kernel_rfl))
  f284:=Tryz.func179.trans (congrArg some (by kernel_rfl))
  f285:=Tryz.func180.trans (congrArg some (by kernel_rfl))
  f286:=Tryz.func181.trans (congrArg some (by kernel_rfl))
  f287:=Tryz.func193.trans (congrArg some (by kernel_rfl))
  f316:=Tryz.func249.trans (congrArg some (by kernel_rfl))
  f317:=Tryz.func232.trans (congrArg some (by kernel_rfl))
  f318:=Tryz.func234.trans (congrArg some (by kernel_rfl))
  f319:=Tryz.func235.trans (congrArg some (by kernel_rfl))
  f320:=Tryz.func236.trans (congrArg some (by kernel_rfl))
  f321:=Tryz.func247.trans (congrArg some (by kernel_rfl))
  f322:=Tryz.func248.trans (congrArg some (by kernel_rfl))
  f337:=Tryz.func261.trans (congrArg some (by kernel_rfl))
  f338:=Tryz.func262.trans (congrArg some (by kernel_rfl))
  t0:=Tryz.underlying0
  a0:=Tryz.isAgg0
  z0:=Tryz.sizeOf0
  v0:=Tryz.zeroValue0
  t2:=Tryz.underlying2
  a2:=Tryz.isAgg2
  z2:=Tryz.sizeOf2
  v2:=Tryz.zeroValue2
  t3:=Tryz.underlying3
  a3:=Tryz.isAgg3
  z3:=Tryz.sizeOf3
  v3:=Tryz.zeroValue3
  t4:=Tryz.underlying4
  a4:=Tryz.isAgg4
  z4:=Tryz.sizeOf4
  v4:=Tryz.zeroValue4
  t5:=Tryz.underlying5
  a5:=Tryz.isAgg5
  z5:=Tryz.sizeOf5
  v5:=Tryz.zeroValue5
  t9:=Tryz.underlying9
  a9:=Tryz.isAgg9
  z9:=Tryz.sizeOf9
  v9:=Tryz.zeroValue9
  t20:=Tryz.underlying20
  a20:=Tryz.isAgg20
  z20:=Tryz.sizeOf20
  v20:=Tryz.zeroValue20
  t21:=Tryz.underlying21
  a21:=Tryz.isAgg21
  z21:=Tryz.sizeOf21
  v21:=Tryz.zeroValue21
  t37:=Tryz.underlying93
  a37:=Tryz.isAgg93
  z37:=Tryz.sizeOf93
  v37:=Tryz.zeroValue93
  t46:=Tryz.underlying163
  a46:=Tryz.isAgg163
  z46:=Tryz.sizeOf163
  v46:=Tryz.zeroValue163
  t51:=Tryz.underlying354
  a51:=Tryz.isAgg354
  z51:=Tryz.sizeOf354
  v51:=Tryz.zeroValue354
  t53:=Tryz.underlying102
  a53:=Tryz.isAgg102
  z53:=Tryz.sizeOf102
  v53:=Tryz.zeroValue102
  t75:=Tryz.underlying175
  a75:=Tryz.isAgg175
  z75:=Tryz.sizeOf175
  v75:=Tryz.zeroValue175
  t76:=Tryz.underlying186
  a76:=Tryz.isAgg186
  z76:=Tryz.sizeOf186
  v76:=Tryz.zeroValue186
  t85:=Tryz.underlying176
  a85:=Tryz.isAgg176
  z85:=Tryz.sizeOf176
  v85:=Tryz.zeroValue176
  t127:=Tryz.underlying249
  a127:=Tryz.isAgg249
  z127:=Tryz.sizeOf249
  v127:=Tryz.zeroValue249
  t143:=Tryz.underlying384
  a143:=Tryz.isAgg384
  z143:=Tryz.sizeOf384
  v143:=Tryz.zeroValue384
  t145:=Tryz.underlying386
  a145:=Tryz.isAgg386
  z145:=Tryz.sizeOf386
  v145:=Tryz.zeroValue386
  t167:=Tryz.underlying312
  a167:=Tryz.isAgg312
  z167:=Tryz.sizeOf312
  v167:=Tryz.zeroValue312
  t168:=Tryz.underlying315
  a168:=Tryz.isAgg315
  z168:=Tryz.sizeOf315
  v168:=Tryz.zeroValue315
  t171:=Tryz.underlying297
  a171:=Tryz.isAgg297
  z171:=Tryz.sizeOf297
  v171:=Tryz.zeroValue297
  t173:=Tryz.underlying300
  a173:=Tryz.isAgg300
  z173:=Tryz.sizeOf300
  v173:=Tryz.zeroValue300
  t175:=Tryz.underlying313
  a175:=Tryz.isAgg313
  z175:=Tryz.sizeOf313
  v175:=Tryz.zeroValue313
  t210:=Tryz.underlying366
  a210:=Tryz.isAgg366
  z210:=Tryz.sizeOf366
  v210:=Tryz.zeroValue366
  t212:=Tryz.underlying353
  a212:=Tryz.isAgg353
  z212:=Tryz.sizeOf353
  v212:=Tryz.zeroValue353
  t213:=Tryz.underlying355
  a213:=Tryz.isAgg355
  z213:=Tryz.sizeOf355
  t232:=Tryz.underlying399
  a232:=Tryz.isAgg399
  z232:=Tryz.sizeOf399
  v232:=Tryz.zeroValue399
  t233:=Tryz.underlying400
  a233:=Tryz.isAgg400
  z233:=Tryz.sizeOf400
  v233:=Tryz.zeroValue400
  g15:=by kernel_rfl
  g16:=by kernel_rfl
  g17:=by kernel_rfl
  g18:=by kernel_rfl
  g19:=by kernel_rfl
  t80:=Tryz.underlying190
  a80:=Tryz.isAgg190
  z80:=Tryz.sizeOf190
  v80:=Tryz.zeroValue190
  i0:=by kernel_rfl
  i2:=by kernel_rfl
  i3:=by kernel_rfl
  i4:=by kernel_rfl
  i5:=by kernel_rfl
  i9:=by kernel_rfl
  i20:=by kernel_rfl
  i21:=by kernel_rfl
  i37:=by kernel_rfl
  i46:=by kernel_rfl
  i51:=by kernel_rfl
  i53:=by kernel_rfl
  i75:=by kernel_rfl
  i76:=by kernel_rfl
  i80:=by kernel_rfl
  i85:=by kernel_rfl
  i127:=by kernel_rfl
  i143:=by kernel_rfl
  i145:=by kernel_rfl
  i167:=by kernel_rfl
  i168:=by kernel_rfl
  i171:=by kernel_rfl
  i173:=by kernel_rfl
  i175:=by kernel_rfl
  i210:=by kernel_rfl
  i212:=by kernel_rfl
  i232:=by kernel_rfl
  i233:=by kernel_rfl
  m15:=by kernel_rfl
  m16:=by kernel_rfl
  m17:=by kernel_rfl
  m18:=by kernel_rfl
  m19:=by kernel_rfl
  c0:=by kernel_rfl
  c2:=by kernel_rfl
  c3:=by kernel_rfl
  c4:=by kernel_rfl
  c5:=by kernel_rfl
  c9:=by kernel_rfl
  c20:=by kernel_rfl
  c21:=by kernel_rfl
  c37:=by kernel_rfl
  c46:=by kernel_rfl
  c51:=by kernel_rfl
  c53:=by kernel_rfl
  c75:=by kernel_rfl
  c76:=by kernel_rfl
  c80:=by kernel_rfl
  c85:=by kernel_rfl
  c127:=by kernel_rfl
  c143:=by kernel_rfl
  c145:=by kernel_rfl
  c167:=by kernel_rfl
  c168:=by kernel_rfl
  c171:=by kernel_rfl
  c173:=by kernel_rfl
  c175:=by kernel_rfl
  c210:=by kernel_rfl
  c212:=by kernel_rfl
  c213:=by kernel_rfl
  c232:=by kernel_rfl
  c233:=by kernel_rfl }
open Go.RowKit in
theorem Tryz.strconv_Atoi_ok (s:ByteArray) (hmax:s.size<=9223372036854775806) (v:Int) (h:Lib.atoiAll s.data.toList=.ok v) (w:World) :
    Calls Tryz.prog 175 #[.string s] w fun e w'=>e=.returned (.tuple #[.int .i64 v,.nilIface])/\(w'=w\/∃ t,w'=Lib.bytesWorld w 5 t):=Any.strconv_Atoi_ok Tryz.laysC172 s hmax v h w
open Go.RowKit in
theorem Tryz.strconv_Atoi_syntax (s:ByteArray) (hlim:s.size<=281474976710656) (h:Lib.atoiAll s.data.toList=Lib.NumEnd.syntax) (ev:Value) (w:World) (hv:w.cell? ⟨2,0,none⟩=some ev) (hev:ev=.nilIface\/∃ te pe,ev=.iface te pe) :
    Calls Tryz.prog 175 #[.string s] w fun e w'=>∃ N,e=.returned (.tuple #[.int .i64 (0),.iface 315 (.pointer (some ⟨N,0,none⟩))])/\w.heap.size<=N/\w'.heap[N]?=some (.cells #[.string ⟨#[65,116,111,105]⟩,.string s,ev] 366 (0,0))/\Below w.heap.size w w':=Any.strconv_Atoi_syntax Tryz.laysC172 s hlim h ev w hv hev
open Go.RowKit in
theorem Tryz.strconv_Atoi_range (s:ByteArray) (hlim:s.size<=281474976710656) (h:Lib.atoiAll s.data.toList=.range) (ev:Value) (w:World) (hv:w.cell? ⟨3,0,none⟩=some ev) (hev:ev=.nilIface\/∃ te pe,ev=.iface te pe) :
    Calls Tryz.prog 175 #[.string s] w fun e w'=>∃ N,e=.returned (.tuple #[.int .i64 (Lib.atoiSat s.data.toList),.iface 315 (.pointer (some ⟨N,0,none⟩))])/\w.heap.size<=N/\w'.heap[N]?=some (.cells #[.string ⟨#[65,116,111,105]⟩,.string s,ev] 366 (0,0))/\Below w.heap.size w w':=Any.strconv_Atoi_range Tryz.laysC172 s hlim h ev w hv hev
def Tryz.laysC174_ren:Go.Shelf.Ren:=⟨fun|174=>94|247=>143|245=>144|287=>193|279=>194|280=>195|281=>196|282=>197|321=>247|322=>248|316=>249|171=>105|205=>250|243=>156|246=>132|283=>178|284=>179|285=>180|286=>181|129=>233|317=>232|318=>234|319=>235|320=>236|337=>261|338=>262|n=>n,fun|9=>9|3=>3|2=>2|75=>175|85=>176|4=>4|167=>312|5=>5|53=>102|175=>313|46=>163|168=>315|37=>93|0=>0|210=>366|21=>21|127=>249|145=>386|143=>384|171=>297|173=>300|212=>353|51=>354|20=>20|213=>355|232=>399|233=>400|80=>190|n=>n,fun|15=>2|16=>3|17=>1|18=>8|19=>9|n=>n⟩
theorem Tryz.laysC174:Go.Proofs.LaysC.n174 Tryz.prog Tryz.laysC174_ren:={
  mixed:=by kernel_rfl
  f129:=Tryz.func233.trans (congrArg some (by kernel_rfl))
  f171:=Tryz.func105.trans (congrArg some (by kernel_rfl))
  f174:=Tryz.func94.trans (congrArg some (by kernel_rfl))
  f205:=Tryz.func250.trans (congrArg some (by kernel_rfl))
  f243:=Tryz.func156.trans (congrArg some (by kernel_rfl))
  f245:=Tryz.func144.trans (congrArg some (by kernel_rfl))
  f246:=Tryz.func132.trans (congrArg some (by kernel_rfl))
  f247:=Tryz.func143.trans (congrArg some (by kernel_rfl))
  f279:=Tryz.func194.trans (congrArg some (by kernel_rfl))
  f280:=Tryz.func195.trans (congrArg some (by kernel_rfl))
  f281:=Tryz.func196.trans (congrArg some (by kernel_rfl))
  f282:=Tryz.func197.trans (congrArg some (by kernel_rfl))
  f283:=Tryz.func178.trans (congrArg some (by kernel_rfl))
  f284:=Tryz.func179.trans (congrArg some (by kernel_rfl))
  f285:=Tryz.func180.trans (congrArg some (by kernel_rfl))
  f286:=Tryz.func181.trans (congrArg some (by kernel_rfl))
  f287:=Tryz.func193.trans (congrArg some (by kernel_rfl))
  f316:=Tryz.func249.trans (congrArg some (by kernel_rfl))
  f317:=Tryz.func232.trans (congrArg some (by kernel_rfl))
  f318:=Tryz.func234.trans (congrArg some (by kernel_rfl))
  f319:=Tryz.func235.trans (congrArg some (by kernel_rfl))
  f320:=Tryz.func236.trans (congrArg some (by kernel_rfl))
  f321:=Tryz.func247.trans (congrArg some (by kernel_rfl))
  f322:=Tryz.func248.trans (congrArg some (by kernel_rfl))
  f337:=Tryz.func261.trans (congrArg some (by kernel_rfl))
  f338:=Tryz.func262.trans (congrArg some (by kernel_rfl))
  t0:=Tryz.underlying0
  a0:=Tryz.isAgg0
  z0:=Tryz.sizeOf0
  v0:=Tryz.zeroValue0
  t2:=Tryz.underlying2
  a2:=Tryz.isAgg2
  z2:=Tryz.sizeOf2
  v2:=Tryz.zeroValue2
  t3:=Tryz.underlying3
  a3:=Tryz.isAgg3
  z3:=Tryz.sizeOf3
  v3:=Tryz.zeroValue3
  t4:=Tryz.underlying4
  a4:=Tryz.isAgg4
  z4:=Tryz.sizeOf4
  v4:=Tryz.zeroValue4
  t5:=Tryz.underlying5
  a5:=Tryz.isAgg5
  z5:=Tryz.sizeOf5
  v5:=Tryz.zeroValue5
  t9:=Tryz.underlying9
  a9:=Tryz.isAgg9
  z9:=Tryz.sizeOf9
  v9:=Tryz.zeroValue9
  t20:=Tryz.underlying20
  a20:=Tryz.isAgg20
  z20:=Tryz.sizeOf20
  v20:=Tryz.zeroValue20
  t21:=Tryz.underlying21
  a21:=Tryz.isAgg21
  z21:=Tryz.sizeOf21
  v21:=Tryz.zeroValue21
  t37:=Tryz.underlying93
  a37:=Tryz.isAgg93
  z37:=Tryz.sizeOf93
  v37:=Tryz.zeroValue93
  t46:=Tryz.underlying163
  a46:=Tryz.isAgg163
  z46:=Tryz.sizeOf163
  v46:=Tryz.zeroValue163
  t51:=Tryz.underlying354
  a51:=Tryz.isAgg354
  z51:=Tryz.sizeOf354
  v51:=Tryz.zeroValue354
  t53:=Tryz.underlying102
  a53:=Tryz.isAgg102
  z53:=Tryz.sizeOf102
  v53:=Tryz.zeroValue102
  t75:=Tryz.underlying175
  a75:=Tryz.isAgg175
  z75:=Tryz.sizeOf175
  v75:=Tryz.zeroValue175
  t85:=Tryz.underlying176
  a85:=Tryz.isAgg176
  z85:=Tryz.sizeOf176
  v85:=Tryz.zeroValue176
  t127:=Tryz.underlying249
  a127:=Tryz.isAgg249
  z127:=Tryz.sizeOf249
  v127:=Tryz.zeroValue249
  t143:=Tryz.underlying384
  a143:=Tryz.isAgg384
  z143:=Tryz.sizeOf384
  v143:=Tryz.zeroValue384
  t145:=Tryz.underlying386
  a145:=Tryz.isAgg386
  z145:=Tryz.sizeOf386
  v145:=Tryz.zeroValue386
  t167:=Tryz.underlying312
  a167:=Tryz.isAgg312
  z167:=Tryz.sizeOf312
  v167:=Tryz.zeroValue312
  t168:=Tryz.underlying315
  a168:=Tryz.isAgg315
  z168:=Tryz.sizeOf315
  v168:=Tryz.zeroValue315
  t171:=Tryz.underlying297
  a171:=Tryz.isAgg297
  z171:=Tryz.sizeOf297
  v171:=Tryz.zeroValue297
  t173:=Tryz.underlying300
  a173:=Tryz.isAgg300
  z173:=Tryz.sizeOf300
  v173:=Tryz.zeroValue300
  t175:=Tryz.underlying313
  a175:=Tryz.isAgg313
  z175:=Tryz.sizeOf313
  v175:=Tryz.zeroValue313
  t210:=Tryz.underlying366
  a210:=Tryz.isAgg366
  z210:=Tryz.sizeOf366
  v210:=Tryz.zeroValue366
  t212:=Tryz.underlying353
  a212:=Tryz.isAgg353
  z212:=Tryz.sizeOf353
  v212:=Tryz.zeroValue353
  t213:=Tryz.underlying355
  a213:=Tryz.isAgg355
  z213:=Tryz.sizeOf355
  t232:=Tryz.underlying399
  a232:=Tryz.isAgg399
  z232:=Tryz.sizeOf399
  v232:=Tryz.zeroValue399
  t233:=Tryz.underlying400
  a233:=Tryz.isAgg400
  z233:=Tryz.sizeOf400
  v233:=Tryz.zeroValue400
  g15:=by kernel_rfl
  g16:=by kernel_rfl
  g17:=by kernel_rfl
  g18:=by kernel_rfl
  g19:=by kernel_rfl
  t80:=Tryz.underlying190
  a80:=Tryz.isAgg190
  z80:=Tryz.sizeOf190
  v80:=Tryz.zeroValue190
  i0:=by kernel_rfl
  i2:=by kernel_rfl
  i3:=by kernel_rfl
  i4:=by kernel_rfl
  i5:=by kernel_rfl
  i9:=by kernel_rfl
  i20:=by kernel_rfl
  i21:=by kernel_rfl
  i37:=by kernel_rfl
  i46:=by kernel_rfl
  i51:=by kernel_rfl
  i53:=by kernel_rfl
  i75:=by kernel_rfl
  i80:=by kernel_rfl
  i85:=by kernel_rfl
  i127:=by kernel_rfl
  i143:=by kernel_rfl
  i145:=by kernel_rfl
  i167:=by kernel_rfl
  i168:=by kernel_rfl
  i171:=by kernel_rfl
  i173:=by kernel_rfl
  i175:=by kernel_rfl
  i210:=by kernel_rfl
  i212:=by kernel_rfl
  i232:=by kernel_rfl
  i233:=by kernel_rfl
  m15:=by kernel_rfl
  m16:=by kernel_rfl
  m17:=by kernel_rfl
  m18:=by kernel_rfl
  m19:=by kernel_rfl
  c0:=by kernel_rfl
  c2:=by kernel_rfl
  c3:=by kernel_rfl
  c4:=by kernel_rfl
  c5:=by kernel_rfl
  c9:=by kernel_rfl
  c20:=by kernel_rfl
  c21:=by kernel_rfl
  c37:=by kernel_rfl
  c46:=by kernel_rfl
  c51:=by kernel_rfl
  c53:=by kernel_rfl
  c75:=by kernel_rfl
  c80:=by kernel_rfl
  c85:=by kernel_rfl
  c127:=by kernel_rfl
  c143:=by kernel_rfl
  c145:=by kernel_rfl
  c167:=by kernel_rfl
  c168:=by kernel_rfl
  c171:=by kernel_rfl
  c173:=by kernel_rfl
  c175:=by kernel_rfl
  c210:=by kernel_rfl
  c212:=by kernel_rfl
  c213:=by kernel_rfl
  c232:=by kernel_rfl
  c233:=by kernel_rfl }
open Go.RowKit in
theorem Tryz.strconv_ParseInt_10_at64_ok (s:ByteArray) (hmax:s.size<=9223372036854775806) (v:Int) (h:Lib.parseIntB 64 s.data.toList=.ok v) (w:World) :
    Calls Tryz.prog 94 #[.string s,.int .i64 10,.int .i64 64] w fun e w'=>e=.returned (.tuple #[.int .i64 v,.nilIface])/\(w'=w\/∃ t,w'=Lib.bytesWorld w 5 t):=Any.strconv_ParseInt_10_at64_ok Tryz.laysC174 s hmax v h w
open Go.RowKit in
theorem Tryz.strconv_ParseInt_10_at64_syntax (s:ByteArray) (hlim:s.size<=281474976710656) (h:Lib.parseIntB 64 s.data.toList=Lib.NumEnd.syntax) (ev:Value) (w:World) (hv:w.cell? ⟨2,0,none⟩=some ev) (hev:ev=.nilIface\/∃ te pe,ev=.iface te pe) :
    Calls Tryz.prog 94 #[.string s,.int .i64 10,.int .i64 64] w fun e w'=>∃ N,e=.returned (.tuple #[.int .i64 (0),.iface 315 (.pointer (some ⟨N,0,none⟩))])/\w.heap.size<=N/\w'.heap[N]?=some (.cells #[.string ⟨#[80,97,114,115,101,73,110,116]⟩,.string s,ev] 366 (0,0))/\Below w.heap.size w w':=Any.strconv_ParseInt_10_at64_syntax Tryz.laysC174 s hlim h ev w hv hev
open Go.RowKit in
theorem Tryz.strconv_ParseInt_10_at64_range (s:ByteArray) (hlim:s.size<=281474976710656) (h:Lib.parseIntB 64 s.data.toList=.range) (ev:Value) (w:World) (hv:w.cell? ⟨3,0,none⟩=some ev) (hev:ev=.nilIface\/∃ te pe,ev=.iface te pe) :
    Calls Tryz.prog 94 #[.string s,.int .i64 10,.int .i64 64] w fun e w'=>∃ N,e=.returned (.tuple #[.int .i64 (Lib.intSat 64 s.data.toList),.iface 315 (.pointer (some ⟨N,0,none⟩))])/\w.heap.size<=N/\w'.heap[N]?=some (.cells #[.string ⟨#[80,97,114,115,101,73,110,116]⟩,.string s,ev] 366 (0,0))/\Below w.heap.size w w':=Any.strconv_ParseInt_10_at64_range Tryz.laysC174 s hlim h ev w hv hev
def Tryz.lays220_ren:Go.Shelf.Ren:=⟨fun|220=>200|219=>243|217=>264|225=>265|224=>266|267=>267|266=>276|314=>277|n=>n,fun|9=>9|4=>4|3=>3|5=>5|46=>163|146=>357|51=>354|n=>n,fun|1=>5|n=>n⟩
def Tryz.lays145_ren:Go.Shelf.Ren:=⟨fun|145=>149|220=>200|219=>243|217=>264|225=>265|224=>266|267=>267|266=>276|314=>277|n=>n,fun|9=>9|4=>4|59=>246|3=>3|5=>5|46=>163|146=>357|51=>354|n=>n,fun|1=>5|n=>n⟩
theorem Tryz.lays145:Go.Proofs.Lays.n145 Tryz.prog Tryz.lays145_ren:={
  mixed:=by kernel_rfl
  f145:=Tryz.func149.trans (congrArg some (by kernel_rfl))
  f217:=Tryz.func264.trans (congrArg some (by kernel_rfl))
  f219:=Tryz.func243.trans (congrArg some (by kernel_rfl))
  f220:=Tryz.func200.trans (congrArg some (by kernel_rfl))
  f224:=Tryz.func266.trans (congrArg some (by kernel_rfl))
  f225:=Tryz.func265.trans (congrArg some (by kernel_rfl))
  f266:=Tryz.func276.trans (congrArg some (by kernel_rfl))
  f267:=Tryz.func267.trans (congrArg some (by kernel_rfl))
  f314:=Tryz.func277.trans (congrArg some (by kernel_rfl))
  t3:=Tryz.underlying3
  a3:=Tryz.isAgg3
  z3:=Tryz.sizeOf3
  v3:=Tryz.zeroValue3
  t4:=Tryz.underlying4
  a4:=Tryz.isAgg4
  z4:=Tryz.sizeOf4
  v4:=Tryz.zeroValue4
  t5:=Tryz.underlying5
  a5:=Tryz.isAgg5
  z5:=Tryz.sizeOf5
  v5:=Tryz.zeroValue5
  t9:=Tryz.underlying9
  a9:=Tryz.isAgg9
  z9:=Tryz.sizeOf9
  v9:=Tryz.zeroValue9
  t46:=Tryz.underlying163
  a46:=Tryz.isAgg163
  z46:=Tryz.sizeOf163
  v46:=Tryz.zeroValue163
  t51:=Tryz.underlying354
  a51:=Tryz.isAgg354
  z51:=Tryz.sizeOf354
  v51:=Tryz.zeroValue354
  t59:=Tryz.underlying246
  a59:=Tryz.isAgg246
  z59:=Tryz.sizeOf246
  v59:=Tryz.zeroValue246
  t146:=Tryz.underlying357
  a146:=Tryz.isAgg357
  z146:=Tryz.sizeOf357
  v146:=Tryz.zeroValue357
  g1:=by kernel_rfl }
open Go.RowKit Go.Lib in
theorem Tryz.strings_Cut (s sep:ByteArray) (m:Int) (w:World) (hs:s.size<4294967281) (hm:w.cell? ⟨5,0,none⟩=some (.int .i64 m)) :
    Calls Tryz.prog 149 #[.string s,.string sep] w fun e w'=>e=.returned (.tuple #[.string ⟨(Lib.cut s.data.toList sep.data.toList).1.toArray⟩,.string ⟨(Lib.cut s.data.toList sep.data.toList).2.1.toArray⟩,.bool (Lib.cut s.data.toList sep.data.toList).2.2])/\∃ n,w'=w.drewN n:=Any.strings_Cut Tryz.lays145 s sep m w hs hm
def Tryz.lays221_ren:Go.Shelf.Ren:=⟨fun|221=>135|268=>186|138=>187|143=>188|195=>241|197=>190|218=>242|219=>243|260=>244|217=>264|225=>265|224=>266|267=>267|266=>276|314=>277|n=>n,fun|9=>9|3=>3|31=>22|4=>4|0=>0|105=>309|21=>21|5=>5|46=>163|119=>379|139=>382|138=>381|146=>357|51=>354|n=>n,fun|1=>5|3=>6|4=>7|n=>n⟩
def Tryz.lays146_ren:Go.Shelf.Ren:=⟨fun|146=>92|221=>135|268=>186|138=>187|143=>188|195=>241|197=>190|218=>242|219=>243|260=>244|217=>264|225=>265|224=>266|267=>267|266=>276|314=>277|n=>n,fun|9=>9|31=>22|3=>3|4=>4|0=>0|105=>309|21=>21|5=>5|46=>163|119=>379|139=>382|138=>381|146=>357|51=>354|n=>n,fun|1=>5|3=>6|4=>7|n=>n⟩
theorem Tryz.lays146:Go.Proofs.Lays.n146 Tryz.prog Tryz.lays146_ren:={
  mixed:=by kernel_rfl
  f138:=Tryz.func187.trans (congrArg some (by kernel_rfl))
  f143:=Tryz.func188.trans (congrArg some (by kernel_rfl))
  f146:=Tryz.func92.trans (congrArg some (by kernel_rfl))
  f195:=Tryz.func241.trans (congrArg some (by kernel_rfl))
  f197:=Tryz.func190.trans (congrArg some (by kernel_rfl))
  f217:=Tryz.func264.trans (congrArg some (by kernel_rfl))
  f218:=Tryz.func242.trans (congrArg some (by kernel_rfl))
  f219:=Tryz.func243.trans (congrArg some (by kernel_rfl))
  f221:=Tryz.func135.trans (congrArg some (by kernel_rfl))
  f224:=Tryz.func266.trans (congrArg some (by kernel_rfl))
  f225:=Tryz.func265.trans (congrArg some (by kernel_rfl))
  f260:=Tryz.func244.trans (congrArg some (by kernel_rfl))
  f266:=Tryz.func276.trans (congrArg some (by kernel_rfl))
  f267:=Tryz.func267.trans (congrArg some (by kernel_rfl))
  f268:=Tryz.func186.trans (congrArg some (by kernel_rfl))
  f314:=Tryz.func277.trans (congrArg some (by kernel_rfl))
  t0:=Tryz.underlying0
  a0:=Tryz.isAgg0
  z0:=Tryz.sizeOf0
  v0:=Tryz.zeroValue0
  t3:=Tryz.underlying3
  a3:=Tryz.isAgg3
  z3:=Tryz.sizeOf3
  v3:=Tryz.zeroValue3
  t4:=Tryz.underlying4
  a4:=Tryz.isAgg4
  z4:=Tryz.sizeOf4
  v4:=Tryz.zeroValue4
  t5:=Tryz.underlying5
  a5:=Tryz.isAgg5
  z5:=Tryz.sizeOf5
  v5:=Tryz.zeroValue5
  t9:=Tryz.underlying9
  a9:=Tryz.isAgg9
  z9:=Tryz.sizeOf9
  v9:=Tryz.zeroValue9
  t21:=Tryz.underlying21
  a21:=Tryz.isAgg21
  z21:=Tryz.sizeOf21
  v21:=Tryz.zeroValue21
  t31:=Tryz.underlying22
  a31:=Tryz.isAgg22
  z31:=Tryz.sizeOf22
  v31:=Tryz.zeroValue22
  t46:=Tryz.underlying163
  a46:=Tryz.isAgg163
  z46:=Tryz.sizeOf163
  v46:=Tryz.zeroValue163
  t51:=Tryz.underlying354
  a51:=Tryz.isAgg354
  z51:=Tryz.sizeOf354
  v51:=Tryz.zeroValue354
  t105:=Tryz.underlying309
  a105:=Tryz.isAgg309
  z105:=Tryz.sizeOf309
  v105:=Tryz.zeroValue309
  t119:=Tryz.underlying379
  a119:=Tryz.isAgg379
  z119:=Tryz.sizeOf379
  t138:=Tryz.underlying381
  a138:=Tryz.isAgg381
  z138:=Tryz.sizeOf381
  v138:=Tryz.zeroValue381
  t139:=Tryz.underlying382
  a139:=Tryz.isAgg382
  z139:=Tryz.sizeOf382
  v139:=Tryz.zeroValue382
  t146:=Tryz.underlying357
  a146:=Tryz.isAgg357
  z146:=Tryz.sizeOf357
  v146:=Tryz.zeroValue357
  g1:=by kernel_rfl
  g3:=by kernel_rfl
  g4:=by kernel_rfl }
open Go.RowKit Go.Lib in
theorem Tryz.strings_Split (s sep:ByteArray) (m:Int) (w:World) (hs:s.size<4294967281) (hm:w.cell? ⟨5,0,none⟩=some (.int .i64 m)) (h1:1<=sep.size) :
    Calls Tryz.prog 92 #[.string s,.string sep] w fun e w' =>
      e=.returned (.slice (some ⟨w.heap.size,0,none⟩) (Lib.countB s sep+1) (Lib.countB s sep+1))/\w'=w.alloc (.cells ((Lib.splitB sep 0 (Lib.countB s sep) s).map Value.string).toArray 9):=Any.strings_Split Tryz.lays146 (by kernel_rfl) s sep m w hs hm h1
def Tryz.lays153_ren:Go.Shelf.Ren:=⟨fun|153=>275|152=>245|226=>284|227=>138|228=>189|137=>268|119=>269|224=>266|225=>265|217=>264|266=>276|n=>n,fun|9=>9|3=>3|4=>4|5=>5|21=>21|117=>240|116=>239|0=>0|46=>163|124=>243|n=>n,fun|n=>n⟩
theorem Tryz.lays153:Go.Proofs.Lays.n153 Tryz.prog Tryz.lays153_ren:={
  mixed:=by kernel_rfl
  f119:=Tryz.func269.trans (congrArg some (by kernel_rfl))
  f137:=Tryz.func268.trans (congrArg some (by kernel_rfl))
  f152:=Tryz.func245.trans (congrArg some (by kernel_rfl))
  f153:=Tryz.func275.trans (congrArg some (by kernel_rfl))
  f217:=Tryz.func264.trans (congrArg some (by kernel_rfl))
  f224:=Tryz.func266.trans (congrArg some (by kernel_rfl))
  f225:=Tryz.func265.trans (congrArg some (by kernel_rfl))
  f226:=Tryz.func284.trans (congrArg some (by kernel_rfl))
  f227:=Tryz.func138.trans (congrArg some (by kernel_rfl))
  f228:=Tryz.func189.trans (congrArg some (by kernel_rfl))
  f266:=Tryz.func276.trans (congrArg some (by kernel_rfl))
  t0:=Tryz.underlying0
  a0:=Tryz.isAgg0
  z0:=Tryz.sizeOf0
  v0:=Tryz.zeroValue0
  t3:=Tryz.underlying3
  a3:=Tryz.isAgg3
  z3:=Tryz.sizeOf3
  v3:=Tryz.zeroValue3
  t4:=Tryz.underlying4
  a4:=Tryz.isAgg4
  z4:=Tryz.sizeOf4
  v4:=Tryz.zeroValue4
  t5:=Tryz.underlying5
  a5:=Tryz.isAgg5
  z5:=Tryz.sizeOf5
  v5:=Tryz.zeroValue5
  t9:=Tryz.underlying9
  a9:=Tryz.isAgg9
  z9:=Tryz.sizeOf9
  v9:=Tryz.zeroValue9
  t21:=Tryz.underlying21
  a21:=Tryz.isAgg21
  z21:=Tryz.sizeOf21
  v21:=Tryz.zeroValue21
  t46:=Tryz.underlying163
  a46:=Tryz.isAgg163
  z46:=Tryz.sizeOf163
  v46:=Tryz.zeroValue163
  t116:=Tryz.underlying239
  a116:=Tryz.isAgg239
  z116:=Tryz.sizeOf239
  t117:=Tryz.underlying240
  a117:=Tryz.isAgg240
  z117:=Tryz.sizeOf240
  v117:=Tryz.zeroValue240
  t124:=Tryz.underlying243
  a124:=Tryz.isAgg243
  z124:=Tryz.sizeOf243
  v124:=Tryz.zeroValue243 }
end Go.Proofs
namespace Go.Proofs.YtcceeahmcecbnaaGreatDoor
open Go.Sx Go.RowKit
theorem i64 {x:Int} (h:-9223372036854775808<=x/\x<=9223372036854775807):InR .i64 x:=h
theorem zK1 {x:Int} (h:InR .i64 x):-9223372036854775808<=x/\x<=9223372036854775807:=h
theorem wrap64 {x:Int} (h:-9223372036854775808<=x/\x<=9223372036854775807):IntKind.wrap .i64 x=x:=by
  simp [IntKind.wrap,IntKind.signed,IntKind.bits]; omega
def ofL (l:List UInt8):ByteArray:=⟨l.toArray⟩
theorem zcl (l:List UInt8):(ofL l).data.toList=l:=rfl
theorem zat (l:List UInt8):(ofL l).size=l.length:=rfl
theorem zb8 (s:ByteArray):ofL s.data.toList=s:=by cases s; rfl
theorem zgS (a b:ByteArray):(a++b).data.toList=a.data.toList++b.data.toList:=by simp
theorem zxn (a b:List UInt8):ofL a++ofL b=ofL (a++b):=by
  rw [<- zb8 (ofL a++ofL b),zgS]; rfl
theorem zmE {a b:List UInt8} (h:ofL a=ofL b):a=b:=by
  have:=congrArg (fun s:ByteArray=>s.data.toList) h
  exact this
theorem zr3 {n:Nat} (h:n<256):(UInt8.ofNat n).toNat=n:=by simp; omega
theorem zcY:∀ (u:Nat),∀ c∈Lib.decDigits u,48<=c.toNat/\c.toNat<=57:=by
  intro u
  induction u using Nat.strongRecOn with
  |_ u ih =>
    intro c hc
    rw [Lib.decDigits] at hc
    split at hc
    · obtain rfl:=List.mem_singleton.1 hc
      rw [zr3 (by omega)]; omega
    · rcases List.mem_append.1 hc with h|h
      · exact ih (u/10) (by omega) c h
      · obtain rfl:=List.mem_singleton.1 h
        rw [zr3 (by omega)]; omega
theorem zoY (u:Nat):Lib.decDigits u≠[]:=by
  rw [Lib.decDigits]; split<;>simp
theorem zmV {M:Nat}:∀ {l:List UInt8} {acc v:Nat} (r:List UInt8),Lib.parseUintM M acc l=.ok v->Lib.parseUintM M acc (l++r)=Lib.parseUintM M v r
  |[],acc,v,r,h => by
    simp only [Lib.parseUintM,Lib.NumEnd.ok.injEq] at h
    subst h; rfl
  |c::l,acc,v,r,h => by
    simp only [Lib.parseUintM,List.cons_append] at h ⊢
    split at h
    · rename_i hd
      rw [if_pos hd]
      split at h
      · cases h
      · rename_i h2
        rw [if_neg h2]
        split at h
        · cases h
        · rename_i h3
          rw [if_neg h3]
          exact zmV r h
    · cases h
theorem zvq:∀ (u:Nat),u<=1099511627776->Lib.parseUintM 18446744073709551615 0 (Lib.decDigits u)=.ok u:=by
  intro u
  induction u using Nat.strongRecOn with
  |_ u ih =>
    intro hu
    rw [Lib.decDigits]
    split
    · rename_i h
      simp only [Lib.parseUintM]
      rw [zr3 (by omega),if_pos (by omega),if_neg (by omega),if_neg (by omega)]
      congr 1; omega
    · rename_i h
      rw [zmV _ (ih (u/10) (by omega) (by omega))]
      simp only [Lib.parseUintM]
      rw [zr3 (by omega),if_pos (by omega),if_neg (by omega),if_neg (by omega)]
      congr 1; omega
theorem zdS {n:Int} (h:0<=n):Lib.itoa n=Lib.decDigits n.toNat:=by
  unfold Lib.itoa; rw [if_neg (by omega)]
theorem zem {n:Int} (h:0<=n/\n<=1099511627776):Lib.parseIntB 64 (Lib.itoa n)=.ok n:=by
  rw [zdS h.1]
  have hd:=zcY n.toNat
  cases hl:Lib.decDigits n.toNat with
  |nil => exact absurd hl (zoY _)
  |cons c r =>
    have hc:=hd c (by rw [hl]; exact List.mem_cons_self ..)
    rw [Lib.parseIntB_plain 64 c r (by omega) (by omega),<- hl]
    unfold Lib.parseUintB
    rw [if_neg (zoY _),show (2:Nat)^64-1=18446744073709551615 by decide,zvq _ (by omega)]
    show (if (2:Nat)^(64-1)<=n.toNat then _ else _)=_
    rw [if_neg (by have:(2:Nat)^(64-1)=9223372036854775808:=by decide
                   omega)]
    congr 1; omega
theorem ziZ {n:Int} (h:0<=n) {c:UInt8} (hc:c.toNat<48):c∉Lib.itoa n:=fun hm=>by
  rw [zdS h] at hm
  have:=zcY _ _ hm
  omega
theorem zzc {n:Int} (h:0<=n) {c:UInt8} (hc:57<c.toNat):c∉Lib.itoa n:=fun hm=>by
  rw [zdS h] at hm
  have:=zcY _ _ hm
  omega
theorem zsu {c:UInt8}:∀ {a:List UInt8} (b:List UInt8),c∉a->Lib.index (a++c::b) [c]=a.length
  |[],b,_ => by rw [Lib.index_one]; simp [Lib.indexByte]
  |x::a,b,h => by
    have hx:¬ x=c:=fun he=>h (by rw [he]; exact List.mem_cons_self ..)
    have:=zsu (a:=a) b fun hm=>h (List.mem_cons_of_mem _ hm)
    rw [Lib.index_one] at this ⊢
    simp only [List.cons_append,Lib.indexByte,this,beq_iff_eq,hx,if_false]
    rw [if_neg (by omega)]
    simp
theorem zsv {c:UInt8}:∀ {a:List UInt8},c∉a->Lib.index a [c]=-1
  |[],_ => rfl
  |x::a,h => by
    have hx:¬ x=c:=fun he=>h (by rw [he]; exact List.mem_cons_self ..)
    have:=zsv (a:=a) fun hm=>h (List.mem_cons_of_mem _ hm)
    rw [Lib.index_one] at this ⊢
    simp only [Lib.indexByte,this,beq_iff_eq,hx,if_false,if_true]
def one (c:UInt8):ByteArray:=⟨#[c]⟩
theorem zCF {c:UInt8} (a b:List UInt8):(ofL (a++c::b)).extract 0 (a.length+0)=ofL a:=by
  rw [<- zb8 ((ofL (a++c::b)).extract 0 (a.length+0))]
  congr 1
  simp [ofL]
theorem zy5 {c:UInt8} (a b:List UInt8):(ofL (a++c::b)).extract (a.length+(one c).size) (ofL (a++c::b)).size=ofL b:=by
  rw [<- zb8 ((ofL (a++c::b)).extract _ _)]
  congr 1
  have hd:(one c).size=1:=rfl
  rw [hd,zat]
  simp [ofL]
  exact List.take_of_length_le (by omega)
theorem zEa {c:UInt8} {a b:List UInt8} (h:c∉a) (k:Nat):Lib.splitB (one c) 0 (k+1) (ofL (a++c::b))=ofL a::Lib.splitB (one c) 0 k (ofL b):=by
  rw [Lib.splitB_hit (one c) 0 k _ a.length (zsu b h),zCF,zy5]
theorem zCm {c:UInt8} {a b:List UInt8} (h:c∉a):Lib.countB (ofL (a++c::b)) (one c)=1+Lib.countB (ofL b) (one c):=by
  rw [Lib.countB_hit (ofL (a++c::b)) (one c) a.length (Nat.le_refl 1) (zsu b h),zy5]
theorem zAo {c:UInt8} {a:List UInt8} (h:c∉a):Lib.countB (ofL a) (one c)=0:=Lib.countB_miss _ _ (zsv h)
theorem zwM {c:UInt8} {a:List UInt8} (b:List UInt8) (h:c∉a):Lib.cut (a++c::b) [c]=(a,b,true):=by
  unfold Lib.cut
  rw [zsu b h,if_pos (by omega)]
  simp
theorem zdx {c:UInt8}:∀ (l:List (List UInt8)) (x:List UInt8),(∀ y∈x::l,c∉y)->Lib.countB (ofL (Lib.join (x::l) [c])) (one c)=l.length/\Lib.splitB (one c) 0 l.length (ofL (Lib.join (x::l) [c]))=(x::l).map ofL
  |[],x,h => by
    rw [Lib.join_one]
    exact ⟨zAo (h x (List.mem_cons_self ..)),rfl⟩
  |y::l,x,h => by
    obtain ⟨h1,h2⟩:=zdx l y fun z hz=>h z (List.mem_cons_of_mem _ hz)
    have e:Lib.join (x::y::l) [c]=x++c::Lib.join (y::l) [c]:=by
      rw [Lib.join_cons,Lib.join_cons]
      simp [Lib.joinTail]
    rw [e]
    have hx:=h x (List.mem_cons_self ..)
    refine ⟨by rw [zCm hx,h1,List.length_cons]; omega,?_⟩
    rw [List.length_cons,zEa hx,h2]
    rfl
theorem zcx {c:UInt8}:∀ (k:Nat) (s:ByteArray) (i:Nat) (p:ByteArray),(Lib.splitB (one c) 0 k s)[i]?=some p->p.size+i<=s.size
  |0,s,i,p,h => by
    rw [Lib.splitB_zero] at h
    cases i with
    |zero => simp at h; subst h; omega
    |succ i => simp at h
  |k+1,s,i,p,h => by
    rcases Lib.indexB_cases s (one c) with hm|⟨j,hj,hle⟩
    · rw [Lib.splitB_miss (one c) 0 _ s hm] at h
      cases i with
      |zero => simp at h; subst h; omega
      |succ i => simp at h
    · have hd:(one c).size=1:=rfl
      rw [Lib.splitB_hit (one c) 0 k s j hj] at h
      cases i with
      |zero =>
        simp only [List.getElem?_cons_zero,Option.some.injEq] at h
        subst h
        rw [ByteArray.size_extract]; omega
      |succ i =>
        simp only [List.getElem?_cons_succ] at h
        have:=zcx k _ i p h
        rw [ByteArray.size_extract] at this
        omega
theorem zhB (s:List UInt8) (c:UInt8):(Lib.cut s [c]).2.1.length<=s.length:=by
  unfold Lib.cut
  split
  · simp only [List.length_drop]; omega
  · simp
def isErr (v:Value):Prop:=v=.nilIface\/∃ te pe,v=.iface te pe
structure GB (w:World):Prop where
  pow : Lib.TabIs Tryz.prog w "internal/strconv.uint64pow10" .u64 Lib.pow10Tab
  maxLen:∃ m,cell w (some (⟨5,0,none⟩:Addr)) 0=some (.int .i64 m)
  eSyn:∃ v,cell w (some (⟨2,0,none⟩:Addr)) 0=some v/\isErr v
  eRan:∃ v,cell w (some (⟨3,0,none⟩:Addr)) 0=some v/\isErr v
theorem zEm {P:Program} {w w':World} {name:String} {k:IntKind} {zs:List Int} (h:Lib.TabIs P w name k zs) (e:Ext w w'):Lib.TabIs P w' name k zs:=by
  unfold Lib.TabIs World.var? at *
  cases hg:P.globalNamed name with
  |none => simp [hg] at h
  |some g =>
    simp only [hg,Option.bind_some] at h ⊢
    have hlt:g<w.heap.size:=by
      rcases Nat.lt_or_ge g w.heap.size with h'|h'
      · exact h'
      · rw [Array.getElem?_eq_none h'] at h; simp at h
    rw [e.block g hlt]; exact h
theorem GB.ext {w w':World} (g:GB w) (e:Ext w w'):GB w' :=
  ⟨zEm g.pow e,by obtain ⟨m,h⟩:=g.maxLen; exact ⟨m,zaJ e h⟩,by obtain ⟨v,h,k⟩:=g.eSyn; exact ⟨v,zaJ e h,k⟩,by obtain ⟨v,h,k⟩:=g.eRan; exact ⟨v,zaJ e h,k⟩⟩
theorem zwJ {w:World} {b:Nat} {v:Value} (h:cell w (some (⟨b,0,none⟩:Addr)) 0=some v):w.cell? ⟨b,0,none⟩=some v:=by simpa [cell,add_zero] using h
theorem zmj {w:World} {k:Nat} {os:Array Obj}:Ext w (Go.Sort.grow (w.drewN k) os) :=
  ⟨rfl,rfl,rfl,by simp [Go.Sort.grow],fun b hb=>Go.Sort.heap_grow_old (w.drewN k) os hb⟩
theorem zFM {w:World} {n:Nat}:Ext w (w.drewN n):=⟨rfl,rfl,rfl,Nat.le_refl _,fun _ _=>rfl⟩
theorem zoK (n:Int) (h:-9223372036854775808<=n/\n<=9223372036854775807) (w:World) (g:GB w):FnP Tryz.prog zby #[.int .i64 n,.int .i64 10] w fun v w'=>Ext w w'/\v=.string (ofL (Lib.itoa n)) :=
  ⟨fun args w=>Tryz.call90 args w,(Tryz.strconv_FormatInt_10 n h.1 h.2 w g.pow).mono fun e w' ⟨he,k,os,hw⟩=>⟨_,he,by rw [hw]; exact zmj,rfl⟩⟩
theorem zjw (s:ByteArray) (hs:s.size<=281474976710656) (w:World) (g:GB w):FnP Tryz.prog zbR #[.string s,.int .i64 10,.int .i64 64] w fun v w'=>Ext w w'/\∃ (n:Int) (ev:Value),v=.tuple #[.int .i64 n,ev] /\
    ((ev=.nilIface/\Lib.parseIntB 64 s.data.toList=.ok n)\/((∃ a b,ev=.iface a b)/\∀ m,Lib.parseIntB 64 s.data.toList≠.ok m)):=by
  have en:znr Tryz.prog zbR:=fun args w=>Tryz.call94 args w
  cases hp:Lib.parseIntB 64 s.data.toList with
  |ok v =>
    refine ⟨en,(Tryz.strconv_ParseInt_10_at64_ok s (by omega) v hp w).mono fun e w' ⟨he,hw⟩=>⟨_,he,?_,v,.nilIface,rfl,.inl ⟨rfl,rfl⟩⟩⟩
    rcases hw with rfl|⟨t,rfl⟩
    · exact Ext.refl _
    · exact Lib.bytesWorld_below w 5 t
  |range =>
    obtain ⟨ev,h1,h2⟩:=g.eRan
    exact ⟨en,(Tryz.strconv_ParseInt_10_at64_range s hs hp ev w (zwJ h1) h2).mono fun e w' ⟨N,he,_,_,hb⟩=>⟨_,he,hb,_,_,rfl,.inr ⟨⟨_,_,rfl⟩,fun m h=>by cases h⟩⟩⟩
  |_ =>
    obtain ⟨ev,h1,h2⟩:=g.eSyn
    exact ⟨en,(Tryz.strconv_ParseInt_10_at64_syntax s hs hp ev w (zwJ h1) h2).mono fun e w' ⟨N,he,_,_,hb⟩=>⟨_,he,hb,_,_,rfl,.inr ⟨⟨_,_,rfl⟩,fun m h=>by cases h⟩⟩⟩
theorem zvr {l:List UInt8} {n:Int} (h:Lib.parseIntB 64 l=.ok n) (hn:0<n):n<=9223372036854775807:=by
  unfold Lib.parseIntB at h
  split at h
  · cases h
  · simp only at h
    split at h
    · cases h
    · cases h
    · rename_i u _
      split at h
      · cases h
      · rename_i h1
        split at h
        · cases h
        · injection h with h
          split at h
          · omega
          · rename_i h2
            have e:(2:Nat)^(64-1)=9223372036854775808:=by decide
            rw [e] at h1
            omega
theorem zkq {P:Program} (d:Nat) {t:TypeId} {m:Array (String×TypeId)} (ht:P.underlying t=some (.interface m)) (w:World):(Op.equalIn (d+1) t .nilIface .nilIface).run P w=.ok true w:=by
  simp only [Op.equalIn,Sem.run_bind,run_underlying ht,Result.andThen_ok,Sem.run_pure]
theorem zkp {P:Program} (d:Nat) {t:TypeId} {m:Array (String×TypeId)} (ht:P.underlying t=some (.interface m)) (a:TypeId) (b:Value) (w:World):(Op.equalIn (d+1) t (.iface a b) .nilIface).run P w=.ok false w:=by
  simp only [Op.equalIn,Sem.run_bind,run_underlying ht,Result.andThen_ok,Sem.run_pure]
theorem ne_nil {P:Program} {t:TypeId} {m:Array (String×TypeId)} (ht:P.underlying t=some (.interface m)) {v:Value} (hv:isErr v) {cx:Bool} {w:World} {K:Value->World->Prop} (hk:∀ b:Bool,(b=false↔v=.nilIface)->K (.bool b) w):Run P (.eq .neq t cx true v .nilIface) w K:=by
  have hb:∀ x:Value,∀ r:Bool,(Op.equal t x .nilIface).run P w=.ok r w->(eqGuard .neq t (opd cx) (opd true) x .nilIface).run P w=.ok () w->binOp .neq t x .nilIface=(do pure (.bool (!(<- Op.equal t x .nilIface))))->(MC.sem (.eq .neq t cx true x .nilIface)).run P w=.ok (.bool (!r)) w:=fun x r h1 h2 h3=>by
    show (do eqGuard .neq t (opd cx) (opd true) x .nilIface; binOp .neq t x .nilIface:Sem Value).run P w=_
    rw [Sem.run_bind,h2,Result.andThen_ok,h3,Sem.run_bind,h1,Result.andThen_ok,Sem.run_pure]
  rcases hv with rfl|⟨a,b,rfl⟩
  · exact ⟨_,w,hb _ true (zkq 9999 ht w) (by cases cx<;>rfl) rfl,hk false (by simp)⟩
  · exact ⟨_,w,hb _ false (zkp 9999 ht a b w) (by cases cx<;>rfl) rfl,hk true (by simp)⟩
def zuB (P:Program) (t:TypeId):Bool:=match P.underlying t with|some (.interface _)=>true|_=>false
theorem zi2 {P:Program} {t:TypeId} (ht:zuB P t=true) {v:Value} (hv:isErr v) {cx:Bool} {w:World} {K:Value->World->Prop} (hk:∀ b:Bool,(b=false↔v=.nilIface)->K (.bool b) w):Run P (.eq .neq t cx true v .nilIface) w K:=by
  unfold zuB at ht
  split at ht
  · rename_i m h; exact ne_nil h hv hk
  · cases ht
theorem zeU (c:UInt8) (s:ByteArray) (hs:s.size<4294967281) (w:World) (g:GB w):FnP Tryz.prog zbi #[.string s,.string (one c)] w fun v w'=>Ext w w'/\v=.slice (some ⟨w.heap.size,0,none⟩) (Lib.countB s (one c)+1) (Lib.countB s (one c)+1) /\
    zau w' (some ⟨w.heap.size,0,none⟩) ((Lib.splitB (one c) 0 (Lib.countB s (one c)) s).map Value.string)/\w.heap.size<w'.heap.size:=by
  obtain ⟨m,hm⟩:=g.maxLen
  refine ⟨fun args w=>Tryz.call92 args w,(Tryz.strings_Split s (one c) m w hs (zwJ hm) (Nat.le_refl 1)).mono fun e w' ⟨he,hw⟩=>⟨_,he,?_,rfl,fun i p hp=>?_,?_⟩⟩
  · rw [hw]; exact Below.alloc (Below.refl _ _) (Nat.le_refl _) _
  · rw [hw]
    show World.cell? _ _=_
    have:(Addr.add ⟨w.heap.size,0,none⟩ i)=⟨w.heap.size,i,none⟩:=by simp [Addr.add]; intro h; exact h.symm
    rw [this]
    rw [World.cell?_alloc_mark]
    simpa using hp
  · rw [hw]; show w.heap.size<(w.heap.push _).size; rw [Array.size_push]; omega
theorem zwp (c:UInt8) (s:ByteArray) (hs:s.size<4294967281) (w:World) (g:GB w):FnP Tryz.prog zdL #[.string s,.string (one c)] w fun v w'=>Ext w w'/\v=.tuple #[.string (ofL (Lib.cut s.data.toList [c]).1),.string (ofL (Lib.cut s.data.toList [c]).2.1),.bool (Lib.cut s.data.toList [c]).2.2]:=by
  obtain ⟨m,hm⟩:=g.maxLen
  exact ⟨fun args w=>Tryz.call149 args w,(Tryz.strings_Cut s (one c) m w hs (zwJ hm)).mono fun e w' ⟨he,n,hw⟩=>⟨_,he,by rw [hw]; exact zFM,rfl⟩⟩
theorem zBz (L:List (List UInt8)) (c:UInt8) (q:Option Addr) (m d B:Nat) (e:TypeId) (w:World) (o:Own B w e 1 q m d (L.map fun l=>Value.string (ofL l))) (hne:L≠[]) (hlen:(Lib.join L [c]).length<=140737488355327) :
    FnP Tryz.prog zbd #[.slice q m d,.string (one c)] w fun v w'=>Ext w w'/\v=.string (ofL (Lib.join L [c])):=by
  have hm:=o.leni
  have hmd:=o.le
  have hcl:=o.cells
  have hlt:=o.lt
  obtain ⟨b,rfl⟩:∃ b,q=some ⟨b,0,none⟩:=by
    rcases o.2 with ⟨h,_⟩|⟨g,cap,cur,hv,_⟩
    · have:L=[]:=by
        simp at h
        have:L.length=0:=by omega
        exact List.eq_nil_of_length_eq_zero this
      exact absurd this hne
    · injection hv with h1
      exact ⟨g,h1⟩
  have hl:L.length<=140737488355328:=by
    have key:∀ (L:List (List UInt8)) (x:List UInt8),L.length<=(Lib.join (x::L) [c]).length:=by
      intro L x
      rw [Lib.join_cons,List.length_append,Lib.joinTail_length,show ([c]:List UInt8).length=1 from rfl]; omega
    cases L with
    |nil => exact absurd rfl hne
    |cons x L =>
      have:=key L x
      rw [List.length_cons]; omega
  have e1:(L.map ofL).map (·.data.toList)=L:=by
    rw [List.map_map]
    simp [Function.comp_def,ofL]
  have key:=Tryz.strings_Join b 0 d (L.map ofL) (one c) w (fun j x hx=>by
    rw [List.getElem?_map,Option.map_eq_some_iff] at hx
    obtain ⟨l,hl,rfl⟩:=hx
    have:=hcl j (.string (ofL l)) (by rw [List.getElem?_map,hl]; rfl)
    simp only [cell,Option.bind_some] at this
    have ha:(Addr.add ⟨b,0,none⟩ j)=⟨b,0+j,none⟩:=by simp [Addr.add]; intro h; exact h.symm
    rwa [ha] at this) (hlt _ rfl).2 (by simpa using hl) (by rw [List.length_map,hm]; exact hmd.1) (by rw [e1]; show (Lib.join L [c]).length<=_; omega)
  rw [List.length_map,hm,e1] at key
  exact ⟨fun args w=>Tryz.call173 args w,key.mono fun e w' ⟨he,hw⟩=>⟨_,he,hw,rfl⟩⟩
end Go.Proofs.YtcceeahmcecbnaaGreatDoor
