/- The framework, the program's texts and what is shown of them: part 3. -/
import Derived.Test.YtcceeahmcecbnaaGreatDoorWTopOrder2
import Derived.Test.YtcceeahmcecbnaaGreatDoorRows
import Derived.Orders
import Derived.WalkKit
import Derived.LaidEql
import Derived.Stop.Asserts
import Derived.RowKitTokens
set_option linter.unusedVariables false
set_option linter.unusedSimpArgs false
set_option maxRecDepth 100000
set_option linter.unusedSectionVars false
namespace Go.Proofs.YtcceeahmcecbnaaGreatDoor
open Go.Sx Go.RowKit
abbrev zfq:FuncId:=20
abbrev zcd:FuncId:=54
abbrev zmm:FuncId:=59
abbrev zcX:FuncId:=60
abbrev zb3:FuncId:=62
abbrev zhp:FuncId:=63
abbrev ziO:FuncId:=64
abbrev zbA:FuncId:=65
abbrev zkp:FuncId:=73
abbrev zak:FuncId:=111
abbrev zaF:FuncId:=112
abbrev zcT:FuncId:=116
abbrev zaV:FuncId:=119
abbrev ze7:FuncId:=123
abbrev zhr:FuncId:=124
abbrev zko:FuncId:=125
abbrev zbO:FuncId:=166
abbrev zmn:FuncId:=169
abbrev zhq:FuncId:=170
def zt0 (h:Option Addr) (t aq:Nat) (ae:World) (e:Value->World->Prop):Prop:=
 ((30<(t:Int))->∀ l,Ext ae l->e (.int .i64 2) l)/\(((t:Int)<=30)->∀ l,Ext ae l->Run Tryz.prog (.makeMap 199) l fun ag W=>Ext l W/\∃ z,ag=z/\∃ (N:Int->World->Prop) (Z:Int->World->Nat),N 0 W/\∀ (a:Int) (b:World),N a b->(((a<(t:Int))->h≠none/\(0:Int)<=a/\(a:Int)<(t:Int)/\(pIdx h a 8)≠none/\∃ u,cell b (pIdx h a 8) 0=some (.string u)/\∃ q m af,cell b (pIdx h a 8) 1=some (.slice q m af)/\∃ A,cell b (pIdx h a 8) 2=some (.int .i64 A)/\∃ B,cell b (pIdx h a 8) 3=some (.int .i64 B)/\∃ C,cell b (pIdx h a 8) 4=some (.int .i64 C)/\∃ P,cell b (pIdx h a 8) 5=some (.int .i64 P)/\∃ R,cell b (pIdx h a 8) 6=some (.int .i64 R)/\∃ S,cell b (pIdx h a 8) 7=some (.int .i64 S)/\∀ n:Nat,b.heap.size<=n->∃ (aa:World->Prop),(∀ k,Ext b k->FnP Tryz.prog zbo #[(.string u)] k fun X y=>Ext k y/\∃ D,X=(.bool D)/\((D=false)->∀ i,Ext b i->e (.int .i64 3) i)/\((D=true)->∀ i,Ext b i->Run Tryz.prog (.lookup 199 z (.string u) false) i fun ah ai=>Ext i ai/\∃ E,ah=(.bool E)/\((E=true)->∀ r,Ext b r->e (.int .i64 6) r)/\((E=false)->((8<(m:Int))->∀ r,Ext b r->e (.int .i64 2) r)/\(((m:Int)<=8)->aa  b))))/\∀  (w18:World),aa  w18->∀ k,zag [] [n] w18 k->Run Tryz.prog (.mapUpdate 199 z (.string u) (.bool true)) k fun X y=>zbQ [n] k y/\∀ F,zag [] [n] y F->Run Tryz.prog (.makeMap 199) F fun aj i=>Ext F i/\∃ G,aj=G/\∃ (O:Int->World->Prop) (ab:Int->World->Nat),O 0 i/\∀ (d:Int) (c:World),O d c->(((d<(m:Int))->q≠none/\(0:Int)<=d/\(d:Int)<(m:Int)/\(pIdx q d 2)≠none/\∃ v,cell c (pIdx q d 2) 0=some (.string v)/\∃ T,cell c (pIdx q d 2) 1=some (.string T)/\∀ H:Nat,c.heap.size<=H->∃ (ac:World->Prop),(∀ j,Ext c j->FnP Tryz.prog zbo #[(.string v)] j fun Y s=>Ext j s/\∃ I,Y=(.bool I)/\((I=false)->∀ f,Ext c f->e (.int .i64 3) f)/\((I=true)->∀ f,Ext c f->FnP Tryz.prog zbo #[(.string T)] f fun ak g=>Ext f g/\∃ J,ak=(.bool J)/\((J=false)->∀ o,Ext c o->e (.int .i64 3) o)/\((J=true)->∀ o,Ext c o->Run Tryz.prog (.lookup 199 G (.string v) false) o fun al am=>Ext o am/\∃ K,al=(.bool K)/\((K=true)->∀ U,Ext c U->e (.int .i64 6) U)/\((K=false)->ac  c))))/\∀  (p:World),ac  p->∀ j,zag [] [n,H] p j->Run Tryz.prog (.mapUpdate 199 G (.string v) (.bool true)) j fun Y s=>zbQ [n,H] j s/\InR .i64 (d+1)/\(O (d+1) s/\ab (d+1) s<ab d c)))/\(((m:Int)<=d)->∀ L,Ext c L->FnP Tryz.prog zhu #[(.agg #[(.int .i64 P),(.int .i64 R),(.int .i64 S)]),(.agg #[(.int .i64 A),(.int .i64 B),(.int .i64 C)])] L fun an ao=>Ext L ao/\∃ M w,an=(.tuple #[(.bool M),(.int .i64 w)])/\∀ p,Ext c p->FnP Tryz.prog zbi #[(.agg #[(.int .i64 A),(.int .i64 B),(.int .i64 C)])] p fun ap j=>Ext p j/\∃ x,ap=(.int .i64 x)/\∃ (ad:World->Prop),(((x≠0)->∀ g,Ext c g->e (.int .i64 x) g)/\((x=0)->((w≠0)->∀ g,Ext c g->e (.int .i64 w) g)/\((w=0)->((M=false)->∀ g,Ext c g->e (.int .i64 10) g)/\((M=true)->ad  c))))/\∀  (f:World),ad  f->InR .i64 (a+1)/\(N (a+1) f/\Z (a+1) f<Z a b))))/\(((t:Int)<=a)->∀ V,Ext b V->e (.int .i64 0) V))
theorem zlR (a:Option Addr) (b c:Nat) (d:World) (e:Value->World->Prop) (h:zt0 a b c d e):FnP Tryz.prog zcd #[(.slice a b c)] d e:=
 zab (Eq.mp (by kernel_rfl:_=Runs Tryz.prog e ({N:=91,joins:=[(2,[]),(5,[]),(6,[])]}:Cfg) Tryz.f54 (Tryz.f54.body.getD .skip) [.sc (.slc a b c)] d) h) Tryz.func54 (by kernel_rfl) (fun a w=>Tryz.call54 a w) (by kernel_rfl) (by kernel_rfl) rfl rfl
def zyE (v:Option Addr) (w x:Nat) (y:World) (z:Value->World->Prop):Prop:=
 ∀ e,Ext y e->FnP Tryz.prog zak #[(.slice v w x)] e fun t p=>Ext e p/\∃ b c h,t=(.slice b c h)/\∃ (g:Int->World->Prop) (s:Int->World->Nat),g 0 p/\∀ (a:Int) (d:World),g a d->(((a<(c:Int))->b≠none/\(0:Int)<=a/\(a:Int)<(c:Int)/\(pIdx b a 8)≠none/\∃ i j k,cell d (pAdd (pIdx b a 8) 1) 0=some (.slice i j k)/\∀ f,Ext d f->FnP Tryz.prog zaF #[(.slice i j k)] f fun u q=>Ext f q/\∃ l m n,u=(.slice l m n)/\b≠none/\(0:Int)<=a/\(a:Int)<(c:Int)/\(pIdx b a 8)≠none/\zao q (pAdd (pIdx b a 8) 1) [(.slice l m n)] [] fun r=>InR .i64 (a+1)/\(g (a+1) r/\s (a+1) r<s a d)))/\(((c:Int)<=a)->∀ o,Ext d o->z (.slice b c h) o)
theorem zxY (a:Option Addr) (b c:Nat) (d:World) (e:Value->World->Prop) (h:zyE a b c d e):FnP Tryz.prog zmn #[(.slice a b c)] d e:=
 zab (Eq.mp (by kernel_rfl:_=Runs Tryz.prog e ({N:=23}:Cfg) Tryz.f169 (Tryz.f169.body.getD .skip) [.sc (.slc a b c)] d) h) Tryz.func169 (by kernel_rfl) (fun a w=>Tryz.call169 a w) (by kernel_rfl) (by kernel_rfl) rfl rfl
def zrz (c:Option Addr) (g E:Nat) (a:Int) (L:Value) (b:World) (j:Value->World->Prop):Prop:=
 ∀ k,Ext b k->FnP Tryz.prog zcd #[(.slice c g E)] k fun F G=>Ext k G/\∃ h,F=(.int .i64 h)/\((h≠0)->∀ e,Ext b e->j (.tuple #[(.slice none 0 0),(.int .i64 h)]) e)/\((h=0)->(((a<0)\/((g:Int)<=a))->∀ e,Ext b e->j (.tuple #[(.slice none 0 0),(.int .i64 5)]) e)/\(((0<=a)/\(a<(g:Int)))->c≠none/\(0:Int)<=a/\(a:Int)<(g:Int)/\(pIdx c a 8)≠none/\∃ o,cell b (pIdx c a 8) 0=some (.string o)/\∃ p q r,cell b (pIdx c a 8) 1=some (.slice p q r)/\∃ s,cell b (pIdx c a 8) 2=some (.int .i64 s)/\∃ t,cell b (pIdx c a 8) 3=some (.int .i64 t)/\∃ u,cell b (pIdx c a 8) 4=some (.int .i64 u)/\∃ v,cell b (pIdx c a 8) 5=some (.int .i64 v)/\∃ w,cell b (pIdx c a 8) 6=some (.int .i64 w)/\∃ x,cell b (pIdx c a 8) 7=some (.int .i64 x)/\∀ l,Ext b l->zin Tryz.prog L [(.agg #[(.string o),(.slice p q r),(.int .i64 s),(.int .i64 t),(.int .i64 u),(.int .i64 v),(.int .i64 w),(.int .i64 x)])] l fun H I=>Ext l I/\∃ y z A i,H=(.tuple #[(.agg #[(.int .i64 y),(.int .i64 z),(.int .i64 A)]),(.int .i64 i)])/\∀ m:Nat,b.heap.size<=m->((i≠0)->∀ d,Ext b d->j (.tuple #[(.slice none 0 0),(.int .i64 i)]) d)/\((i=0)->∀ d,zag [] [m] b d->FnP Tryz.prog zmn #[(.slice c g E)] d fun J D=>Ext d D/\∃ f n B,J=(.slice f n B)/\f≠none/\(0:Int)<=a/\(a:Int)<(n:Int)/\(pIdx f a 8)≠none/\zao D (pAdd (pIdx f a 8) 5) [(.int .i64 y),(.int .i64 z),(.int .i64 A)] [m] fun K=>∀ C,Ext K C->j (.tuple #[(.slice f n B),(.int .i64 0)]) C)))
theorem zq7 (a:Option Addr) (b c:Nat) (d:Int) (e:Value) (f:World) (g:Value->World->Prop) (h:zrz a b c d e f g):FnP Tryz.prog ze7 #[(.slice a b c),(.int .i64 d),e] f g:=
 zab (Eq.mp (by kernel_rfl:_=Runs Tryz.prog g ({N:=44}:Cfg) Tryz.f123 (Tryz.f123.body.getD .skip) [.sc (.slc a b c),.sc (.int .i64 d),.sc (.val e)] f) h) Tryz.func123 (by kernel_rfl) (fun a w=>Tryz.call123 a w) (by kernel_rfl) (by kernel_rfl) rfl rfl
def zwr (l:Option Addr) (m n:Nat) (o p q r:Int) (s:World) (t:Value->World->Prop):Prop:=
 ∀ b,Ext s b->New b 44 [(.int .i64 p),(.int .i64 q),(.int .i64 r)] fun i j=>∀ a,Ext j a->FnP Tryz.prog ze7 #[(.slice l m n),(.int .i64 o),(.func (.func 124) #[] #[(.pointer i)])] a fun k h=>Ext a h/\∃ c d e f,k=(.tuple #[(.slice c d e),(.int .i64 f)])/\∀ g,Ext h g->t (.tuple #[(.slice c d e),(.int .i64 f)]) g
theorem zvA (a:Option Addr) (b c:Nat) (d e f g:Int) (i:World) (j:Value->World->Prop) (h:zwr a b c d e f g i j):FnP Tryz.prog zkp #[(.slice a b c),(.int .i64 d),(.agg #[(.int .i64 e),(.int .i64 f),(.int .i64 g)])] i j:=
 zab (Eq.mp (by kernel_rfl:_=Runs Tryz.prog j ({N:=14,pub:=[5]}:Cfg) Tryz.f73 (Tryz.f73.body.getD .skip) [.sc (.slc a b c),.sc (.int .i64 d),.agg [.int .i64 e,.int .i64 f,.int .i64 g]] i) h) Tryz.func73 (by kernel_rfl) (fun a w=>Tryz.call73 a w) (by kernel_rfl) (by kernel_rfl) rfl rfl
def zry (R:ByteArray) (S:Option Addr) (T U:Nat) (N O P v w x:Int) (b:Option Addr) (a:World) (y:Value->World->Prop):Prop:=
 ∀ z:Nat,a.heap.size<=z->∀ A:Nat,a.heap.size<=A->∀ d,Ext a d->FnP Tryz.prog zcw #[(.agg #[(.int .i64 N),(.int .i64 O),(.int .i64 P)]),(.agg #[(.int .i64 v),(.int .i64 w),(.int .i64 x)])] d fun H I=>Ext d I/\∃ g h i B,H=(.tuple #[(.agg #[(.int .i64 g),(.int .i64 h),(.int .i64 i)]),(.int .i64 B)])/\∀ C:Nat,a.heap.size<=C->b≠none/\∃ j,cell a b 0=some (.int .i64 j)/\∃ k,cell a b 1=some (.int .i64 k)/\∃ l,cell a b 2=some (.int .i64 l)/\∀ e,Ext a e->FnP Tryz.prog zcw #[(.agg #[(.int .i64 g),(.int .i64 h),(.int .i64 i)]),(.agg #[(.int .i64 j),(.int .i64 k),(.int .i64 l)])] e fun J K=>Ext e K/\∃ D E F c,J=(.tuple #[(.agg #[(.int .i64 D),(.int .i64 E),(.int .i64 F)]),(.int .i64 c)])/\∀ G:Nat,a.heap.size<=G->((c≠0)->∀ m,Ext a m->y (.tuple #[(.agg #[(.int .i64 0),(.int .i64 0),(.int .i64 0)]),(.int .i64 c)]) m)/\((c=0)->b≠none/\∃ n,cell a b 0=some (.int .i64 n)/\∃ o,cell a b 1=some (.int .i64 o)/\∃ p,cell a b 2=some (.int .i64 p)/\∀ f,Ext a f->FnP Tryz.prog zjz #[(.agg #[(.int .i64 v),(.int .i64 w),(.int .i64 x)]),(.agg #[(.int .i64 n),(.int .i64 o),(.int .i64 p)])] f fun L M=>Ext f M/\∃ q r s t,L=(.tuple #[(.agg #[(.int .i64 q),(.int .i64 r),(.int .i64 s)]),(.int .i64 t)])/\∀ u,Ext a u->y (.tuple #[(.agg #[(.int .i64 q),(.int .i64 r),(.int .i64 s)]),(.int .i64 t)]) u)
theorem zq6 (a:ByteArray) (b:Option Addr) (c d:Nat) (e f g i j k:Int) (l:Option Addr) (m:World) (n:Value->World->Prop) (h:zry a b c d e f g i j k l m n):FnP Tryz.prog zhr #[(.agg #[(.string a),(.slice b c d),(.int .i64 e),(.int .i64 f),(.int .i64 g),(.int .i64 i),(.int .i64 j),(.int .i64 k)]),(.pointer l)] m n:=
 zab (Eq.mp (by kernel_rfl:_=Runs Tryz.prog n ({N:=33}:Cfg) Tryz.f124 (Tryz.f124.body.getD .skip) [.agg [.str a,.slc b c d,.int .i64 e,.int .i64 f,.int .i64 g,.int .i64 i,.int .i64 j,.int .i64 k],.sc (.ptr l)] m) h) Tryz.func124 (by kernel_rfl) (fun a w=>Tryz.call124 a w) (by kernel_rfl) (by kernel_rfl) rfl rfl
def zwq (l:Option Addr) (m n:Nat) (o p q r:Int) (s:World) (t:Value->World->Prop):Prop:=
 ∀ b,Ext s b->New b 44 [(.int .i64 p),(.int .i64 q),(.int .i64 r)] fun i j=>∀ a,Ext j a->FnP Tryz.prog ze7 #[(.slice l m n),(.int .i64 o),(.func (.func 170) #[] #[(.pointer i)])] a fun k h=>Ext a h/\∃ c d e f,k=(.tuple #[(.slice c d e),(.int .i64 f)])/\∀ g,Ext h g->t (.tuple #[(.slice c d e),(.int .i64 f)]) g
theorem zvz (a:Option Addr) (b c:Nat) (d e f g:Int) (i:World) (j:Value->World->Prop) (h:zwq a b c d e f g i j):FnP Tryz.prog zko #[(.slice a b c),(.int .i64 d),(.agg #[(.int .i64 e),(.int .i64 f),(.int .i64 g)])] i j:=
 zab (Eq.mp (by kernel_rfl:_=Runs Tryz.prog j ({N:=14,pub:=[5]}:Cfg) Tryz.f125 (Tryz.f125.body.getD .skip) [.sc (.slc a b c),.sc (.int .i64 d),.agg [.int .i64 e,.int .i64 f,.int .i64 g]] i) h) Tryz.func125 (by kernel_rfl) (fun a w=>Tryz.call125 a w) (by kernel_rfl) (by kernel_rfl) rfl rfl
def zrx (t:ByteArray) (u:Option Addr) (v w:Nat) (x y z p q r:Int) (b:Option Addr) (a:World) (s:Value->World->Prop):Prop:=
 ∀ l:Nat,a.heap.size<=l->∀ m:Nat,a.heap.size<=m->b≠none/\∃ d,cell a b 0=some (.int .i64 d)/\∃ e,cell a b 1=some (.int .i64 e)/\∃ f,cell a b 2=some (.int .i64 f)/\∀ c,Ext a c->FnP Tryz.prog zcw #[(.agg #[(.int .i64 p),(.int .i64 q),(.int .i64 r)]),(.agg #[(.int .i64 d),(.int .i64 e),(.int .i64 f)])] c fun n o=>Ext c o/\∃ g h i j,n=(.tuple #[(.agg #[(.int .i64 g),(.int .i64 h),(.int .i64 i)]),(.int .i64 j)])/\∀ k,Ext a k->s (.tuple #[(.agg #[(.int .i64 g),(.int .i64 h),(.int .i64 i)]),(.int .i64 j)]) k
theorem zq5 (a:ByteArray) (b:Option Addr) (c d:Nat) (e f g i j k:Int) (l:Option Addr) (m:World) (n:Value->World->Prop) (h:zrx a b c d e f g i j k l m n):FnP Tryz.prog zhq #[(.agg #[(.string a),(.slice b c d),(.int .i64 e),(.int .i64 f),(.int .i64 g),(.int .i64 i),(.int .i64 j),(.int .i64 k)]),(.pointer l)] m n:=
 zab (Eq.mp (by kernel_rfl:_=Runs Tryz.prog n ({N:=11}:Cfg) Tryz.f170 (Tryz.f170.body.getD .skip) [.agg [.str a,.slc b c d,.int .i64 e,.int .i64 f,.int .i64 g,.int .i64 i,.int .i64 j,.int .i64 k],.sc (.ptr l)] m) h) Tryz.func170 (by kernel_rfl) (fun a w=>Tryz.call170 a w) (by kernel_rfl) (by kernel_rfl) rfl rfl
def zyD (c:Option Addr) (s aD:Nat) (aa:Int) (ab ac:ByteArray) (ad:Int) (ae:Option Addr) (af ag:Nat) (ah ai aj:Int) (d:World) (t:Value->World->Prop):Prop:=
 ∀ j:Nat,d.heap.size<=j->∀ k:Nat,d.heap.size<=k->∀ u,Ext d u->FnP Tryz.prog zcd #[(.slice c s aD)] u fun an ao=>Ext u ao/\∃ l,an=(.int .i64 l)/\((l≠0)->∀ h,Ext d h->t (.tuple #[(.slice none 0 0),(.int .i64 l)]) h)/\((l=0)->∀ h,Ext d h->FnP Tryz.prog zee #[(.agg #[(.int .i64 aa),(.string ab),(.string ac),(.int .i64 ad),(.slice ae af ag)])] h fun ap aq=>Ext h aq/\∃ m,ap=(.int .i64 m)/\((m≠0)->∀ i,Ext d i->t (.tuple #[(.slice none 0 0),(.int .i64 m)]) i)/\((m=0)->∀ i,Ext d i->FnP Tryz.prog zbi #[(.agg #[(.int .i64 ah),(.int .i64 ai),(.int .i64 aj)])] i fun ar au=>Ext i au/\∃ n,ar=(.int .i64 n)/\((n≠0)->∀ M,Ext d M->t (.tuple #[(.slice none 0 0),(.int .i64 n)]) M)/\((n=0)->∃ (q:Option Addr->Nat->Nat->Int->World->Prop) (r:Option Addr->Nat->Nat->Int->World->Nat),q none 0 0 0 d/\∀ (e:Option Addr) (f:Nat) (g:Nat) (a:Int) (b:World),q e f g a b->(((a<(s:Int))->c≠none/\(0:Int)<=a/\(a:Int)<(s:Int)/\(pIdx c a 8)≠none/\∃ N,cell b (pIdx c a 8) 0=some (.string N)/\∃ O P R,cell b (pIdx c a 8) 1=some (.slice O P R)/\∃ v,cell b (pIdx c a 8) 2=some (.int .i64 v)/\∃ w,cell b (pIdx c a 8) 3=some (.int .i64 w)/\∃ x,cell b (pIdx c a 8) 4=some (.int .i64 x)/\∃ y,cell b (pIdx c a 8) 5=some (.int .i64 y)/\∃ z,cell b (pIdx c a 8) 6=some (.int .i64 z)/\∃ A,cell b (pIdx c a 8) 7=some (.int .i64 A)/\∀ o:Nat,b.heap.size<=o->∀ B,Ext b B->FnP Tryz.prog zcw #[(.agg #[(.int .i64 v),(.int .i64 w),(.int .i64 x)]),(.agg #[(.int .i64 y),(.int .i64 z),(.int .i64 A)])] B fun av aw=>Ext B aw/\∃ S T U ak,av=(.tuple #[(.agg #[(.int .i64 S),(.int .i64 T),(.int .i64 U)]),(.int .i64 ak)])/\∀ p:Nat,b.heap.size<=p->∀ C,Ext b C->FnP Tryz.prog zkl #[(.agg #[(.int .i64 aa),(.string ab),(.string ac),(.int .i64 ad),(.slice ae af ag)]),(.agg #[(.string N),(.slice O P R),(.int .i64 v),(.int .i64 w),(.int .i64 x),(.int .i64 y),(.int .i64 z),(.int .i64 A)])] C fun ax ay=>Ext C ay/\∃ D al,ax=(.tuple #[(.bool D),(.int .i64 al)])/\∀ E,Ext b E->FnP Tryz.prog zhu #[(.agg #[(.int .i64 ah),(.int .i64 ai),(.int .i64 aj)]),(.agg #[(.int .i64 S),(.int .i64 T),(.int .i64 U)])] E fun az aA=>Ext E aA/\∃ F am,az=(.tuple #[(.bool F),(.int .i64 am)])/\((((D=true)/\(F=true))->∀ G,zag [] [j,k,o,p] b G->Run Tryz.prog (.buildSlice 48 1 [(0,(.int .i64 a))]) G fun aB Z=>Ext G Z/\∃ V W X,aB=(.slice V W X)/\∀ H,zag [] [j,k,o,p] Z H->Run Tryz.prog (.append #[48,48] 48 [(.slice e f g),(.slice V W X)]) H fun aC L=>zbQ [j,k,o,p] H L/\∃ I J K,aC=(.slice I J K)/\InR .i64 (a+1)/\(q I J K (a+1) L/\r I J K (a+1) L<r e f g a b)))/\(((D=false)\/(F=false))->InR .i64 (a+1)/\(q e f g (a+1) b/\r e f g (a+1) b<r e f g a b))))/\(((s:Int)<=a)->∀ Y,Ext b Y->t (.tuple #[(.slice e f g),(.int .i64 0)]) Y))))
theorem zxX (a:Option Addr) (b c:Nat) (d:Int) (e f:ByteArray) (g:Int) (i:Option Addr) (j k:Nat) (l m n:Int) (o:World) (p:Value->World->Prop) (h:zyD a b c d e f g i j k l m n o p):FnP Tryz.prog zmm #[(.slice a b c),(.agg #[(.int .i64 d),(.string e),(.string f),(.int .i64 g),(.slice i j k)]),(.agg #[(.int .i64 l),(.int .i64 m),(.int .i64 n)])] o p:=
 zab (Eq.mp (by kernel_rfl:_=Runs Tryz.prog p ({N:=72}:Cfg) Tryz.f59 (Tryz.f59.body.getD .skip) [.sc (.slc a b c),.agg [.int .i64 d,.str e,.str f,.int .i64 g,.slc i j k],.agg [.int .i64 l,.int .i64 m,.int .i64 n]] o) h) Tryz.func59 (by kernel_rfl) (fun a w=>Tryz.call59 a w) (by kernel_rfl) (by kernel_rfl) rfl rfl
def zwo (z:Option Addr) (A B:Nat) (C:Int) (D E:ByteArray) (F:Int) (G:Option Addr) (H I:Nat) (J K L:Int) (M:World) (j:Value->World->Prop):Prop:=
 ∀ k,Ext M k->New k 34 [(.slice z A B)] fun s f=>∀ b:Nat,f.heap.size<=b->∀ c:Nat,f.heap.size<=c->∃ l m n,cell f s 0=some (.slice l m n)/\∀ h,zag [] [b,c] f h->FnP Tryz.prog zmm #[(.slice l m n),(.agg #[(.int .i64 C),(.string D),(.string E),(.int .i64 F),(.slice G H I)]),(.agg #[(.int .i64 J),(.int .i64 K),(.int .i64 L)])] h fun v g=>Ext h g/\∃ o d p e,v=(.tuple #[(.slice o d p),(.int .i64 e)])/\((e≠0)->∀ a,Ext g a->j (.tuple #[(.int .i64 0),(.int .i64 e)]) a)/\((e=0)->(((d:Int)=0)->∀ a,Ext g a->j (.tuple #[(.int .i64 0),(.int .i64 5)]) a)/\(((d:Int)≠0)->∀ a,zag [] [b,c] g a->New a 131 [.nilFunc] fun t w=>zao w t [(.func (.func 60) #[] #[(.pointer s)])] [b,c] fun u=>∀ i,Ext u i->FnP Tryz.prog zb3 #[(.slice o d p),(.func (.func 63) #[] #[(.pointer t)])] i fun x y=>Ext i y/\∃ q,x=(.int .i64 q)/\∀ r,Ext u r->j (.tuple #[(.int .i64 q),(.int .i64 0)]) r))
theorem zvx (a:Option Addr) (b c:Nat) (d:Int) (e f:ByteArray) (g:Int) (i:Option Addr) (j k:Nat) (l m n:Int) (o:World) (p:Value->World->Prop) (h:zwo a b c d e f g i j k l m n o p):FnP Tryz.prog zfq #[(.slice a b c),(.agg #[(.int .i64 d),(.string e),(.string f),(.int .i64 g),(.slice i j k)]),(.agg #[(.int .i64 l),(.int .i64 m),(.int .i64 n)])] o p:=
 zab (Eq.mp (by kernel_rfl:_=Runs Tryz.prog p ({N:=30,pub:=[3,10]}:Cfg) Tryz.f20 (Tryz.f20.body.getD .skip) [.sc (.slc a b c),.agg [.int .i64 d,.str e,.str f,.int .i64 g,.slc i j k],.agg [.int .i64 l,.int .i64 m,.int .i64 n]] o) h) Tryz.func20 (by kernel_rfl) (fun a w=>Tryz.call20 a w) (by kernel_rfl) (by kernel_rfl) rfl rfl
def zrv (a:Int) (I:Option Addr) (b:World) (R:Value->World->Prop):Prop:=
 ∀ e:Nat,b.heap.size<=e->∃ (r:Option Addr->Int->World->Prop),(∃ c s J,cell b I 0=some (.slice c s J)/\c≠none/\(0:Int)<=a/\(a:Int)<(s:Int)/\(pIdx c a 8)≠none/\(pAdd (pIdx c a 8) 2)≠none/\∃ j,cell b (pAdd (pIdx c a 8) 2) 0=some (.int .i64 j)/\∃ k,cell b (pAdd (pIdx c a 8) 2) 1=some (.int .i64 k)/\∃ l,cell b (pAdd (pIdx c a 8) 2) 2=some (.int .i64 l)/\∃ d t K,cell b I 0=some (.slice d t K)/\d≠none/\(0:Int)<=a/\(a:Int)<(t:Int)/\(pIdx d a 8)≠none/\(pAdd (pIdx d a 8) 5)≠none/\∃ m,cell b (pAdd (pIdx d a 8) 5) 0=some (.int .i64 m)/\∃ n,cell b (pAdd (pIdx d a 8) 5) 1=some (.int .i64 n)/\∃ o,cell b (pAdd (pIdx d a 8) 5) 2=some (.int .i64 o)/\(∀ f,Ext b f->FnP Tryz.prog zcw #[(.agg #[(.int .i64 j),(.int .i64 k),(.int .i64 l)]),(.agg #[(.int .i64 m),(.int .i64 n),(.int .i64 o)])] f fun L i=>Ext f i/\∃ u v w x,L=(.tuple #[(.agg #[(.int .i64 u),(.int .i64 v),(.int .i64 w)]),(.int .i64 x)])/\∀ y,zag [] [e] b y->New y 44 [(.int .i64 0),(.int .i64 0),(.int .i64 0)] fun G M=>zao M G [(.int .i64 u),(.int .i64 v),(.int .i64 w)] [e] fun q=>r G x q)/\∀ f,zag [] [e] b f->New f 44 [(.int .i64 0),(.int .i64 0),(.int .i64 0)] fun H i=>∀ p,Ext i p->FnP Tryz.prog zcw #[(.agg #[(.int .i64 j),(.int .i64 k),(.int .i64 l)]),(.agg #[(.int .i64 m),(.int .i64 n),(.int .i64 o)])] p fun N O=>Ext p O/\∃ z A B C,N=(.tuple #[(.agg #[(.int .i64 z),(.int .i64 A),(.int .i64 B)]),(.int .i64 C)])/\zao i H [(.int .i64 z),(.int .i64 A),(.int .i64 B)] [e] fun q=>r H C q)/\∀ (g:Option Addr) (P:Int) (h:World),r g P h->g≠none/\∃ c,cell h g 0=some (.int .i64 c)/\∃ D,cell h g 1=some (.int .i64 D)/\∃ E,cell h g 2=some (.int .i64 E)/\∀ F,zag [e] [] h F->R (.agg #[(.int .i64 c),(.int .i64 D),(.int .i64 E)]) F
theorem zq3 (a:Int) (b:Option Addr) (c:World) (d:Value->World->Prop) (h:zrv a b c d):FnP Tryz.prog zcX #[(.int .i64 a),(.pointer b)] c d:=
 zab (Eq.mp (by kernel_rfl:_=Runs Tryz.prog d ({N:=21,pub:=[4]}:Cfg) Tryz.f60 (Tryz.f60.body.getD .skip) [.sc (.int .i64 a),.sc (.ptr b)] c) h) Tryz.func60 (by kernel_rfl) (fun a w=>Tryz.call60 a w) (by kernel_rfl) (by kernel_rfl) rfl rfl
def zrw (X A:Int) (ap:Option Addr) (B:World) (ay:Value->World->Prop):Prop:=
 ∃ (r:Option Addr->Option Addr->World->Prop),(∃ C,cell B ap 0=some C/\∃ l,cell B ap 0=some l/\(∀ D,Ext B D->zin Tryz.prog C [(.int .i64 X)] D fun aq p=>Ext D p/\∃ H I J,aq=(.agg #[(.int .i64 H),(.int .i64 I),(.int .i64 J)])/\(∀ m,Ext B m->zin Tryz.prog l [(.int .i64 A)] m fun ar E=>Ext m E/\∃ Y Z aa,ar=(.agg #[(.int .i64 Y),(.int .i64 Z),(.int .i64 aa)])/\(∀ e,Ext B e->New e 44 [(.int .i64 0),(.int .i64 0),(.int .i64 0)] fun T U=>∀ g,Ext U g->New g 44 [(.int .i64 0),(.int .i64 0),(.int .i64 0)] fun k n=>zao n T [(.int .i64 H),(.int .i64 I),(.int .i64 J)] [] fun b=>zao b k [(.int .i64 Y),(.int .i64 Z),(.int .i64 aa)] [] fun d=>r T k d)/\∀ e,Ext B e->New e 44 [(.int .i64 0),(.int .i64 0),(.int .i64 0)] fun T U=>∀ g,Ext U g->New g 44 [(.int .i64 0),(.int .i64 0),(.int .i64 0)] fun k n=>zao n k [(.int .i64 H),(.int .i64 I),(.int .i64 J)] [] fun b=>zao b T [(.int .i64 Y),(.int .i64 Z),(.int .i64 aa)] [] fun d=>r k T d)/\(∀ m,Ext B m->New m 44 [(.int .i64 0),(.int .i64 0),(.int .i64 0)] fun F E=>(∀ a,Ext E a->zin Tryz.prog l [(.int .i64 A)] a fun G f=>Ext a f/\∃ s t u,G=(.agg #[(.int .i64 s),(.int .i64 t),(.int .i64 u)])/\∀ g,Ext E g->New g 44 [(.int .i64 0),(.int .i64 0),(.int .i64 0)] fun k n=>zao n F [(.int .i64 H),(.int .i64 I),(.int .i64 J)] [] fun b=>zao b k [(.int .i64 s),(.int .i64 t),(.int .i64 u)] [] fun d=>r F k d)/\∀ a,Ext E a->New a 44 [(.int .i64 0),(.int .i64 0),(.int .i64 0)] fun w f=>∀ c,Ext f c->zin Tryz.prog l [(.int .i64 A)] c fun x e=>Ext c e/\∃ h i j,x=(.agg #[(.int .i64 h),(.int .i64 i),(.int .i64 j)])/\zao f F [(.int .i64 H),(.int .i64 I),(.int .i64 J)] [] fun b=>zao b w [(.int .i64 h),(.int .i64 i),(.int .i64 j)] [] fun d=>r F w d)/\∀ m,Ext B m->New m 44 [(.int .i64 0),(.int .i64 0),(.int .i64 0)] fun F E=>(∀ a,Ext E a->zin Tryz.prog l [(.int .i64 A)] a fun G f=>Ext a f/\∃ s t u,G=(.agg #[(.int .i64 s),(.int .i64 t),(.int .i64 u)])/\∀ g,Ext E g->New g 44 [(.int .i64 0),(.int .i64 0),(.int .i64 0)] fun k n=>zao n k [(.int .i64 H),(.int .i64 I),(.int .i64 J)] [] fun b=>zao b F [(.int .i64 s),(.int .i64 t),(.int .i64 u)] [] fun d=>r k F d)/\∀ a,Ext E a->New a 44 [(.int .i64 0),(.int .i64 0),(.int .i64 0)] fun w f=>∀ c,Ext f c->zin Tryz.prog l [(.int .i64 A)] c fun x e=>Ext c e/\∃ h i j,x=(.agg #[(.int .i64 h),(.int .i64 i),(.int .i64 j)])/\zao f w [(.int .i64 H),(.int .i64 I),(.int .i64 J)] [] fun b=>zao b F [(.int .i64 h),(.int .i64 i),(.int .i64 j)] [] fun d=>r w F d)/\(∀ D,Ext B D->New D 44 [(.int .i64 0),(.int .i64 0),(.int .i64 0)] fun q p=>(∀ o,Ext p o->zin Tryz.prog C [(.int .i64 X)] o fun ac y=>Ext o y/\∃ K L M,ac=(.agg #[(.int .i64 K),(.int .i64 L),(.int .i64 M)])/\(∀ a,Ext p a->zin Tryz.prog l [(.int .i64 A)] a fun G f=>Ext a f/\∃ s t u,G=(.agg #[(.int .i64 s),(.int .i64 t),(.int .i64 u)])/\∀ g,Ext p g->New g 44 [(.int .i64 0),(.int .i64 0),(.int .i64 0)] fun k n=>zao n q [(.int .i64 K),(.int .i64 L),(.int .i64 M)] [] fun b=>zao b k [(.int .i64 s),(.int .i64 t),(.int .i64 u)] [] fun d=>r q k d)/\∀ a,Ext p a->New a 44 [(.int .i64 0),(.int .i64 0),(.int .i64 0)] fun w f=>∀ c,Ext f c->zin Tryz.prog l [(.int .i64 A)] c fun x e=>Ext c e/\∃ h i j,x=(.agg #[(.int .i64 h),(.int .i64 i),(.int .i64 j)])/\zao f q [(.int .i64 K),(.int .i64 L),(.int .i64 M)] [] fun b=>zao b w [(.int .i64 h),(.int .i64 i),(.int .i64 j)] [] fun d=>r q w d)/\∀ o,Ext p o->New o 44 [(.int .i64 0),(.int .i64 0),(.int .i64 0)] fun V y=>∀ v,Ext y v->zin Tryz.prog C [(.int .i64 X)] v fun W m=>Ext v m/\∃ P R S,W=(.agg #[(.int .i64 P),(.int .i64 R),(.int .i64 S)])/\∀ c,Ext y c->zin Tryz.prog l [(.int .i64 A)] c fun x e=>Ext c e/\∃ h i j,x=(.agg #[(.int .i64 h),(.int .i64 i),(.int .i64 j)])/\zao y q [(.int .i64 P),(.int .i64 R),(.int .i64 S)] [] fun b=>zao b V [(.int .i64 h),(.int .i64 i),(.int .i64 j)] [] fun d=>r q V d)/\∀ D,Ext B D->New D 44 [(.int .i64 0),(.int .i64 0),(.int .i64 0)] fun q p=>(∀ o,Ext p o->zin Tryz.prog C [(.int .i64 X)] o fun ac y=>Ext o y/\∃ K L M,ac=(.agg #[(.int .i64 K),(.int .i64 L),(.int .i64 M)])/\(∀ a,Ext p a->zin Tryz.prog l [(.int .i64 A)] a fun G f=>Ext a f/\∃ s t u,G=(.agg #[(.int .i64 s),(.int .i64 t),(.int .i64 u)])/\∀ g,Ext p g->New g 44 [(.int .i64 0),(.int .i64 0),(.int .i64 0)] fun k n=>zao n k [(.int .i64 K),(.int .i64 L),(.int .i64 M)] [] fun b=>zao b q [(.int .i64 s),(.int .i64 t),(.int .i64 u)] [] fun d=>r k q d)/\∀ a,Ext p a->New a 44 [(.int .i64 0),(.int .i64 0),(.int .i64 0)] fun w f=>∀ c,Ext f c->zin Tryz.prog l [(.int .i64 A)] c fun x e=>Ext c e/\∃ h i j,x=(.agg #[(.int .i64 h),(.int .i64 i),(.int .i64 j)])/\zao f w [(.int .i64 K),(.int .i64 L),(.int .i64 M)] [] fun b=>zao b q [(.int .i64 h),(.int .i64 i),(.int .i64 j)] [] fun d=>r w q d)/\∀ o,Ext p o->New o 44 [(.int .i64 0),(.int .i64 0),(.int .i64 0)] fun V y=>∀ v,Ext y v->zin Tryz.prog C [(.int .i64 X)] v fun W m=>Ext v m/\∃ P R S,W=(.agg #[(.int .i64 P),(.int .i64 R),(.int .i64 S)])/\∀ c,Ext y c->zin Tryz.prog l [(.int .i64 A)] c fun x e=>Ext c e/\∃ h i j,x=(.agg #[(.int .i64 h),(.int .i64 i),(.int .i64 j)])/\zao y V [(.int .i64 P),(.int .i64 R),(.int .i64 S)] [] fun b=>zao b q [(.int .i64 h),(.int .i64 i),(.int .i64 j)] [] fun d=>r V q d)/\∀ (N:Option Addr) (O:Option Addr) (z:World),r N O z->N≠none/\∃ C,cell z (pAdd N 0) 0=some (.int .i64 C)/\O≠none/\∃ l,cell z (pAdd O 0) 0=some (.int .i64 l)/\N≠none/\∃ ad,cell z (pAdd N 1) 0=some (.int .i64 ad)/\O≠none/\∃ ae,cell z (pAdd O 1) 0=some (.int .i64 ae)/\N≠none/\∃ af,cell z (pAdd N 2) 0=some (.int .i64 af)/\O≠none/\∃ ag,cell z (pAdd O 2) 0=some (.int .i64 ag)/\∀ v,Ext z v->FnP Tryz.prog zbA #[(.int .i64 C),(.int .i64 l)] v fun W m=>Ext v m/\∃ ah,W=(.int .i64 ah)/\∀ a,Ext z a->FnP Tryz.prog zbA #[(.int .i64 ad),(.int .i64 ae)] a fun G f=>Ext a f/\∃ ai,G=(.int .i64 ai)/\∀ e,Ext z e->FnP Tryz.prog zbA #[(.int .i64 af),(.int .i64 ag)] e fun au U=>Ext e U/\∃ aj,au=(.int .i64 aj)/\∀ n,Ext z n->Run Tryz.prog (.buildSlice 48 3 [(0,(.int .i64 ah)),(1,(.int .i64 ai)),(2,(.int .i64 aj))]) n fun av b=>Ext n b/\∃ ak al am,av=(.slice ak al am)/\∀ ab,Ext b ab->FnP Tryz.prog ziO #[(.slice ak al am)] ab fun aw ax=>Ext ab ax/\∃ an,aw=(.int .i64 an)/\∀ ao,Ext b ao->ay (.int .i64 an) ao
theorem zq4 (a b:Int) (c:Option Addr) (d:World) (e:Value->World->Prop) (h:zrw a b c d e):FnP Tryz.prog zhp #[(.int .i64 a),(.int .i64 b),(.pointer c)] d e:=
 zab (Eq.mp (by kernel_rfl:_=Runs Tryz.prog e ({N:=31,pub:=[6,7]}:Cfg) Tryz.f63 (Tryz.f63.body.getD .skip) [.sc (.int .i64 a),.sc (.int .i64 b),.sc (.ptr c)] d) h) Tryz.func63 (by kernel_rfl) (fun a w=>Tryz.call63 a w) (by kernel_rfl) (by kernel_rfl) rfl rfl
def zgO (e:Option Addr) (d w:Nat) (u:Value) (l:World) (v:Value->World->Prop):Prop:=
 ((((d:Int)<1)->∀ h,Ext l h->Run Tryz.prog (.makeInterface 9 (.string (⟨#[115,108,105,99,101,115,46,77,105,110,70,117,110,99,58,32,101,109,112,116,121,32,108,105,115,116]⟩:ByteArray))) h fun q r=>Ext h r/\∃ p,q=p/\zEQ))/\((1<=(d:Int))->e≠none/\(0:Int)<=0/\(0:Int)<(d:Int)/\∃ m,cell l (pIdx e 0 1) 0=some (.int .i64 m)/\∃ (f:Int->Int->World->Prop) (g:Int->Int->World->Nat),f m 1 l/\∀ (c:Int) (a:Int) (b:World),f c a b->(((a<(d:Int))->e≠none/\(0:Int)<=a/\(a:Int)<(d:Int)/\∃ n,cell b (pIdx e a 1) 0=some (.int .i64 n)/\∀ i,Ext b i->zin Tryz.prog u [(.int .i64 n),(.int .i64 c)] i fun s t=>Ext i t/\∃ j,s=(.int .i64 j)/\(((j<0)->e≠none/\(0:Int)<=a/\(a:Int)<(d:Int)/\∃ k,cell b (pIdx e a 1) 0=some (.int .i64 k)/\InR .i64 (a+1)/\(f k (a+1) b/\g k (a+1) b<g c a b)))/\((0<=j)->InR .i64 (a+1)/\(f c (a+1) b/\g c (a+1) b<g c a b))))/\(((d:Int)<=a)->∀ o,Ext b o->v (.int .i64 c) o))
theorem zgE (a:Option Addr) (b c:Nat) (d:Value) (e:World) (f:Value->World->Prop) (h:zgO a b c d e f):FnP Tryz.prog zb3 #[(.slice a b c),d] e f:=
 zab (Eq.mp (by kernel_rfl:_=Runs Tryz.prog f ({N:=33}:Cfg) Tryz.f62 (Tryz.f62.body.getD .skip) [.sc (.slc a b c),.sc (.val d)] e) h) Tryz.func62 (by kernel_rfl) (fun a w=>Tryz.call62 a w) (by kernel_rfl) (by kernel_rfl) rfl rfl
def ztU (i:Option Addr) (e l:Nat) (k:World) (j:Value->World->Prop):Prop:=
 ∃ (d:Int->World->Prop) (h:Int->World->Nat),d 0 k/\∀ (a:Int) (b:World),d a b->(((a<(e:Int))->i≠none/\(0:Int)<=a/\(a:Int)<(e:Int)/\∃ c,cell b (pIdx i a 1) 0=some (.int .i64 c)/\((c≠0)->∀ f,Ext b f->j (.int .i64 c) f)/\((c=0)->InR .i64 (a+1)/\(d (a+1) b/\h (a+1) b<h a b))))/\(((e:Int)<=a)->∀ g,Ext b g->j (.int .i64 0) g)
theorem ztk (a:Option Addr) (b c:Nat) (d:World) (e:Value->World->Prop) (h:ztU a b c d e):FnP Tryz.prog ziO #[(.slice a b c)] d e:=
 zab (Eq.mp (by kernel_rfl:_=Runs Tryz.prog e ({N:=18}:Cfg) Tryz.f64 (Tryz.f64.body.getD .skip) [.sc (.slc a b c)] d) h) Tryz.func64 (by kernel_rfl) (fun a w=>Tryz.call64 a w) (by kernel_rfl) (by kernel_rfl) rfl rfl
def zj2 (e f:Int) (b:World) (c:Value->World->Prop):Prop:=
 ∀ g,Ext b g->FnP Tryz.prog zcT #[(.int .i64 e)] g fun j k=>Ext g k/\∃ h,j=(.bool h)/\∀ i,Ext b i->FnP Tryz.prog zcT #[(.int .i64 f)] i fun l m=>Ext i m/\∃ d,l=(.bool d)/\(((h=true)->((d=true)->∀ a,Ext b a->c (.int .i64 0) a)/\((d=false)->∀ a,Ext b a->c (.int .i64 (-1)) a)))/\((h=false)->((d=true)->∀ a,Ext b a->c (.int .i64 1) a)/\((d=false)->((e<f)->∀ a,Ext b a->c (.int .i64 (-1)) a)/\((f<=e)->((f<e)->∀ a,Ext b a->c (.int .i64 1) a)/\((e<=f)->∀ a,Ext b a->c (.int .i64 0) a))))
theorem zjW (a b:Int) (c:World) (d:Value->World->Prop) (h:zj2 a b c d):FnP Tryz.prog zbA #[(.int .i64 a),(.int .i64 b)] c d:=
 zab (Eq.mp (by kernel_rfl:_=Runs Tryz.prog d ({N:=20}:Cfg) Tryz.f65 (Tryz.f65.body.getD .skip) [.sc (.int .i64 a),.sc (.int .i64 b)] c) h) Tryz.func65 (by kernel_rfl) (fun a w=>Tryz.call65 a w) (by kernel_rfl) (by kernel_rfl) rfl rfl
def zl6 (b:Int) (c:World) (d:Value->World->Prop):Prop:=
 ∀ a,Ext c a->d (.bool (decide (b≠b))) a
theorem zlL (a:Int) (b:World) (c:Value->World->Prop) (h:zl6 a b c):FnP Tryz.prog zcT #[(.int .i64 a)] b c:=
 zab (Eq.mp (by kernel_rfl:_=Runs Tryz.prog c ({N:=6}:Cfg) Tryz.f116 (Tryz.f116.body.getD .skip) [.sc (.int .i64 a)] b) h) Tryz.func116 (by kernel_rfl) (fun a w=>Tryz.call116 a w) (by kernel_rfl) (by kernel_rfl) rfl rfl
def zeN (g:Option Addr) (h i:Nat) (j:Value) (d:World) (k:Value->World->Prop):Prop:=
 ∀ a,Ext d a->FnP Tryz.prog zbO #[(.slice g h i),j] a fun e f=>Ext a f/\∃ b,e=(.int .i64 b)/\∀ c,Ext d c->k (.bool (decide (0<=b))) c
theorem zeJ (a:Option Addr) (b c:Nat) (d:Value) (e:World) (f:Value->World->Prop) (h:zeN a b c d e f):FnP Tryz.prog zaV #[(.slice a b c),d] e f:=
 zab (Eq.mp (by kernel_rfl:_=Runs Tryz.prog f ({N:=9}:Cfg) Tryz.f119 (Tryz.f119.body.getD .skip) [.sc (.slc a b c),.sc (.val d)] e) h) Tryz.func119 (by kernel_rfl) (fun a w=>Tryz.call119 a w) (by kernel_rfl) (by kernel_rfl) rfl rfl
def zfP (k:Option Addr) (f q:Nat) (o:Value) (p:World) (l:Value->World->Prop):Prop:=
 ∃ (e:Int->World->Prop) (j:Int->World->Nat),e 0 p/\∀ (a:Int) (b:World),e a b->(((a<(f:Int))->k≠none/\(0:Int)<=a/\(a:Int)<(f:Int)/\∃ g,cell b (pIdx k a 1) 0=some (.int .i64 g)/\∀ c,Ext b c->zin Tryz.prog o [(.int .i64 g)] c fun m n=>Ext c n/\∃ d,m=(.bool d)/\((d=true)->∀ h,Ext b h->l (.int .i64 a) h)/\((d=false)->InR .i64 (a+1)/\(e (a+1) b/\j (a+1) b<j a b))))/\(((f:Int)<=a)->∀ i,Ext b i->l (.int .i64 (-1)) i)
theorem zfF (a:Option Addr) (b c:Nat) (d:Value) (e:World) (f:Value->World->Prop) (h:zfP a b c d e f):FnP Tryz.prog zbO #[(.slice a b c),d] e f:=
 zab (Eq.mp (by kernel_rfl:_=Runs Tryz.prog f ({N:=19}:Cfg) Tryz.f166 (Tryz.f166.body.getD .skip) [.sc (.slc a b c),.sc (.val d)] e) h) Tryz.func166 (by kernel_rfl) (fun a w=>Tryz.call166 a w) (by kernel_rfl) (by kernel_rfl) rfl rfl
def zd6 (b:Option Addr) (q r:Nat) (l:World) (m:Value->World->Prop):Prop:=
 ((b=none)->∀ a,Ext l a->m (.slice none 0 0) a)/\((b≠none)->∀ a,Ext l a->Run Tryz.prog (.buildSlice 34 0 []) a fun n k=>Ext a k/\∃ c d e,n=(.slice c d e)/\∀ f,Ext k f->Run Tryz.prog (.append #[34,34] 34 [(.slice c d e),(.slice b q r)]) f fun o p=>∃ g h i,o=(.slice g h i)/\∀ j,Ext p j->m (.slice g h i) j)
theorem zd0 (a:Option Addr) (b c:Nat) (d:World) (e:Value->World->Prop) (h:zd6 a b c d e):FnP Tryz.prog zak #[(.slice a b c)] d e:=
 zab (Eq.mp (by kernel_rfl:_=Runs Tryz.prog e ({N:=8}:Cfg) Tryz.f111 (Tryz.f111.body.getD .skip) [.sc (.slc a b c)] d) h) Tryz.func111 (by kernel_rfl) (fun a w=>Tryz.call111 a w) (by kernel_rfl) (by kernel_rfl) rfl rfl
def zdv (b:Option Addr) (q r:Nat) (l:World) (m:Value->World->Prop):Prop:=
 ((b=none)->∀ a,Ext l a->m (.slice none 0 0) a)/\((b≠none)->∀ a,Ext l a->Run Tryz.prog (.buildSlice 74 0 []) a fun n k=>Ext a k/\∃ c d e,n=(.slice c d e)/\∀ f,Ext k f->Run Tryz.prog (.append #[74,74] 74 [(.slice c d e),(.slice b q r)]) f fun o p=>∃ g h i,o=(.slice g h i)/\∀ j,Ext p j->m (.slice g h i) j)
theorem zdt (a:Option Addr) (b c:Nat) (d:World) (e:Value->World->Prop) (h:zdv a b c d e):FnP Tryz.prog zaF #[(.slice a b c)] d e:=
 zab (Eq.mp (by kernel_rfl:_=Runs Tryz.prog e ({N:=8}:Cfg) Tryz.f112 (Tryz.f112.body.getD .skip) [.sc (.slc a b c)] d) h) Tryz.func112 (by kernel_rfl) (fun a w=>Tryz.call112 a w) (by kernel_rfl) (by kernel_rfl) rfl rfl
abbrev zkr:FuncId:=69
abbrev zei:FuncId:=71
abbrev za4:FuncId:=72
abbrev zcK:FuncId:=121
abbrev zc8:FuncId:=122
abbrev zdm:FuncId:=167
abbrev zcL:FuncId:=168
abbrev zfs:FuncId:=311
abbrev zeT:FuncId:=312
abbrev zeV:FuncId:=313
abbrev zdp:FuncId:=314
abbrev zft:FuncId:=315
abbrev zeU:FuncId:=316
def zol (e:Option Addr) (b f:Nat) (c:World) (d:Value->World->Prop):Prop:=
 ∀ a,Ext c a->d (.int .i64 (b:Int)) a
theorem zn9 (a:Option Addr) (b c:Nat) (d:World) (e:Value->World->Prop) (h:zol a b c d e):FnP Tryz.prog zfs #[(.slice a b c)] d e:=
 zab (Eq.mp (by kernel_rfl:_=Runs Tryz.prog e ({N:=5}:Cfg) Tryz.f311 (Tryz.f311.body.getD .skip) [.sc (.slc a b c)] d) h) Tryz.func311 (by kernel_rfl) (fun a w=>Tryz.call311 a w) (by kernel_rfl) (by kernel_rfl) rfl rfl
def znA (a:Option Addr) (j n:Nat) (d e:Int) (b:World) (m:Value->World->Prop):Prop:=
 a≠none/\(0:Int)<=d/\(d:Int)<(j:Int)/\∃ f,cell b (pIdx a d 1) 0=some (.pointer f)/\a≠none/\(0:Int)<=e/\(e:Int)<(j:Int)/\∃ g,cell b (pIdx a e 1) 0=some (.pointer g)/\∀ c,Ext b c->FnP Tryz.prog zdp #[(.pointer f),(.pointer g)] c fun k l=>Ext c l/\∃ h,k=(.bool h)/\∀ i,Ext b i->m (.bool h) i
theorem zm2 (a:Option Addr) (b c:Nat) (d e:Int) (f:World) (g:Value->World->Prop) (h:znA a b c d e f g):FnP Tryz.prog zeT #[(.slice a b c),(.int .i64 d),(.int .i64 e)] f g:=
 zab (Eq.mp (by kernel_rfl:_=Runs Tryz.prog g ({N:=16}:Cfg) Tryz.f312 (Tryz.f312.body.getD .skip) [.sc (.slc a b c),.sc (.int .i64 d),.sc (.int .i64 e)] f) h) Tryz.func312 (by kernel_rfl) (fun a w=>Tryz.call312 a w) (by kernel_rfl) (by kernel_rfl) rfl rfl
def znC (a:Option Addr) (d p:Nat) (b c:Int) (h:World) (o:Value->World->Prop):Prop:=
 a≠none/\(0:Int)<=c/\(c:Int)<(d:Int)/\∃ i,cell h (pIdx a c 1) 0=some (.pointer i)/\a≠none/\(0:Int)<=b/\(b:Int)<(d:Int)/\∃ j,cell h (pIdx a b 1) 0=some (.pointer j)/\a≠none/\(0:Int)<=b/\(b:Int)<(d:Int)/\zao h (pIdx a b 1) [(.pointer i)] [] fun l=>a≠none/\(0:Int)<=c/\(c:Int)<(d:Int)/\zao l (pIdx a c 1) [(.pointer j)] [] fun g=>a≠none/\(0:Int)<=b/\(b:Int)<(d:Int)/\∃ e,cell g (pIdx a b 1) 0=some (.pointer e)/\a≠none/\(0:Int)<=c/\(c:Int)<(d:Int)/\∃ f,cell g (pIdx a c 1) 0=some (.pointer f)/\e≠none/\e≠none/\zao g (pAdd e 3) [(.int .i64 b)] [] fun m=>f≠none/\f≠none/\zao m (pAdd f 3) [(.int .i64 c)] [] fun n=>∀ k,Ext n k->o (.tuple #[]) k
theorem zm4 (a:Option Addr) (b c:Nat) (d e:Int) (f:World) (g:Value->World->Prop) (h:znC a b c d e f g):FnP Tryz.prog zeV #[(.slice a b c),(.int .i64 d),(.int .i64 e)] f g:=
 zab (Eq.mp (by kernel_rfl:_=Runs Tryz.prog g ({N:=34}:Cfg) Tryz.f313 (Tryz.f313.body.getD .skip) [.sc (.slc a b c),.sc (.int .i64 d),.sc (.int .i64 e)] f) h) Tryz.func313 (by kernel_rfl) (fun a w=>Tryz.call313 a w) (by kernel_rfl) (by kernel_rfl) rfl rfl
def ze5 (a b:Option Addr) (c:World) (h:Value->World->Prop):Prop:=
 a≠none/\a≠none/\(pAdd a 0)≠none/\∃ d,cell c (pAdd (pAdd a 0) 0) 0=some (.int .i64 d)/\b≠none/\b≠none/\(pAdd b 0)≠none/\∃ e,cell c (pAdd (pAdd b 0) 0) 0=some (.int .i64 e)/\((d<=e)->a≠none)/\((d<=e)->a≠none)/\((d<=e)->(pAdd a 0)≠none)/\((e<d)->∀ i,Ext c i->h (.bool true) i)/\((d<=e)->∃ f,cell c (pAdd (pAdd a 0) 0) 0=some (.int .i64 f)/\b≠none/\b≠none/\(pAdd b 0)≠none/\∃ g,cell c (pAdd (pAdd b 0) 0) 0=some (.int .i64 g)/\((f=g)->a≠none)/\((f=g)->a≠none)/\(((f=g)->∃ j,cell c (pAdd a 2) 0=some (.int .i64 j)/\b≠none/\b≠none/\∃ k,cell c (pAdd b 2) 0=some (.int .i64 k)/\∀ l,Ext c l->h (.bool (decide (j<k))) l))/\((f≠g)->∀ m,Ext c m->h (.bool false) m))
theorem zjZ (a b:Option Addr) (c:World) (d:Value->World->Prop) (h:ze5 a b c d):FnP Tryz.prog zdp #[(.pointer a),(.pointer b)] c d:=
 zab (Eq.mp (by kernel_rfl:_=Runs Tryz.prog d ({N:=40}:Cfg) Tryz.f314 (Tryz.f314.body.getD .skip) [.sc (.ptr a),.sc (.ptr b)] c) h) Tryz.func314 (by kernel_rfl) (fun a w=>Tryz.call314 a w) (by kernel_rfl) (by kernel_rfl) rfl rfl
def zom (b:Option Addr) (c:World) (s:Value->World->Prop):Prop:=
 b≠none/\∃ m a n,cell c b 0=some (.slice m a n)/\InR .i64 ((a:Int)-1)/\b≠none/\∃ e g o,cell c b 0=some (.slice e g o)/\e≠none/\(0:Int)<=((a:Int)-1)/\(((a:Int)-1):Int)<(g:Int)/\∃ h,cell c (pIdx e ((a:Int)-1) 1) 0=some (.pointer h)/\b≠none/\∃ i p d,cell c b 0=some (.slice i p d)/\(0:Int)<=0/\(0:Int)<=((a:Int)-1)/\(((a:Int)-1):Int)<=(d:Int)/\b≠none/\zao c b [(.slice (pCut i d 0 1) (((a:Int)-1)-0).toNat (d-(0:Int).toNat))] [] fun q=>∀ f,Ext q f->Run Tryz.prog (.makeInterface 218 (.pointer h)) f fun r l=>Ext f l/\∃ j,r=j/\∀ k,Ext l k->s j k
theorem zoa (a:Option Addr) (b:World) (c:Value->World->Prop) (h:zom a b c):FnP Tryz.prog zft #[(.pointer a)] b c:=
 zab (Eq.mp (by kernel_rfl:_=Runs Tryz.prog c ({N:=25}:Cfg) Tryz.f315 (Tryz.f315.body.getD .skip) [.sc (.ptr a)] b) h) Tryz.func315 (by kernel_rfl) (fun a w=>Tryz.call315 a w) (by kernel_rfl) (by kernel_rfl) rfl rfl
def znB (a:Option Addr) (A:Value) (B:World) (C:Value->World->Prop):Prop:=
 ∀ c,Ext B c->Run Tryz.prog (.typeAssert A 20 218 false) c fun v e=>Ext c e/\∃ b,v=(.pointer b)/\a≠none/\∃ t f u,cell e a 0=some (.slice t f u)/\b≠none/\b≠none/\zao e (pAdd b 3) [(.int .i64 (f:Int))] [] fun r=>a≠none/\∃ g h i,cell r a 0=some (.slice g h i)/\∀ d,Ext r d->Run Tryz.prog (.buildSlice 213 1 [(0,(.pointer b))]) d fun w s=>Ext d s/\∃ j k l,w=(.slice j k l)/\∀ m,Ext s m->Run Tryz.prog (.append #[213,213] 213 [(.slice g h i),(.slice j k l)]) m fun x y=>∃ n o p,x=(.slice n o p)/\a≠none/\zao y a [(.slice n o p)] [] fun z=>∀ q,Ext z q->C (.tuple #[]) q
theorem zm3 (a:Option Addr) (b:Value) (c:World) (d:Value->World->Prop) (h:znB a b c d):FnP Tryz.prog zeU #[(.pointer a),b] c d:=
 zab (Eq.mp (by kernel_rfl:_=Runs Tryz.prog d ({N:=22}:Cfg) Tryz.f316 (Tryz.f316.body.getD .skip) [.sc (.ptr a),.sc (.val b)] c) h) Tryz.func316 (by kernel_rfl) (fun a w=>Tryz.call316 a w) (by kernel_rfl) (by kernel_rfl) rfl rfl
def zj3 (j:Value) (n:Int) (o:World) (k:Value->World->Prop):Prop:=
 ∃ (f : Int -> World -> Prop) (i : Int -> World -> Nat), f n o /\ ∀ (a : Int) (d : World), f a d -> InR .i64 (a - 1) /\ InR .i64 ((a - 1).tdiv 2) /\ ((((a - 1).tdiv 2) = a) -> ∀ b, Ext d b -> k (.tuple #[]) b) /\ ((((a - 1).tdiv 2) ≠ a) -> ∀ b, Ext d b -> zqI Tryz.prog "Less" j [(.int .i64 a), (.int .i64 ((a - 1).tdiv 2))] b fun l g => ∃ e, l = (.bool e) /\ ((e = false) -> ∀ c, Ext g c -> k (.tuple #[]) c) /\ ((e = true) -> ∀ c, Ext g c -> zqI Tryz.prog "Swap" j [(.int .i64 ((a - 1).tdiv 2)), (.int .i64 a)] c fun m h => m = (.tuple #[]) /\ (f ((a - 1).tdiv 2) h /\ i ((a - 1).tdiv 2) h < i a d)))
theorem zjX (a:Value) (b:Int) (c:World) (d:Value->World->Prop) (h:zj3 a b c d):FnP Tryz.prog zdm #[a,(.int .i64 b)] c d:=
 zab (Eq.mp (by kernel_rfl:_=Runs Tryz.prog d ({N:=23}:Cfg) Tryz.f167 (Tryz.f167.body.getD .skip) [.sc (.val a),.sc (.int .i64 b)] c) h) Tryz.func167 (by kernel_rfl) (fun a w=>Tryz.call167 a w) (by kernel_rfl) (by kernel_rfl) rfl rfl
def ziI (i:Value) (o p:Int) (t:World) (q:Value->World->Prop):Prop:=
 ∃ (n : Int -> World -> Prop) (j : Int -> World -> Nat), n o t /\ ∀ (a : Int) (h : World), n a h -> InR .i64 (2 * a) /\ InR .i64 ((2 * a) + 1) /\ (((p <= ((2 * a) + 1)) \/ (((2 * a) + 1) < 0)) -> ∀ d, Ext h d -> q (.bool (decide (o < a))) d) /\ (((((2 * a) + 1) < p) /\ (0 <= ((2 * a) + 1))) -> InR .i64 (((2 * a) + 1) + 1) /\ ((((((2 * a) + 1) + 1) < p) -> ∀ d, Ext h d -> zqI Tryz.prog "Less" i [(.int .i64 (((2 * a) + 1) + 1)), (.int .i64 ((2 * a) + 1))] d fun r k => ∃ f, r = (.bool f) /\ (((f = true) -> ∀ b, Ext k b -> zqI Tryz.prog "Less" i [(.int .i64 (((2 * a) + 1) + 1)), (.int .i64 a)] b fun l e => ∃ g, l = (.bool g) /\ ((g = false) -> ∀ c, Ext e c -> q (.bool (decide (o < a))) c) /\ ((g = true) -> ∀ c, Ext e c -> zqI Tryz.prog "Swap" i [(.int .i64 a), (.int .i64 (((2 * a) + 1) + 1))] c fun s m => s = (.tuple #[]) /\ (n (((2 * a) + 1) + 1) m /\ j (((2 * a) + 1) + 1) m < j a h)))) /\ ((f = false) -> ∀ b, Ext k b -> zqI Tryz.prog "Less" i [(.int .i64 ((2 * a) + 1)), (.int .i64 a)] b fun l e => ∃ g, l = (.bool g) /\ ((g = false) -> ∀ c, Ext e c -> q (.bool (decide (o < a))) c) /\ ((g = true) -> ∀ c, Ext e c -> zqI Tryz.prog "Swap" i [(.int .i64 a), (.int .i64 ((2 * a) + 1))] c fun s m => s = (.tuple #[]) /\ (n ((2 * a) + 1) m /\ j ((2 * a) + 1) m < j a h))))) /\ ((p <= (((2 * a) + 1) + 1)) -> ∀ d, Ext h d -> zqI Tryz.prog "Less" i [(.int .i64 ((2 * a) + 1)), (.int .i64 a)] d fun r k => ∃ f, r = (.bool f) /\ ((f = false) -> ∀ b, Ext k b -> q (.bool (decide (o < a))) b) /\ ((f = true) -> ∀ b, Ext k b -> zqI Tryz.prog "Swap" i [(.int .i64 a), (.int .i64 ((2 * a) + 1))] b fun l e => l = (.tuple #[]) /\ (n ((2 * a) + 1) e /\ j ((2 * a) + 1) e < j a h))))
theorem ziF (a:Value) (b c:Int) (d:World) (e:Value->World->Prop) (h:ziI a b c d e):FnP Tryz.prog zcL #[a,(.int .i64 b),(.int .i64 c)] d e:=
 zab (Eq.mp (by kernel_rfl:_=Runs Tryz.prog e ({N:=48}:Cfg) Tryz.f168 (Tryz.f168.body.getD .skip) [.sc (.val a),.sc (.int .i64 b),.sc (.int .i64 c)] d) h) Tryz.func168 (by kernel_rfl) (fun a w=>Tryz.call168 a w) (by kernel_rfl) (by kernel_rfl) rfl rfl
def ziH (b m:Value) (n:World) (o:Value->World->Prop):Prop:=
 ∀ c, Ext n c -> zqI Tryz.prog "Push" b [m] c fun g h => g = (.tuple #[]) /\ ∀ d, Ext h d -> zqI Tryz.prog "Len" b [] d fun i j => ∃ a, i = (.int .i64 a) /\ InR .i64 (a - 1) /\ ∀ e, Ext j e -> FnP Tryz.prog zdm #[b, (.int .i64 (a - 1))] e fun k l => k = (.tuple #[]) /\ ∀ f, Ext l f -> o (.tuple #[]) f
theorem ziE (a b:Value) (c:World) (d:Value->World->Prop) (h:ziH a b c d):FnP Tryz.prog zcK #[a,b] c d:=
 zab (Eq.mp (by kernel_rfl:_=Runs Tryz.prog d ({N:=12,muts:=[167]}:Cfg) Tryz.f121 (Tryz.f121.body.getD .skip) [.sc (.val a),.sc (.val b)] c) h) Tryz.func121 (by kernel_rfl) (fun a w=>Tryz.call121 a w) (by kernel_rfl) (by kernel_rfl) rfl rfl
def zjq (b:Value) (r:World) (s:Value->World->Prop):Prop:=
 ∀ c, Ext r c -> zqI Tryz.prog "Len" b [] c fun j k => ∃ a, j = (.int .i64 a) /\ InR .i64 (a - 1) /\ ∀ d, Ext k d -> zqI Tryz.prog "Swap" b [(.int .i64 0), (.int .i64 (a - 1))] d fun l m => l = (.tuple #[]) /\ ∀ e, Ext m e -> FnP Tryz.prog zcL #[b, (.int .i64 0), (.int .i64 (a - 1))] e fun n o => ∃ i, n = (.bool i) /\ ∀ f, Ext o f -> zqI Tryz.prog "Pop" b [] f fun p q => ∃ g, p = g /\ ∀ h, Ext q h -> s g h
theorem zjb (a:Value) (b:World) (c:Value->World->Prop) (h:zjq a b c):FnP Tryz.prog zc8 #[a] b c:=
 zab (Eq.mp (by kernel_rfl:_=Runs Tryz.prog c ({N:=15,muts:=[168]}:Cfg) Tryz.f122 (Tryz.f122.body.getD .skip) [.sc (.val a)] b) h) Tryz.func122 (by kernel_rfl) (fun a w=>Tryz.call122 a w) (by kernel_rfl) (by kernel_rfl) rfl rfl
def zn0  (w:World) (Q:Value->World->Prop):Prop :=
  ∀ w0,Ext w w0 ->
  Run Tryz.prog (.makeMap 211) w0 fun v1 w1 =>
   Ext w0 w1 /\
   ∃ t2:Value,v1=t2 /\
   Value.oneCell' t2=true /\
   ∀ w3,Ext w1 w3 ->
   New w3 215 [(.slice none 0 0),t2,(.int .i64 0)] fun p4 w4 =>
    ∀ w5,Ext w4 w5 ->
    Q (.pointer p4) w5
theorem zvG  (w:World) (Q:Value->World->Prop) (h:zn0  w Q):FnP Tryz.prog zkr #[] w Q:=by
  have e_:zn0  w Q=Runs Tryz.prog Q ({ N:=4,wrap:=[],pub:=[3],muts:=[],joins:=[] }:Cfg) Tryz.f69 (Tryz.f69.body.getD .skip) [] w:=by kernel_rfl
  rw [e_] at h
  exact zab h Tryz.func69 (by kernel_rfl) (fun args w=>Tryz.call69 args w) (by kernel_rfl) (by kernel_rfl) rfl rfl
def zmc (a:Option Addr) (J i:Int) (A:World) (j:Value->World->Prop):Prop:=
 a≠none/\a≠none/\∃ k,cell A (pAdd a 1) 0=some k/\∀ c,Ext A c->Run Tryz.prog (.lookup 211 k (.int .i64 i) false) c fun D b=>Ext c b/\∃ d,D=(.pointer d)/\((d≠none)->∀ l,Ext b l->j (.int .i64 6) l)/\((d=none)->a≠none/\a≠none/\∃ B e C,cell b (pAdd a 0) 0=some (.slice B e C)/\(((e:Int)=200)->∀ m,Ext b m->j (.int .i64 7) m)/\(((e:Int)≠200)->a≠none/\a≠none/\∃ f,cell b (pAdd a 2) 0=some (.int .i64 f)/\InR .i64 (f+1)/\a≠none/\a≠none/\zao b (pAdd a 2) [(.int .i64 (f+1))] [] fun v=>a≠none/\a≠none/\∃ n,cell v (pAdd a 2) 0=some (.int .i64 n)/\∀ o,Ext v o->New o 220 [(.int .i64 J),(.int .i64 i),(.int .i64 n),(.int .i64 0)] fun w x=>a≠none/\a≠none/\∃ p,cell x (pAdd a 1) 0=some p/\∀ q,Ext x q->Run Tryz.prog (.mapUpdate 211 p (.int .i64 i) (.pointer w)) q fun K E=>a≠none/\a≠none/\∀ g,Ext E g->Run Tryz.prog (.makeInterface 222 (.pointer (pAdd a 0))) g fun F y=>Ext g y/\∃ r,F=r/\∀ h,Ext y h->Run Tryz.prog (.makeInterface 218 (.pointer w)) h fun G z=>Ext h z/\∃ s,G=s/\∀ t,Ext z t->FnP Tryz.prog zcK #[r,s] t fun H I=>H=(.tuple #[])/\∀ u,Ext I u->j (.int .i64 0) u))
theorem zlS (a:Option Addr) (b c:Int) (d:World) (e:Value->World->Prop) (h:zmc a b c d e):FnP Tryz.prog zei #[(.pointer a),(.int .i64 b),(.int .i64 c)] d e:=
 zab (Eq.mp (by kernel_rfl:_=Runs Tryz.prog e ({N:=52,pub:=[38],muts:=[121]}:Cfg) Tryz.f71 (Tryz.f71.body.getD .skip) [.sc (.ptr a),.sc (.int .i64 b),.sc (.int .i64 c)] d) h) Tryz.func71 (by kernel_rfl) (fun a w=>Tryz.call71 a w) (by kernel_rfl) (by kernel_rfl) rfl rfl
def zk4 (b:Option Addr) (g:World) (u:Value->World->Prop):Prop:=
 ∀ c:Nat,g.heap.size<=c->b≠none/\b≠none/\∃ v h w,cell g (pAdd b 0) 0=some (.slice v h w)/\(((h:Int)=0)->∀ d,Ext g d->u (.tuple #[(.agg #[(.int .i64 0),(.int .i64 0)]),(.bool false)]) d)/\(((h:Int)≠0)->b≠none/\b≠none/\∀ d,zag [] [c] g d->Run Tryz.prog (.makeInterface 222 (.pointer (pAdd b 0))) d fun x s=>Ext d s/\∃ l,x=l/\∀ i,zag [] [c] s i->FnP Tryz.prog zc8 #[l] i fun y t=>zbQ [c] i t/\∃ m,y=m/\∀ j,zag [] [c] t j->Run Tryz.prog (.typeAssert m 20 218 false) j fun z e=>Ext j e/\∃ a,z=(.pointer a)/\b≠none/\b≠none/\∃ n,cell e (pAdd b 1) 0=some n/\a≠none/\a≠none/\(pAdd a 0)≠none/\∃ o,cell e (pAdd (pAdd a 0) 1) 0=some (.int .i64 o)/\∀ k,zag [] [c] e k->Run Tryz.prog (.delete #[211,3] 0 [n,(.int .i64 o)]) k fun A f=>zbQ [c] k f/\A=(.tuple #[])/\a≠none/\a≠none/\(pAdd a 0)≠none/\∃ p,cell f (pAdd a 0) 0=some (.int .i64 p)/\∃ q,cell f (pAdd a 0) 1=some (.int .i64 q)/\∀ r,zag [c] [] f r->u (.tuple #[(.agg #[(.int .i64 p),(.int .i64 q)]),(.bool true)]) r)
theorem zkP (a:Option Addr) (b:World) (c:Value->World->Prop) (h:zk4 a b c):FnP Tryz.prog za4 #[(.pointer a)] b c:=
 zab (Eq.mp (by kernel_rfl:_=Runs Tryz.prog c ({N:=31,muts:=[122]}:Cfg) Tryz.f72 (Tryz.f72.body.getD .skip) [.sc (.ptr a)] b) h) Tryz.func72 (by kernel_rfl) (fun a w=>Tryz.call72 a w) (by kernel_rfl) (by kernel_rfl) rfl rfl
abbrev zdM:FuncId:=57
abbrev zjy:FuncId:=68
abbrev zdN:FuncId:=75
abbrev zcA:FuncId:=117
abbrev ze6:FuncId:=118
def zrC (a c d e:Int) (f:World) (g:Value->World->Prop):Prop:=
 ∀ h:Nat,f.heap.size<=h->(((((((((a<1)\/(1000000000<a))\/(c<1))\/(10<c))\/(d<a))\/(1000000000<d))\/(e<0))\/(50<e))->∀ b,Ext f b->g (.int .i64 4) b)/\(((((((((1<=a)/\(a<=1000000000))/\(1<=c))/\(c<=10))/\(a<=d))/\(d<=1000000000))/\(0<=e))/\(e<=50))->∀ b,Ext f b->g (.int .i64 0) b)
theorem zrb (a b c d:Int) (e:World) (f:Value->World->Prop) (h:zrC a b c d e f):FnP Tryz.prog zdM #[(.agg #[(.int .i64 a),(.int .i64 b),(.int .i64 c),(.int .i64 d)])] e f:=
 zab (Eq.mp (by kernel_rfl:_=Runs Tryz.prog f ({N:=43}:Cfg) Tryz.f57 (Tryz.f57.body.getD .skip) [.agg [.int .i64 a,.int .i64 b,.int .i64 c,.int .i64 d]] e) h) Tryz.func57 (by kernel_rfl) (fun a w=>Tryz.call57 a w) (by kernel_rfl) (by kernel_rfl) rfl rfl
def zrD (p h k l b:Int) (f:World) (m:Value->World->Prop):Prop:=
 ∀ q:Nat,f.heap.size<=q->∀ i,Ext f i->FnP Tryz.prog zdM #[(.agg #[(.int .i64 p),(.int .i64 h),(.int .i64 k),(.int .i64 l)])] i fun r s=>Ext i s/\∃ g,r=(.int .i64 g)/\((g≠0)->∀ d,Ext f d->m (.tuple #[(.int .i64 0),(.int .i64 g)]) d)/\((g=0)->(((b<1)\/(l<b))->∀ d,Ext f d->m (.tuple #[(.int .i64 0),(.int .i64 5)]) d)/\(((1<=b)/\(b<=l))->InR .i64 (b-1)/\∃ (j:Int->Int->World->Prop) (o:Int->Int->World->Nat),j p 0 f/\∀ (c:Int) (a:Int) (e:World),j c a e->(((a<(b-1))->InR .i64 (c*h)/\InR .i64 (a+1)/\(j (min (c*h) k) (a+1) e/\o (min (c*h) k) (a+1) e<o c a e)))/\(((b-1)<=a)->∀ n,Ext e n->m (.tuple #[(.int .i64 c),(.int .i64 0)]) n)))
theorem zrc (a b c d e:Int) (f:World) (g:Value->World->Prop) (h:zrD a b c d e f g):FnP Tryz.prog zdN #[(.agg #[(.int .i64 a),(.int .i64 b),(.int .i64 c),(.int .i64 d)]),(.int .i64 e)] f g:=
 zab (Eq.mp (by kernel_rfl:_=Runs Tryz.prog g ({N:=36}:Cfg) Tryz.f75 (Tryz.f75.body.getD .skip) [.agg [.int .i64 a,.int .i64 b,.int .i64 c,.int .i64 d],.sc (.int .i64 e)] f) h) Tryz.func75 (by kernel_rfl) (fun a w=>Tryz.call75 a w) (by kernel_rfl) (by kernel_rfl) rfl rfl
def zif (b:Option Addr) (q r:Nat) (l:World) (m:Value->World->Prop):Prop:=
 ((b=none)->∀ a,Ext l a->m (.slice none 0 0) a)/\((b≠none)->∀ a,Ext l a->Run Tryz.prog (.buildSlice 48 0 []) a fun n k=>Ext a k/\∃ c d e,n=(.slice c d e)/\∀ f,Ext k f->Run Tryz.prog (.append #[48,48] 48 [(.slice c d e),(.slice b q r)]) f fun o p=>∃ g h i,o=(.slice g h i)/\∀ j,Ext p j->m (.slice g h i) j)
theorem zhW (a:Option Addr) (b c:Nat) (d:World) (e:Value->World->Prop) (h:zif a b c d e):FnP Tryz.prog zcA #[(.slice a b c)] d e:=
 zab (Eq.mp (by kernel_rfl:_=Runs Tryz.prog e ({N:=8}:Cfg) Tryz.f117 (Tryz.f117.body.getD .skip) [.sc (.slc a b c)] d) h) Tryz.func117 (by kernel_rfl) (fun a w=>Tryz.call117 a w) (by kernel_rfl) (by kernel_rfl) rfl rfl
def zrs (S:Int) (T U:ByteArray) (V:Int) (c:Option Addr) (r X:Nat) (s:World) (W:Value->World->Prop):Prop:=
 ∀ d:Nat,s.heap.size<=d->∀ e:Nat,s.heap.size<=e->∃ (q:Option Addr->Nat->Nat->Int->World->Prop) (N:Option Addr->Nat->Nat->Int->World->Nat),q none 0 0 0 s/\∀ (g:Option Addr) (h:Nat) (i:Nat) (a:Int) (b:World),q g h i a b->(((a<(r:Int))->c≠none/\(0:Int)<=a/\(a:Int)<(r:Int)/\(pIdx c a 5)≠none/\∃ t,cell b (pIdx c a 5) 0=some (.int .i64 t)/\∃ u,cell b (pIdx c a 5) 1=some (.string u)/\∃ v,cell b (pIdx c a 5) 2=some (.string v)/\∃ w,cell b (pIdx c a 5) 3=some (.int .i64 w)/\∃ x y z,cell b (pIdx c a 5) 4=some (.slice x y z)/\∀ f:Nat,b.heap.size<=f->∀ j,zag [] [d,e,f] b j->FnP Tryz.prog ze6 #[(.agg #[(.int .i64 t),(.string u),(.string v),(.int .i64 w),(.slice x y z)])] j fun O L=>Ext j L/\∃ A B C D E F G,O=(.agg #[(.int .i64 A),(.string B),(.string C),(.int .i64 D),(.slice E F G)])/\∀ k,zag [] [d,e,f] L k->Run Tryz.prog (.buildSlice 45 1 [(0,(.agg #[(.int .i64 A),(.string B),(.string C),(.int .i64 D),(.slice E F G)]))]) k fun P M=>Ext k M/\∃ H I J,P=(.slice H I J)/\∀ l,zag [] [d,e,f] M l->Run Tryz.prog (.append #[45,45] 45 [(.slice g h i),(.slice H I J)]) l fun R p=>zbQ [d,e,f] l p/\∃ m n o,R=(.slice m n o)/\InR .i64 (a+1)/\(q m n o (a+1) p/\N m n o (a+1) p<N g h i a b)))/\(((r:Int)<=a)->∀ K,zag [e,d] [] b K->W (.agg #[(.int .i64 S),(.string T),(.string U),(.int .i64 V),(.slice g h i)]) K)
theorem zq0 (a:Int) (b c:ByteArray) (d:Int) (e:Option Addr) (f g:Nat) (i:World) (j:Value->World->Prop) (h:zrs a b c d e f g i j):FnP Tryz.prog ze6 #[(.agg #[(.int .i64 a),(.string b),(.string c),(.int .i64 d),(.slice e f g)])] i j:=
 zab (Eq.mp (by kernel_rfl:_=Runs Tryz.prog j ({N:=22}:Cfg) Tryz.f118 (Tryz.f118.body.getD .skip) [.agg [.int .i64 a,.str b,.str c,.int .i64 d,.slc e f g]] i) h) Tryz.func118 (by kernel_rfl) (fun a w=>Tryz.call118 a w) (by kernel_rfl) (by kernel_rfl) rfl rfl
def zyC (u:ByteArray) (v w x y z:Int) (A B:ByteArray) (C:Int) (D:Option Addr) (E F:Nat) (G:Option Addr) (H I:Nat) (J K L M N:Int) (e:World) (O:Value->World->Prop):Prop:=
 ∀ a:Nat,e.heap.size<=a->∀ b:Nat,e.heap.size<=b->∀ c,zag [] [a,b] e c->FnP Tryz.prog zcA #[(.slice G H I)] c fun s q=>Ext c q/\∃ f g h,s=(.slice f g h)/\∀ d,zag [a] [a,b] q d->FnP Tryz.prog ze6 #[(.agg #[(.int .i64 z),(.string A),(.string B),(.int .i64 C),(.slice D E F)])] d fun t r=>Ext d r/\∃ i j k l m n o,t=(.agg #[(.int .i64 i),(.string j),(.string k),(.int .i64 l),(.slice m n o)])/\∀ p,zag [b,a] [] r p->O (.agg #[(.string u),(.int .i64 v),(.int .i64 w),(.int .i64 x),(.int .i64 y),(.int .i64 i),(.string j),(.string k),(.int .i64 l),(.slice m n o),(.slice f g h),(.int .i64 J),(.int .i64 K),(.int .i64 L),(.int .i64 M),(.int .i64 N)]) p
theorem zxW (a:ByteArray) (b c d e f:Int) (g i:ByteArray) (j:Int) (k:Option Addr) (l m:Nat) (n:Option Addr) (o p:Nat) (q r s t u:Int) (v:World) (w:Value->World->Prop) (h:zyC a b c d e f g i j k l m n o p q r s t u v w):FnP Tryz.prog zjy #[(.agg #[(.string a),(.int .i64 b),(.int .i64 c),(.int .i64 d),(.int .i64 e),(.int .i64 f),(.string g),(.string i),(.int .i64 j),(.slice k l m),(.slice n o p),(.int .i64 q),(.int .i64 r),(.int .i64 s),(.int .i64 t),(.int .i64 u)])] v w:=
 zab (Eq.mp (by kernel_rfl:_=Runs Tryz.prog w ({N:=16}:Cfg) Tryz.f68 (Tryz.f68.body.getD .skip) [.agg [.str a,.int .i64 b,.int .i64 c,.int .i64 d,.int .i64 e,.int .i64 f,.str g,.str i,.int .i64 j,.slc k l m,.slc n o p,.int .i64 q,.int .i64 r,.int .i64 s,.int .i64 t,.int .i64 u]] v) h) Tryz.func68 (by kernel_rfl) (fun a w=>Tryz.call68 a w) (by kernel_rfl) (by kernel_rfl) rfl rfl
abbrev zcW:FuncId:=18
abbrev zaz:FuncId:=23
abbrev zcn:FuncId:=29
abbrev zba:FuncId:=31
abbrev zaN:FuncId:=55
abbrev zeE:FuncId:=56
abbrev zdL:FuncId:=58
abbrev zbe:FuncId:=67
abbrev zef:FuncId:=70
abbrev zb0:FuncId:=74
abbrev zaE:FuncId:=76
abbrev zaq:FuncId:=110
abbrev zdn:FuncId:=120
abbrev zdK:FuncId:=126
def zqu (b:Option Addr) (a:Int) (c:World) (f:Value->World->Prop):Prop:=
 ((1<=a)->b≠none)/\((1<=a)->b≠none)/\((a<1)->∀ g,Ext c g->f (.pointer none) g)/\((1<=a)->∃ k d l,cell c (pAdd b 6) 0=some (.slice k d l)/\(((d:Int)<a)->∀ h,Ext c h->f (.pointer none) h)/\((a<=(d:Int))->b≠none/\b≠none/\∃ e i m,cell c (pAdd b 6) 0=some (.slice e i m)/\InR .i64 (a-1)/\e≠none/\(0:Int)<=(a-1)/\((a-1):Int)<(i:Int)/\∀ j,Ext c j->f (.pointer (pIdx e (a-1) 16)) j))
theorem zpU (a:Option Addr) (b:Int) (c:World) (d:Value->World->Prop) (h:zqu a b c d):FnP Tryz.prog zbe #[(.pointer a),(.int .i64 b)] c d:=
 zab (Eq.mp (by kernel_rfl:_=Runs Tryz.prog d ({N:=23}:Cfg) Tryz.f67 (Tryz.f67.body.getD .skip) [.sc (.ptr a),.sc (.int .i64 b)] c) h) Tryz.func67 (by kernel_rfl) (fun a w=>Tryz.call67 a w) (by kernel_rfl) (by kernel_rfl) rfl rfl
def zny (b:Option Addr) (a:Int) (c:World) (f:Value->World->Prop):Prop:=
 ((((0<=a)/\(a<=1000000000))->b≠none))/\((((0<=a)/\(a<=1000000000))->b≠none))/\(((a<0)\/(1000000000<a))->∀ g,Ext c g->f (.int .i64 4) g)/\(((0<=a)/\(a<=1000000000))->∃ d,cell c (pAdd b 5) 0=some (.int .i64 d)/\InR .i64 (d+a)/\((1099511627776<(d+a))->∀ h,Ext c h->f (.int .i64 4) h)/\(((d+a)<=1099511627776)->b≠none/\b≠none/\∃ e,cell c (pAdd b 5) 0=some (.int .i64 e)/\InR .i64 (e+a)/\b≠none/\b≠none/\zao c (pAdd b 5) [(.int .i64 (e+a))] [] fun j=>∀ i,Ext j i->f (.int .i64 0) i))
theorem zm0 (a:Option Addr) (b:Int) (c:World) (d:Value->World->Prop) (h:zny a b c d):FnP Tryz.prog zcn #[(.pointer a),(.int .i64 b)] c d:=
 zab (Eq.mp (by kernel_rfl:_=Runs Tryz.prog d ({N:=28}:Cfg) Tryz.f29 (Tryz.f29.body.getD .skip) [.sc (.ptr a),.sc (.int .i64 b)] c) h) Tryz.func29 (by kernel_rfl) (fun a w=>Tryz.call29 a w) (by kernel_rfl) (by kernel_rfl) rfl rfl
def zmb (t a:Option Addr) (u:World) (h:Value->World->Prop):Prop:=
 ∀ i,Ext u i->New i 40 [(.pointer t)] fun q b=>a≠none/\a≠none/\∃ e,cell b (pAdd a 11) 0=some (.int .i64 e)/\((e=1)->a≠none)/\((e=1)->a≠none)/\(((e=1)->∃ c,cell b (pAdd a 14) 0=some (.int .i64 c)/\∃ f,cell b q 0=some (.pointer f)/\f≠none/\f≠none/\∃ d,cell b (pAdd f 5) 0=some (.int .i64 d)/\((c<=d)->a≠none)/\((c<=d)->a≠none)/\((c<=d)->(pAdd a 0)≠none)/\(((c<=d)->∃ j k l,cell b (pAdd (pAdd a 0) 10) 0=some (.slice j k l)/\∀ g,Ext b g->FnP Tryz.prog zaV #[(.slice j k l),(.func (.func 120) #[] #[(.pointer q)])] g fun r s=>Ext g s/\∃ m,r=(.bool m)/\∀ n,Ext b n->h (.bool (!m)) n))/\((d<c)->∀ o,Ext b o->h (.bool false) o)))/\((e≠1)->∀ p,Ext b p->h (.bool false) p)
theorem zlQ (a b:Option Addr) (c:World) (d:Value->World->Prop) (h:zmb a b c d):FnP Tryz.prog zef #[(.pointer a),(.pointer b)] c d:=
 zab (Eq.mp (by kernel_rfl:_=Runs Tryz.prog d ({N:=31,pub:=[2]}:Cfg) Tryz.f70 (Tryz.f70.body.getD .skip) [.sc (.ptr a),.sc (.ptr b)] c) h) Tryz.func70 (by kernel_rfl) (fun a w=>Tryz.call70 a w) (by kernel_rfl) (by kernel_rfl) rfl rfl
def zj4 (i:Int) (j:Option Addr) (g:World) (k:Value->World->Prop):Prop:=
 ∃ d,cell g j 0=some (.pointer d)/\∀ b,Ext g b->FnP Tryz.prog zbe #[(.pointer d),(.int .i64 i)] b fun h c=>Ext b c/\∃ a,h=(.pointer a)/\a≠none/\a≠none/\∃ e,cell c (pAdd a 11) 0=some (.int .i64 e)/\∀ f,Ext c f->k (.bool (decide (e≠3))) f
theorem zjY (a:Int) (b:Option Addr) (c:World) (d:Value->World->Prop) (h:zj4 a b c d):FnP Tryz.prog zdn #[(.int .i64 a),(.pointer b)] c d:=
 zab (Eq.mp (by kernel_rfl:_=Runs Tryz.prog d ({N:=11}:Cfg) Tryz.f120 (Tryz.f120.body.getD .skip) [.sc (.int .i64 a),.sc (.ptr b)] c) h) Tryz.func120 (by kernel_rfl) (fun a w=>Tryz.call120 a w) (by kernel_rfl) (by kernel_rfl) rfl rfl
def znz (z:Option Addr) (A:World) (B:Value->World->Prop):Prop:=
 ∀ n,Ext A n->New n 40 [(.pointer z)] fun l m=>∃ g,cell m l 0=some (.pointer g)/\g≠none/\g≠none/\∃ u i v,cell m (pAdd g 6) 0=some (.slice u i v)/\∃ (f:Int->World->Prop) (e:Int->World->Nat),f 0 m/\∀ (a:Int) (b:World),f a b->(((a<(i:Int))->∃ h,cell b l 0=some (.pointer h)/\h≠none/\h≠none/\∃ c o w,cell b (pAdd h 6) 0=some (.slice c o w)/\c≠none/\(0:Int)<=a/\(a:Int)<(o:Int)/\(pIdx c a 16)≠none/\(pIdx c a 16)≠none/\∃ d,cell b (pAdd (pIdx c a 16) 11) 0=some (.int .i64 d)/\((d=1)->(pIdx c a 16)≠none)/\((d=1)->(pIdx c a 16)≠none)/\((d=1)->(pAdd (pIdx c a 16) 0)≠none)/\(((d=1)->∃ p q r,cell b (pAdd (pAdd (pIdx c a 16) 0) 10) 0=some (.slice p q r)/\∀ j,Ext b j->FnP Tryz.prog zaV #[(.slice p q r),(.func (.func 126) #[] #[(.pointer l)])] j fun x y=>Ext j y/\∃ k,x=(.bool k)/\(((k=true)->(pIdx c a 16)≠none/\(pIdx c a 16)≠none/\zao b (pAdd (pIdx c a 16) 11) [(.int .i64 5)] [] fun t=>InR .i64 (a+1)/\(f (a+1) t/\e (a+1) t<e a b)))/\((k=false)->InR .i64 (a+1)/\(f (a+1) b/\e (a+1) b<e a b))))/\((d≠1)->InR .i64 (a+1)/\(f (a+1) b/\e (a+1) b<e a b))))/\(((i:Int)<=a)->∀ s,Ext b s->B (.tuple #[]) s)
theorem zm1 (a:Option Addr) (b:World) (c:Value->World->Prop) (h:znz a b c):FnP Tryz.prog zaE #[(.pointer a)] b c:=
 zab (Eq.mp (by kernel_rfl:_=Runs Tryz.prog c ({N:=36,pub:=[1]}:Cfg) Tryz.f76 (Tryz.f76.body.getD .skip) [.sc (.ptr a)] b) h) Tryz.func76 (by kernel_rfl) (fun a w=>Tryz.call76 a w) (by kernel_rfl) (by kernel_rfl) rfl rfl
def zk3 (i:Int) (j:Option Addr) (g:World) (k:Value->World->Prop):Prop:=
 ∃ e,cell g j 0=some (.pointer e)/\∀ b,Ext g b->FnP Tryz.prog zbe #[(.pointer e),(.int .i64 i)] b fun h d=>Ext b d/\∃ a,h=(.pointer a)/\a≠none/\a≠none/\∃ c,cell d (pAdd a 11) 0=some (.int .i64 c)/\∀ f,Ext d f->k (.bool ((decide (c=4))||(decide (c=5)))) f
theorem zkO (a:Int) (b:Option Addr) (c:World) (d:Value->World->Prop) (h:zk3 a b c d):FnP Tryz.prog zdK #[(.int .i64 a),(.pointer b)] c d:=
 zab (Eq.mp (by kernel_rfl:_=Runs Tryz.prog d ({N:=17}:Cfg) Tryz.f126 (Tryz.f126.body.getD .skip) [.sc (.int .i64 a),.sc (.ptr b)] c) h) Tryz.func126 (by kernel_rfl) (fun a w=>Tryz.call126 a w) (by kernel_rfl) (by kernel_rfl) rfl rfl
def zma (b a:Option Addr) (c:World) (v:Value->World->Prop):Prop:=
 b≠none/\b≠none/\∃ e f g,cell c (pAdd b 0) 0=some (.slice e f g)/\a≠none/\a≠none/\∃ h,cell c (pAdd a 12) 0=some (.int .i64 h)/\a≠none/\a≠none/\(pAdd a 0)≠none/\(pAdd (pAdd a 0) 2)≠none/\∃ i,cell c (pAdd (pAdd a 0) 2) 0=some (.int .i64 i)/\∃ j,cell c (pAdd (pAdd a 0) 2) 1=some (.int .i64 j)/\∃ k,cell c (pAdd (pAdd a 0) 2) 2=some (.int .i64 k)/\∀ d,Ext c d->FnP Tryz.prog zko #[(.slice e f g),(.int .i64 h),(.agg #[(.int .i64 i),(.int .i64 j),(.int .i64 k)])] d fun r p=>Ext d p/\∃ l m n q,r=(.tuple #[(.slice l m n),(.int .i64 q)])/\b≠none/\b≠none/\zao p (pAdd b 0) [(.slice l m n)] [] fun s=>a≠none/\a≠none/\zao s (pAdd a 12) [(.int .i64 0)] [] fun t=>a≠none/\a≠none/\zao t (pAdd a 13) [(.int .i64 0)] [] fun u=>∀ o,Ext u o->v (.tuple #[]) o
theorem zlP (a b:Option Addr) (c:World) (d:Value->World->Prop) (h:zma a b c d):FnP Tryz.prog zb0 #[(.pointer a),(.pointer b)] c d:=
 zab (Eq.mp (by kernel_rfl:_=Runs Tryz.prog d ({N:=30}:Cfg) Tryz.f74 (Tryz.f74.body.getD .skip) [.sc (.ptr a),.sc (.ptr b)] c) h) Tryz.func74 (by kernel_rfl) (fun a w=>Tryz.call74 a w) (by kernel_rfl) (by kernel_rfl) rfl rfl
def znw (q:Option Addr) (an:World) (au:Value->World->Prop):Prop:=
 q≠none/\q≠none/\∃ c e ao,cell an (pAdd q 6) 0=some (.slice c e ao)/\∃ (p:Option Addr->Nat->Nat->Int->World->Prop) (am:Option Addr->Nat->Nat->Int->World->Nat),p none 0 0 0 an/\∀ (f:Option Addr) (g:Nat) (h:Nat) (a:Int) (b:World),p f g h a b->(((a<(e:Int))->c≠none/\(0:Int)<=a/\(a:Int)<(e:Int)/\(pIdx c a 16)≠none/\∃ r,cell b (pIdx c a 16) 0=some (.string r)/\∃ s,cell b (pIdx c a 16) 1=some (.int .i64 s)/\∃ t,cell b (pIdx c a 16) 2=some (.int .i64 t)/\∃ u,cell b (pIdx c a 16) 3=some (.int .i64 u)/\∃ v,cell b (pIdx c a 16) 4=some (.int .i64 v)/\∃ w,cell b (pIdx c a 16) 5=some (.int .i64 w)/\∃ x,cell b (pIdx c a 16) 6=some (.string x)/\∃ y,cell b (pIdx c a 16) 7=some (.string y)/\∃ z,cell b (pIdx c a 16) 8=some (.int .i64 z)/\∃ A B C,cell b (pIdx c a 16) 9=some (.slice A B C)/\∃ D E F,cell b (pIdx c a 16) 10=some (.slice D E F)/\∃ G,cell b (pIdx c a 16) 11=some (.int .i64 G)/\∃ H,cell b (pIdx c a 16) 12=some (.int .i64 H)/\∃ I,cell b (pIdx c a 16) 13=some (.int .i64 I)/\∃ J,cell b (pIdx c a 16) 14=some (.int .i64 J)/\∃ K,cell b (pIdx c a 16) 15=some (.int .i64 K)/\∀ d:Nat,b.heap.size<=d->∀ i,zag [] [d] b i->FnP Tryz.prog zjy #[(.agg #[(.string r),(.int .i64 s),(.int .i64 t),(.int .i64 u),(.int .i64 v),(.int .i64 w),(.string x),(.string y),(.int .i64 z),(.slice A B C),(.slice D E F),(.int .i64 G),(.int .i64 H),(.int .i64 I),(.int .i64 J),(.int .i64 K)])] i fun ap ak=>Ext i ak/\∃ L M N O P R S T U V W X Y Z aa ab ac ad ae af,ap=(.agg #[(.string L),(.int .i64 M),(.int .i64 N),(.int .i64 O),(.int .i64 P),(.int .i64 R),(.string S),(.string T),(.int .i64 U),(.slice V W X),(.slice Y Z aa),(.int .i64 ab),(.int .i64 ac),(.int .i64 ad),(.int .i64 ae),(.int .i64 af)])/\∀ j,zag [] [d] ak j->Run Tryz.prog (.buildSlice 57 1 [(0,(.agg #[(.string L),(.int .i64 M),(.int .i64 N),(.int .i64 O),(.int .i64 P),(.int .i64 R),(.string S),(.string T),(.int .i64 U),(.slice V W X),(.slice Y Z aa),(.int .i64 ab),(.int .i64 ac),(.int .i64 ad),(.int .i64 ae),(.int .i64 af)]))]) j fun aq al=>Ext j al/\∃ ag ah ai,aq=(.slice ag ah ai)/\∀ k,zag [] [d] al k->Run Tryz.prog (.append #[57,57] 57 [(.slice f g h),(.slice ag ah ai)]) k fun ar o=>zbQ [d] k o/\∃ l m n,ar=(.slice l m n)/\InR .i64 (a+1)/\(p l m n (a+1) o/\am l m n (a+1) o<am f g h a b)))/\(((e:Int)<=a)->∀ aj,Ext b aj->au (.slice f g h) aj)
theorem zmY (a:Option Addr) (b:World) (c:Value->World->Prop) (h:znw a b c):FnP Tryz.prog zaz #[(.pointer a)] b c:=
 zab (Eq.mp (by kernel_rfl:_=Runs Tryz.prog c ({N:=22}:Cfg) Tryz.f23 (Tryz.f23.body.getD .skip) [.sc (.ptr a)] b) h) Tryz.func23 (by kernel_rfl) (fun a w=>Tryz.call23 a w) (by kernel_rfl) (by kernel_rfl) rfl rfl
def zl9 (b:Option Addr) (k:World) (m:Value->World->Prop):Prop:=
 b≠none/\b≠none/\∃ c d e,cell k (pAdd b 0) 0=some (.slice c d e)/\∀ a,Ext k a->FnP Tryz.prog zdL #[(.slice c d e)] a fun l j=>Ext a j/\∃ f g h,l=(.slice f g h)/\∀ i,Ext j i->m (.slice f g h) i
theorem zlO (a:Option Addr) (b:World) (c:Value->World->Prop) (h:zl9 a b c):FnP Tryz.prog zba #[(.pointer a)] b c:=
 zab (Eq.mp (by kernel_rfl:_=Runs Tryz.prog c ({N:=8}:Cfg) Tryz.f31 (Tryz.f31.body.getD .skip) [.sc (.ptr a)] b) h) Tryz.func31 (by kernel_rfl) (fun a w=>Tryz.call31 a w) (by kernel_rfl) (by kernel_rfl) rfl rfl
def zoj (v:Option Addr) (w x:Nat) (y:World) (z:Value->World->Prop):Prop:=
 ∀ e,Ext y e->FnP Tryz.prog zak #[(.slice v w x)] e fun t p=>Ext e p/\∃ b c h,t=(.slice b c h)/\∃ (g:Int->World->Prop) (s:Int->World->Nat),g 0 p/\∀ (a:Int) (d:World),g a d->(((a<(c:Int))->b≠none/\(0:Int)<=a/\(a:Int)<(c:Int)/\(pIdx b a 8)≠none/\∃ i j k,cell d (pAdd (pIdx b a 8) 1) 0=some (.slice i j k)/\∀ f,Ext d f->FnP Tryz.prog zaF #[(.slice i j k)] f fun u q=>Ext f q/\∃ l m n,u=(.slice l m n)/\b≠none/\(0:Int)<=a/\(a:Int)<(c:Int)/\(pIdx b a 8)≠none/\zao q (pAdd (pIdx b a 8) 1) [(.slice l m n)] [] fun r=>InR .i64 (a+1)/\(g (a+1) r/\s (a+1) r<s a d)))/\(((c:Int)<=a)->∀ o,Ext d o->z (.slice b c h) o)
theorem zn8 (a:Option Addr) (b c:Nat) (d:World) (e:Value->World->Prop) (h:zoj a b c d e):FnP Tryz.prog zdL #[(.slice a b c)] d e:=
 zab (Eq.mp (by kernel_rfl:_=Runs Tryz.prog e ({N:=23}:Cfg) Tryz.f58 (Tryz.f58.body.getD .skip) [.sc (.slc a b c)] d) h) Tryz.func58 (by kernel_rfl) (fun a w=>Tryz.call58 a w) (by kernel_rfl) (by kernel_rfl) rfl rfl
def zyB (k:Option Addr) (l m:Nat) (t u v w:Int) (a:World) (g:Value->World->Prop):Prop:=
 ∀ h:Nat,a.heap.size<=h->∀ i,Ext a i->FnP Tryz.prog zcd #[(.slice k l m)] i fun x y=>Ext i y/\∃ e,x=(.int .i64 e)/\((e≠0)->∀ b,Ext a b->g (.tuple #[(.pointer none),(.int .i64 e)]) b)/\((e=0)->∀ b,Ext a b->FnP Tryz.prog zaN #[(.slice k l m),(.func (.func 56) #[] #[])] b fun z A=>Ext b A/\∃ j,z=(.bool j)/\((j=true)->∀ c,Ext a c->g (.tuple #[(.pointer none),(.int .i64 9)]) c)/\((j=false)->∀ c,Ext a c->FnP Tryz.prog zdM #[(.agg #[(.int .i64 t),(.int .i64 u),(.int .i64 v),(.int .i64 w)])] c fun B C=>Ext c C/\∃ f,B=(.int .i64 f)/\((f≠0)->∀ d,Ext a d->g (.tuple #[(.pointer none),(.int .i64 f)]) d)/\((f=0)->∀ d,zag [] [h] a d->FnP Tryz.prog zdL #[(.slice k l m)] d fun D s=>Ext d s/\∃ n o p,D=(.slice n o p)/\∀ q,zag [] [h] s q->New q 128 [(.slice n o p),(.int .i64 t),(.int .i64 u),(.int .i64 v),(.int .i64 w),(.int .i64 0),(.slice none 0 0)] fun E F=>∀ r,Ext F r->g (.tuple #[(.pointer E),(.int .i64 0)]) r)))
theorem zxV (a:Option Addr) (b c:Nat) (d e f g:Int) (i:World) (j:Value->World->Prop) (h:zyB a b c d e f g i j):FnP Tryz.prog zcW #[(.agg #[(.slice a b c),(.int .i64 d),(.int .i64 e),(.int .i64 f),(.int .i64 g)])] i j:=
 zab (Eq.mp (by kernel_rfl:_=Runs Tryz.prog j ({N:=28,pub:=[27]}:Cfg) Tryz.f18 (Tryz.f18.body.getD .skip) [.agg [.slc a b c,.int .i64 d,.int .i64 e,.int .i64 f,.int .i64 g]] i) h) Tryz.func18 (by kernel_rfl) (fun a w=>Tryz.call18 a w) (by kernel_rfl) (by kernel_rfl) rfl rfl
def ztZ (l:ByteArray) (m:Option Addr) (n o:Nat) (p q r h i j:Int) (b:World) (k:Value->World->Prop):Prop:=
 ∀ e:Nat,b.heap.size<=e->∀ a,Ext b a->Run Tryz.prog (.eq .neq 44 false false (.agg #[(.int .i64 h),(.int .i64 i),(.int .i64 j)]) (.agg #[(.int .i64 0),(.int .i64 0),(.int .i64 0)])) a fun f g=>Ext a g/\∃ c,f=(.bool c)/\∀ d,Ext b d->k (.bool c) d
theorem ztn (a:ByteArray) (b:Option Addr) (c d:Nat) (e f g i j k:Int) (l:World) (m:Value->World->Prop) (h:ztZ a b c d e f g i j k l m):FnP Tryz.prog zeE #[(.agg #[(.string a),(.slice b c d),(.int .i64 e),(.int .i64 f),(.int .i64 g),(.int .i64 i),(.int .i64 j),(.int .i64 k)])] l m:=
 zab (Eq.mp (by kernel_rfl:_=Runs Tryz.prog m ({N:=7}:Cfg) Tryz.f56 (Tryz.f56.body.getD .skip) [.agg [.str a,.slc b c d,.int .i64 e,.int .i64 f,.int .i64 g,.int .i64 i,.int .i64 j,.int .i64 k]] l) h) Tryz.func56 (by kernel_rfl) (fun a w=>Tryz.call56 a w) (by kernel_rfl) (by kernel_rfl) rfl rfl
def zcJ (g:Option Addr) (h i:Nat) (j:Value) (d:World) (k:Value->World->Prop):Prop:=
 ∀ a,Ext d a->FnP Tryz.prog zaq #[(.slice g h i),j] a fun e f=>Ext a f/\∃ b,e=(.int .i64 b)/\∀ c,Ext d c->k (.bool (decide (0<=b))) c
theorem zcI (a:Option Addr) (b c:Nat) (d:Value) (e:World) (f:Value->World->Prop) (h:zcJ a b c d e f):FnP Tryz.prog zaN #[(.slice a b c),d] e f:=
 zab (Eq.mp (by kernel_rfl:_=Runs Tryz.prog f ({N:=9}:Cfg) Tryz.f55 (Tryz.f55.body.getD .skip) [.sc (.slc a b c),.sc (.val d)] e) h) Tryz.func55 (by kernel_rfl) (fun a w=>Tryz.call55 a w) (by kernel_rfl) (by kernel_rfl) rfl rfl
def zde (c:Option Addr) (g z:Nat) (x:Value) (y:World) (u:Value->World->Prop):Prop:=
 ∃ (f:Int->World->Prop) (t:Int->World->Nat),f 0 y/\∀ (a:Int) (b:World),f a b->(((a<(g:Int))->c≠none/\(0:Int)<=a/\(a:Int)<(g:Int)/\(pIdx c a 8)≠none/\∃ h,cell b (pIdx c a 8) 0=some (.string h)/\∃ i j k,cell b (pIdx c a 8) 1=some (.slice i j k)/\∃ l,cell b (pIdx c a 8) 2=some (.int .i64 l)/\∃ m,cell b (pIdx c a 8) 3=some (.int .i64 m)/\∃ n,cell b (pIdx c a 8) 4=some (.int .i64 n)/\∃ o,cell b (pIdx c a 8) 5=some (.int .i64 o)/\∃ p,cell b (pIdx c a 8) 6=some (.int .i64 p)/\∃ q,cell b (pIdx c a 8) 7=some (.int .i64 q)/\∀ d,Ext b d->zin Tryz.prog x [(.agg #[(.string h),(.slice i j k),(.int .i64 l),(.int .i64 m),(.int .i64 n),(.int .i64 o),(.int .i64 p),(.int .i64 q)])] d fun v w=>Ext d w/\∃ e,v=(.bool e)/\((e=true)->∀ r,Ext b r->u (.int .i64 a) r)/\((e=false)->InR .i64 (a+1)/\(f (a+1) b/\t (a+1) b<t a b))))/\(((g:Int)<=a)->∀ s,Ext b s->u (.int .i64 (-1)) s)
theorem zbs (a:Option Addr) (b c:Nat) (d:Value) (e:World) (f:Value->World->Prop) (h:zde a b c d e f):FnP Tryz.prog zaq #[(.slice a b c),d] e f:=
 zab (Eq.mp (by kernel_rfl:_=Runs Tryz.prog f ({N:=19}:Cfg) Tryz.f110 (Tryz.f110.body.getD .skip) [.sc (.slc a b c),.sc (.val d)] e) h) Tryz.func110 (by kernel_rfl) (fun a w=>Tryz.call110 a w) (by kernel_rfl) (by kernel_rfl) rfl rfl
abbrev za3:FuncId:=21
abbrev zbp:FuncId:=22
abbrev zaS:FuncId:=24
abbrev zcv:FuncId:=32
abbrev zcF:FuncId:=81
def zk2 (a:Option Addr) (an:ByteArray) (ao ap aq ar au:Int) (av aw:ByteArray) (ax:Int) (ay:Option Addr) (az aA:Nat) (i:Option Addr) (g aB:Nat) (j:World) (n:Value->World->Prop):Prop:=
 ∀ f:Nat,j.heap.size<=f->∀ q,Ext j q->FnP Tryz.prog zdo #[(.agg #[(.string an),(.int .i64 ao),(.int .i64 ap),(.int .i64 aq),(.int .i64 ar),(.int .i64 au),(.string av),(.string aw),(.int .i64 ax),(.slice ay az aA),(.slice i g aB)])] q fun aG aH=>Ext q aH/\∃ o,aG=(.int .i64 o)/\((o≠0)->∀ y,Ext j y->n (.tuple #[(.int .i64 0),(.int .i64 o)]) y)/\((o=0)->a≠none/\a≠none/\∃ aC r aD,cell j (pAdd a 6) 0=some (.slice aC r aD)/\(((r:Int)=60)->∀ z,Ext j z->n (.tuple #[(.int .i64 0),(.int .i64 7)]) z)/\(((r:Int)≠60)->∃ (w:Int->World->Prop) (al:Int->World->Nat),w 0 j/\∀ (c:Int) (m:World),w c m->(((c<(g:Int))->i≠none/\(0:Int)<=c/\(c:Int)<(g:Int)/\∃ A,cell m (pIdx i c 1) 0=some (.int .i64 A)/\∀ s,zag [] [f] m s->FnP Tryz.prog zbe #[(.pointer a),(.int .i64 A)] s fun aI b=>Ext s b/\∃ e,aI=(.pointer e)/\((e=none)->∀ h,Ext b h->n (.tuple #[(.int .i64 0),(.int .i64 5)]) h)/\((e≠none)->InR .i64 (c+1)/\(w (c+1) b/\al (c+1) b<al c m))))/\(((g:Int)<=c)->∃ (x:Int->World->Prop) (am:Int->World->Nat),x 0 m/\∀ (d:Int) (b:World),x d b->(((d<(g:Int))->i≠none/\(0:Int)<=d/\(d:Int)<(g:Int)/\∃ e,cell b (pIdx i d 1) 0=some (.int .i64 e)/\∀ h,zag [] [f] b h->FnP Tryz.prog zbe #[(.pointer a),(.int .i64 e)] h fun aJ l=>Ext h l/\∃ p,aJ=(.pointer p)/\p≠none/\p≠none/\∃ k,cell l (pAdd p 11) 0=some (.int .i64 k)/\(((k=4)\/(k=5))->∀ B,Ext l B->n (.tuple #[(.int .i64 0),(.int .i64 9)]) B)/\(((k≠4)/\(k≠5))->InR .i64 (d+1)/\(x (d+1) l/\am (d+1) l<am d b))))/\(((g:Int)<=d)->a≠none/\a≠none/\∃ e C D,cell b (pAdd a 6) 0=some (.slice e C D)/\∀ t,zag [] [f] b t->FnP Tryz.prog zjy #[(.agg #[(.string an),(.int .i64 ao),(.int .i64 ap),(.int .i64 aq),(.int .i64 ar),(.int .i64 au),(.string av),(.string aw),(.int .i64 ax),(.slice ay az aA),(.slice i g aB),(.int .i64 1),(.int .i64 0),(.int .i64 0),(.int .i64 0),(.int .i64 0)])] t fun aK ah=>Ext t ah/\∃ E F G H I J K L M N O P R S T U V W X Y,aK=(.agg #[(.string E),(.int .i64 F),(.int .i64 G),(.int .i64 H),(.int .i64 I),(.int .i64 J),(.string K),(.string L),(.int .i64 M),(.slice N O P),(.slice R S T),(.int .i64 U),(.int .i64 V),(.int .i64 W),(.int .i64 X),(.int .i64 Y)])/\∀ u,zag [] [f] ah u->Run Tryz.prog (.buildSlice 57 1 [(0,(.agg #[(.string E),(.int .i64 F),(.int .i64 G),(.int .i64 H),(.int .i64 I),(.int .i64 J),(.string K),(.string L),(.int .i64 M),(.slice N O P),(.slice R S T),(.int .i64 U),(.int .i64 V),(.int .i64 W),(.int .i64 X),(.int .i64 Y)]))]) u fun aL ai=>Ext u ai/\∃ Z aa ab,aL=(.slice Z aa ab)/\∀ v,zag [] [f] ai v->Run Tryz.prog (.append #[57,57] 57 [(.slice e C D),(.slice Z aa ab)]) v fun aM aj=>zbQ [f] v aj/\∃ ac ad ae,aM=(.slice ac ad ae)/\a≠none/\a≠none/\zao aj (pAdd a 6) [(.slice ac ad ae)] [f] fun ak=>a≠none/\a≠none/\∃ aE af aF,cell ak (pAdd a 6) 0=some (.slice aE af aF)/\∀ ag,Ext ak ag->n (.tuple #[(.int .i64 (af:Int)),(.int .i64 0)]) ag))))
theorem zfE (a:Option Addr) (b:ByteArray) (c d e f g:Int) (i j:ByteArray) (k:Int) (l:Option Addr) (m n:Nat) (o:Option Addr) (p q:Nat) (r:World) (s:Value->World->Prop) (h:zk2 a b c d e f g i j k l m n o p q r s):FnP Tryz.prog za3 #[(.pointer a),(.agg #[(.string b),(.int .i64 c),(.int .i64 d),(.int .i64 e),(.int .i64 f),(.int .i64 g),(.string i),(.string j),(.int .i64 k),(.slice l m n),(.slice o p q)])] r s:=
 zab (Eq.mp (by kernel_rfl:_=Runs Tryz.prog s ({N:=72}:Cfg) Tryz.f21 (Tryz.f21.body.getD .skip) [.sc (.ptr a),.agg [.str b,.int .i64 c,.int .i64 d,.int .i64 e,.int .i64 f,.int .i64 g,.str i,.str j,.int .i64 k,.slc l m n,.slc o p q]] r) h) Tryz.func21 (by kernel_rfl) (fun a w=>Tryz.call21 a w) (by kernel_rfl) (by kernel_rfl) rfl rfl
def zk1 (b:Option Addr) (F:Int) (x:Bool) (G:World) (g:Value->World->Prop):Prop:=
 ∀ i,Ext G i->FnP Tryz.prog zbe #[(.pointer b),(.int .i64 F)] i fun y f=>Ext i f/\∃ a,y=(.pointer a)/\((a=none)->∀ r,Ext f r->g (.int .i64 5) r)/\((a≠none)->a≠none/\a≠none/\∃ j,cell f (pAdd a 11) 0=some (.int .i64 j)/\((j≠2)->∀ d,Ext f d->g (.int .i64 9) d)/\((j=2)->∀ d,Ext f d->FnP Tryz.prog zb0 #[(.pointer b),(.pointer a)] d fun z p=>z=(.tuple #[])/\(((x=true)->a≠none/\a≠none/\zao p (pAdd a 11) [(.int .i64 3)] [] fun A=>∀ c,Ext A c->g (.int .i64 0) c))/\((x=false)->a≠none/\a≠none/\∃ k,cell p (pAdd a 15) 0=some (.int .i64 k)/\InR .i64 (k+1)/\a≠none/\a≠none/\zao p (pAdd a 15) [(.int .i64 (k+1))] [] fun c=>b≠none/\b≠none/\(pAdd b 1)≠none/\∃ s,cell c (pAdd b 1) 0=some (.int .i64 s)/\∃ t,cell c (pAdd b 1) 1=some (.int .i64 t)/\∃ u,cell c (pAdd b 1) 2=some (.int .i64 u)/\∃ v,cell c (pAdd b 1) 3=some (.int .i64 v)/\a≠none/\a≠none/\∃ w,cell c (pAdd a 15) 0=some (.int .i64 w)/\∀ l,Ext c l->FnP Tryz.prog zdN #[(.agg #[(.int .i64 s),(.int .i64 t),(.int .i64 u),(.int .i64 v)]),(.int .i64 w)] l fun B C=>Ext l C/\∃ m n,B=(.tuple #[(.int .i64 m),(.int .i64 n)])/\(((n≠0)->a≠none/\a≠none/\zao c (pAdd a 11) [(.int .i64 4)] [] fun D=>∀ h,Ext D h->FnP Tryz.prog zaE #[(.pointer b)] h fun E q=>E=(.tuple #[])/\∀ e,Ext q e->g (.int .i64 0) e))/\((n=0)->b≠none/\b≠none/\∃ o,cell c (pAdd b 5) 0=some (.int .i64 o)/\InR .i64 (o+m)/\a≠none/\a≠none/\zao c (pAdd a 11) [(.int .i64 1)] [] fun h=>a≠none/\a≠none/\zao h (pAdd a 14) [(.int .i64 (o+m))] [] fun q=>∀ e,Ext q e->g (.int .i64 0) e))))
theorem zkN (a:Option Addr) (b:Int) (c:Bool) (d:World) (e:Value->World->Prop) (h:zk1 a b c d e):FnP Tryz.prog zaS #[(.pointer a),(.int .i64 b),(.bool c)] d e:=
 zab (Eq.mp (by kernel_rfl:_=Runs Tryz.prog e ({N:=67,muts:=[74,76]}:Cfg) Tryz.f24 (Tryz.f24.body.getD .skip) [.sc (.ptr a),.sc (.int .i64 b),.sc (.bool (.atom true c))] d) h) Tryz.func24 (by kernel_rfl) (fun a w=>Tryz.call24 a w) (by kernel_rfl) (by kernel_rfl) rfl rfl
def zk0 (i:Option Addr) (w:Int) (x:World) (j:Value->World->Prop):Prop:=
 ∀ m,Ext x m->FnP Tryz.prog zbe #[(.pointer i),(.int .i64 w)] m fun r b=>Ext m b/\∃ a,r=(.pointer a)/\((a=none)->∀ p,Ext b p->j (.int .i64 5) p)/\((a≠none)->a≠none/\a≠none/\∃ k,cell b (pAdd a 11) 0=some (.int .i64 k)/\((k≠1)->a≠none)/\((k≠1)->a≠none)/\(((k≠1)->∃ f,cell b (pAdd a 11) 0=some (.int .i64 f)/\((f≠2)->∀ g,Ext b g->j (.int .i64 9) g)/\((f=2)->a≠none/\a≠none/\∃ n,cell b (pAdd a 11) 0=some (.int .i64 n)/\(((n=2)->∀ c,Ext b c->FnP Tryz.prog zb0 #[(.pointer i),(.pointer a)] c fun o e=>o=(.tuple #[])/\a≠none/\a≠none/\zao e (pAdd a 11) [(.int .i64 5)] [] fun d=>∀ h,Ext d h->FnP Tryz.prog zaE #[(.pointer i)] h fun s l=>s=(.tuple #[])/\∀ q,Ext l q->j (.int .i64 0) q))/\((n≠2)->a≠none/\a≠none/\zao b (pAdd a 11) [(.int .i64 5)] [] fun c=>∀ e,Ext c e->FnP Tryz.prog zaE #[(.pointer i)] e fun t d=>t=(.tuple #[])/\∀ h,Ext d h->j (.int .i64 0) h))))/\((k=1)->a≠none/\a≠none/\∃ f,cell b (pAdd a 11) 0=some (.int .i64 f)/\(((f=2)->∀ g,Ext b g->FnP Tryz.prog zb0 #[(.pointer i),(.pointer a)] g fun u c=>u=(.tuple #[])/\a≠none/\a≠none/\zao c (pAdd a 11) [(.int .i64 5)] [] fun e=>∀ d,Ext e d->FnP Tryz.prog zaE #[(.pointer i)] d fun v h=>v=(.tuple #[])/\∀ l,Ext h l->j (.int .i64 0) l))/\((f≠2)->a≠none/\a≠none/\zao b (pAdd a 11) [(.int .i64 5)] [] fun g=>∀ c,Ext g c->FnP Tryz.prog zaE #[(.pointer i)] c fun o e=>o=(.tuple #[])/\∀ d,Ext e d->j (.int .i64 0) d)))
theorem zkM (a:Option Addr) (b:Int) (c:World) (d:Value->World->Prop) (h:zk0 a b c d):FnP Tryz.prog zcF #[(.pointer a),(.int .i64 b)] c d:=
 zab (Eq.mp (by kernel_rfl:_=Runs Tryz.prog d ({N:=38,muts:=[74,76]}:Cfg) Tryz.f81 (Tryz.f81.body.getD .skip) [.sc (.ptr a),.sc (.int .i64 b)] c) h) Tryz.func81 (by kernel_rfl) (fun a w=>Tryz.call81 a w) (by kernel_rfl) (by kernel_rfl) rfl rfl
def znx (c:Option Addr) (bj:World) (bk:Value->World->Prop):Prop:=
 ∀ x,Ext bj x->FnP Tryz.prog zkr #[] x fun aX K=>Ext x K/\∃ l,aX=(.pointer l)/\c≠none/\c≠none/\∃ aS y aT,cell K (pAdd c 6) 0=some (.slice aS y aT)/\∃ (t:Int->World->Prop) (u:Int->World->Nat),t 0 K/\∀ (b:Int) (f:World),t b f->(((b<(y:Int))->c≠none/\c≠none/\∃ g M aU,cell f (pAdd c 6) 0=some (.slice g M aU)/\g≠none/\(0:Int)<=b/\(b:Int)<(M:Int)/\∀ z,Ext f z->FnP Tryz.prog zef #[(.pointer c),(.pointer (pIdx g b 16))] z fun aY aZ=>Ext z aZ/\∃ A,aY=(.bool A)/\(((A=true)->(pIdx g b 16)≠none/\(pIdx g b 16)≠none/\(pAdd (pIdx g b 16) 0)≠none/\∃ N,cell f (pAdd (pAdd (pIdx g b 16) 0) 1) 0=some (.int .i64 N)/\InR .i64 (b+1)/\∀ p,Ext f p->FnP Tryz.prog zei #[(.pointer l),(.int .i64 N),(.int .i64 (b+1))] p fun a0 aK=>∃ aV,a0=(.int .i64 aV)/\InR .i64 (b+1)/\(t (b+1) aK/\u (b+1) aK<u b f)))/\((A=false)->InR .i64 (b+1)/\(t (b+1) f/\u (b+1) f<u b f))))/\(((y:Int)<=b)->∀ O,Ext f O->FnP Tryz.prog za4 #[(.pointer l)] O fun a1 a2=>∃ P R S,a1=(.tuple #[(.agg #[(.int .i64 P),(.int .i64 R)]),(.bool S)])/\∀ T,Ext a2 T->New T 145 [(.int .i64 0),(.int .i64 0)] fun aL a3=>zao a3 aL [(.int .i64 P),(.int .i64 R)] [] fun p=>∃ (v:Option Addr->Nat->Nat->Option Addr->Bool->World->Prop) (w:Option Addr->Nat->Nat->Option Addr->Bool->World->Nat),v none 0 0 aL S p/\∀ (h:Option Addr) (i:Nat) (j:Nat) (e:Option Addr) (o:Bool) (k:World),v h i j e o k->(((o=true)->e≠none/\∃ U,cell k (pAdd e 1) 0=some (.int .i64 U)/\∀ B,Ext k B->FnP Tryz.prog zbe #[(.pointer c),(.int .i64 U)] B fun a4 d=>Ext B d/\∃ a,a4=(.pointer a)/\c≠none/\c≠none/\∃ V W X,cell d (pAdd c 0) 0=some (.slice V W X)/\a≠none/\a≠none/\(pAdd a 0)≠none/\(pAdd (pAdd a 0) 5)≠none/\∃ Y,cell d (pAdd (pAdd a 0) 5) 0=some (.int .i64 Y)/\∃ Z,cell d (pAdd (pAdd a 0) 5) 1=some (.string Z)/\∃ aa,cell d (pAdd (pAdd a 0) 5) 2=some (.string aa)/\∃ ab,cell d (pAdd (pAdd a 0) 5) 3=some (.int .i64 ab)/\∃ ac ad ae,cell d (pAdd (pAdd a 0) 5) 4=some (.slice ac ad ae)/\a≠none/\a≠none/\(pAdd a 0)≠none/\(pAdd (pAdd a 0) 2)≠none/\∃ af,cell d (pAdd (pAdd a 0) 2) 0=some (.int .i64 af)/\∃ ag,cell d (pAdd (pAdd a 0) 2) 1=some (.int .i64 ag)/\∃ ah,cell d (pAdd (pAdd a 0) 2) 2=some (.int .i64 ah)/\∀ C,Ext d C->FnP Tryz.prog zfq #[(.slice V W X),(.agg #[(.int .i64 Y),(.string Z),(.string aa),(.int .i64 ab),(.slice ac ad ae)]),(.agg #[(.int .i64 af),(.int .i64 ag),(.int .i64 ah)])] C fun a5 a6=>Ext C a6/\∃ q D,a5=(.tuple #[(.int .i64 q),(.int .i64 D)])/\(((D≠0)->e≠none/\∃ m,cell d e 0=some (.int .i64 m)/\∃ ai,cell d e 1=some (.int .i64 ai)/\∀ aj,Ext d aj->New aj 145 [(.int .i64 0),(.int .i64 0)] fun r a7=>zao a7 r [(.int .i64 m),(.int .i64 ai)] [] fun a8=>∀ ak,Ext a8 ak->FnP Tryz.prog za4 #[(.pointer l)] ak fun a9 n=>∃ al am E,a9=(.tuple #[(.agg #[(.int .i64 al),(.int .i64 am)]),(.bool E)])/\zao n r [(.int .i64 al),(.int .i64 am)] [] fun aM=>(v h i j r E aM/\w h i j r E aM<w h i j e o k)))/\((D=0)->c≠none/\c≠none/\∃ m an ao,cell d (pAdd c 0) 0=some (.slice m an ao)/\a≠none/\a≠none/\(pAdd a 0)≠none/\(pAdd (pAdd a 0) 2)≠none/\∃ ap,cell d (pAdd (pAdd a 0) 2) 0=some (.int .i64 ap)/\∃ aq,cell d (pAdd (pAdd a 0) 2) 1=some (.int .i64 aq)/\∃ ar,cell d (pAdd (pAdd a 0) 2) 2=some (.int .i64 ar)/\∀ n,Ext d n->FnP Tryz.prog zkp #[(.slice m an ao),(.int .i64 q),(.agg #[(.int .i64 ap),(.int .i64 aq),(.int .i64 ar)])] n fun ba aN=>Ext n aN/\∃ au av aw aW,ba=(.tuple #[(.slice au av aw),(.int .i64 aW)])/\c≠none/\c≠none/\zao aN (pAdd c 0) [(.slice au av aw)] [] fun aO=>c≠none/\c≠none/\∃ ax,cell aO (pAdd c 5) 0=some (.int .i64 ax)/\a≠none/\a≠none/\zao aO (pAdd a 11) [(.int .i64 2)] [] fun bb=>a≠none/\a≠none/\zao bb (pAdd a 12) [(.int .i64 q)] [] fun bc=>a≠none/\a≠none/\zao bc (pAdd a 13) [(.int .i64 ax)] [] fun aP=>e≠none/\∃ ay,cell aP (pAdd e 1) 0=some (.int .i64 ay)/\∀ F,Ext aP F->Run Tryz.prog (.buildSlice 54 1 [(0,(.agg #[(.int .i64 ay),(.int .i64 q)]))]) F fun bd aQ=>Ext F aQ/\∃ az aA aB,bd=(.slice az aA aB)/\∀ aC,Ext aQ aC->Run Tryz.prog (.append #[54,54] 54 [(.slice h i j),(.slice az aA aB)]) aC fun be L=>∃ G H I,be=(.slice G H I)/\e≠none/\∃ aD,cell L e 0=some (.int .i64 aD)/\∃ aE,cell L e 1=some (.int .i64 aE)/\∀ aF,Ext L aF->New aF 145 [(.int .i64 0),(.int .i64 0)] fun s bf=>zao bf s [(.int .i64 aD),(.int .i64 aE)] [] fun bg=>∀ aG,Ext bg aG->FnP Tryz.prog za4 #[(.pointer l)] aG fun bh bi=>∃ aH aI J,bh=(.tuple #[(.agg #[(.int .i64 aH),(.int .i64 aI)]),(.bool J)])/\zao bi s [(.int .i64 aH),(.int .i64 aI)] [] fun aR=>(v G H I s J aR/\w G H I s J aR<w h i j e o k))))/\((o=false)->∀ aJ,Ext k aJ->bk (.tuple #[(.slice h i j),(.int .i64 0)]) aJ))
theorem zmZ (a:Option Addr) (b:World) (c:Value->World->Prop) (h:znx a b c):FnP Tryz.prog zbp #[(.pointer a)] b c:=
 zab (Eq.mp (by kernel_rfl:_=Runs Tryz.prog c ({N:=116,pub:=[8],muts:=[71,72]}:Cfg) Tryz.f22 (Tryz.f22.body.getD .skip) [.sc (.ptr a)] b) h) Tryz.func22 (by kernel_rfl) (fun a w=>Tryz.call22 a w) (by kernel_rfl) (by kernel_rfl) rfl rfl
def zqt (j:Option Addr) (f:Int) (r:ByteArray) (s t u v w:Int) (x y:ByteArray) (z:Int) (A:Option Addr) (B C:Nat) (D:Option Addr) (E F:Nat) (G m:Int) (H:Bool) (h:World) (i:Value->World->Prop):Prop:=
 ∀ d:Nat,h.heap.size<=d->∀ l,Ext h l->FnP Tryz.prog zcV #[(.agg #[(.int .i64 f),(.string r),(.int .i64 s),(.int .i64 t),(.int .i64 u),(.int .i64 v),(.int .i64 w),(.string x),(.string y),(.int .i64 z),(.slice A B C),(.slice D E F),(.int .i64 G),(.int .i64 m),(.bool H)])] l fun K L=>Ext l L/\∃ k,K=(.int .i64 k)/\((k≠0)->∀ a,Ext h a->i (.int .i64 k) a)/\((k=0)->(((f=1)->∀ a,zag [] [d] h a->FnP Tryz.prog za3 #[(.pointer j),(.agg #[(.string r),(.int .i64 s),(.int .i64 t),(.int .i64 u),(.int .i64 v),(.int .i64 w),(.string x),(.string y),(.int .i64 z),(.slice A B C),(.slice D E F)])] a fun e b=>zbQ [d] a b/\∃ c n,e=(.tuple #[(.int .i64 c),(.int .i64 n)])/\∀ o,Ext b o->i (.int .i64 n) o))/\((f≠1)->(((f=2)->∀ a,zag [] [d] h a->FnP Tryz.prog zcn #[(.pointer j),(.int .i64 G)] a fun e b=>zbQ [d] a b/\∃ c,e=(.int .i64 c)/\∀ g,Ext b g->i (.int .i64 c) g))/\((f≠2)->(((f=3)->∀ a,zag [] [d] h a->FnP Tryz.prog zbp #[(.pointer j)] a fun e b=>zbQ [d] a b/\∃ c I J p,e=(.tuple #[(.slice c I J),(.int .i64 p)])/\∀ q,Ext b q->i (.int .i64 p) q))/\((f≠3)->(((f=4)->∀ a,zag [] [d] h a->FnP Tryz.prog zaS #[(.pointer j),(.int .i64 m),(.bool H)] a fun e b=>zbQ [d] a b/\∃ c,e=(.int .i64 c)/\∀ g,Ext b g->i (.int .i64 c) g))/\((f≠4)->∀ a,zag [] [d] h a->FnP Tryz.prog zcF #[(.pointer j),(.int .i64 m)] a fun e b=>zbQ [d] a b/\∃ c,e=(.int .i64 c)/\∀ g,Ext b g->i (.int .i64 c) g)))))
theorem zpT (a:Option Addr) (b:Int) (c:ByteArray) (d e f g i:Int) (j k:ByteArray) (l:Int) (m:Option Addr) (n o:Nat) (p:Option Addr) (q r:Nat) (s t:Int) (u:Bool) (v:World) (w:Value->World->Prop) (h:zqt a b c d e f g i j k l m n o p q r s t u v w):FnP Tryz.prog zcv #[(.pointer a),(.agg #[(.int .i64 b),(.string c),(.int .i64 d),(.int .i64 e),(.int .i64 f),(.int .i64 g),(.int .i64 i),(.string j),(.string k),(.int .i64 l),(.slice m n o),(.slice p q r),(.int .i64 s),(.int .i64 t),(.bool u)])] v w:=
 zab (Eq.mp (by kernel_rfl:_=Runs Tryz.prog w ({N:=49,muts:=[21,29,22,24,81]}:Cfg) Tryz.f32 (Tryz.f32.body.getD .skip) [.sc (.ptr a),.agg [.int .i64 b,.str c,.int .i64 d,.int .i64 e,.int .i64 f,.int .i64 g,.int .i64 i,.str j,.str k,.int .i64 l,.slc m n o,.slc p q r,.int .i64 s,.int .i64 t,.bool (.atom true u)]] v) h) Tryz.func32 (by kernel_rfl) (fun a w=>Tryz.call32 a w) (by kernel_rfl) (by kernel_rfl) rfl rfl
abbrev zjx:FuncId:=48
abbrev ziv:FuncId:=202
abbrev ziQ:FuncId:=203
abbrev zgQ:FuncId:=204
abbrev zcc:FuncId:=205
abbrev ziw:FuncId:=206
abbrev zgR:FuncId:=207
abbrev zeR:FuncId:=208
abbrev zil:FuncId:=209
abbrev zf4:FuncId:=211
abbrev zd9:FuncId:=212
abbrev zim:FuncId:=213
abbrev zea:FuncId:=214
abbrev zeD:FuncId:=215
abbrev zeb:FuncId:=216
abbrev zec:FuncId:=217
abbrev zix:FuncId:=218
abbrev zla:FuncId:=219
abbrev zgS:FuncId:=220
abbrev zeS:FuncId:=221
abbrev zml:FuncId:=251
abbrev zez:FuncId:=252
abbrev zhl:FuncId:=253
def zqo  (w:World) (Q:Value->World->Prop):Prop :=
  ∀ w0,Ext w w0 ->
  New w0 192 [(.slice none 0 0),(.pointer none)] fun p1 w1 =>
   ∀ w2,Ext w1 w2 ->
   Q (.pointer p1) w2
theorem zxT  (w:World) (Q:Value->World->Prop) (h:zqo  w Q):FnP Tryz.prog zjx #[] w Q:=by
  have e_:zqo  w Q=Runs Tryz.prog Q ({ N:=3,wrap:=[],pub:=[2,1],muts:=[],joins:=[] }:Cfg) Tryz.f48 (Tryz.f48.body.getD .skip) [] w:=by kernel_rfl
  rw [e_] at h
  exact zab h Tryz.func48 (by kernel_rfl) (fun args w=>Tryz.call48 args w) (by kernel_rfl) (by kernel_rfl) rfl rfl
def ztY (b:Int) (f:World) (g:Value->World->Prop):Prop:=
 ((b=0)->∀ a,Ext f a->g .nilIface a)/\((b≠0)->∀ a,Ext f a->Run Tryz.prog (.makeInterface 24 (.int .i64 b)) a fun h e=>Ext a e/\∃ c,h=c/\∀ d,Ext e d->g c d)
theorem ztm (a:Int) (b:World) (c:Value->World->Prop) (h:ztY a b c):FnP Tryz.prog zcc #[(.int .i64 a)] b c:=
 zab (Eq.mp (by kernel_rfl:_=Runs Tryz.prog c ({N:=7}:Cfg) Tryz.f205 (Tryz.f205.body.getD .skip) [.sc (.int .i64 a)] b) h) Tryz.func205 (by kernel_rfl) (fun a w=>Tryz.call205 a w) (by kernel_rfl) (by kernel_rfl) rfl rfl
def zqp (i:Option Addr) (w R:Nat) (a:Int) (F:World) (m:Value->World->Prop):Prop:=
 i≠none/\(0:Int)<=a/\(a:Int)<(w:Int)/\∃ x,cell F (pIdx i a 1) 0=some (.string x)/\∀ n,Ext F n->FnP Tryz.prog zbT #[(.string x),(.int .i64 10),(.int .i64 64)] n fun G c=>Ext n c/\∃ j y,G=(.tuple #[(.int .i64 j),y])/\∀ o,Ext c o->Run Tryz.prog (.eq .neq 175 false true y .nilIface) o fun H I=>Ext o I/\∃ d,H=(.bool d)/\((d=false)->i≠none)/\((d=false)->(0:Int)<=a)/\((d=false)->(a:Int)<(w:Int))/\(((d=true)->∀ p,Ext c p->Run Tryz.prog (.makeInterface 24 (.int .i64 3)) p fun J f=>Ext p f/\∃ q,J=q/\Value.oneCell' q=true/\∀ k,Ext f k->Run Tryz.prog (.makeInterface 257 (.agg #[(.int .i64 a),q])) k fun K g=>Ext k g/\∃ z,K=z/\∀ l,Ext g l->m (.tuple #[(.int .i64 0),z]) l))/\((d=false)->∃ e,cell c (pIdx i a 1) 0=some (.string e)/\(((e.size:Int)<=18)->i≠none)/\(((e.size:Int)<=18)->(0:Int)<=a)/\(((e.size:Int)<=18)->(a:Int)<(w:Int))/\(((18<(e.size:Int))->∀ f,Ext c f->Run Tryz.prog (.makeInterface 24 (.int .i64 3)) f fun L h=>Ext f h/\∃ r,L=r/\Value.oneCell' r=true/\∀ g,Ext h g->Run Tryz.prog (.makeInterface 257 (.agg #[(.int .i64 a),r])) g fun M b=>Ext g b/\∃ A,M=A/\∀ B,Ext b B->m (.tuple #[(.int .i64 0),A]) B))/\(((e.size:Int)<=18)->∃ s,cell c (pIdx i a 1) 0=some (.string s)/\∀ h,Ext c h->FnP Tryz.prog zbC #[(.int .i64 j),(.int .i64 10)] h fun N k=>Ext h k/\∃ t,N=(.string t)/\((((t≠s)\/(j<0))->∀ b,Ext c b->Run Tryz.prog (.makeInterface 24 (.int .i64 3)) b fun O l=>Ext b l/\∃ u,O=u/\Value.oneCell' u=true/\∀ v,Ext l v->Run Tryz.prog (.makeInterface 257 (.agg #[(.int .i64 a),u])) v fun P E=>Ext v E/\∃ C,P=C/\∀ D,Ext E D->m (.tuple #[(.int .i64 0),C]) D))/\(((t=s)/\(0<=j))->∀ b,Ext c b->m (.tuple #[(.int .i64 j),.nilIface]) b)))
theorem zpP (a:Option Addr) (b c:Nat) (d:Int) (e:World) (f:Value->World->Prop) (h:zqp a b c d e f):FnP Tryz.prog zez #[(.slice a b c),(.int .i64 d)] e f:=
 zab (Eq.mp (by kernel_rfl:_=Runs Tryz.prog f ({N:=44}:Cfg) Tryz.f252 (Tryz.f252.body.getD .skip) [.sc (.slc a b c),.sc (.int .i64 d)] e) h) Tryz.func252 (by kernel_rfl) (fun a w=>Tryz.call252 a w) (by kernel_rfl) (by kernel_rfl) rfl rfl
def zro (u:ByteArray) (H:World) (v:Value->World->Prop):Prop:=
 ((u=(⟨#[45]⟩:ByteArray))->∀ d,Ext H d->v (.tuple #[(.slice none 0 0),.nilIface]) d)/\((u≠(⟨#[45]⟩:ByteArray))->∀ d,Ext H d->FnP Tryz.prog zbk #[(.string u),(.string (⟨#[44]⟩:ByteArray))] d fun J E=>Ext d E/\∃ l h I,J=(.slice l h I)/\∃ (t:Option Addr->Nat->Nat->Int->World->Prop) (G:Option Addr->Nat->Nat->Int->World->Nat),t none 0 0 0 E/\∀ (i:Option Addr) (j:Nat) (k:Nat) (a:Int) (c:World),t i j k a c->(((a<(h:Int))->l≠none/\(0:Int)<=a/\(a:Int)<(h:Int)/\∃ w,cell c (pIdx l a 1) 0=some (.string w)/\∀ m,Ext c m->FnP Tryz.prog zdO #[(.string w),(.string (⟨#[61]⟩:ByteArray))] m fun K L=>Ext m L/\∃ x y n,K=(.tuple #[(.string x),(.string y),(.bool n)])/\(((n=false)->∀ b,Ext c b->Run Tryz.prog (.makeInterface 24 (.int .i64 3)) b fun s g=>Ext b g/\∃ e,s=e/\Value.oneCell' e=true/\∀ o,Ext g o->Run Tryz.prog (.makeInterface 257 (.agg #[(.int .i64 3),e])) o fun M F=>Ext o F/\∃ z,M=z/\∀ f,Ext F f->v (.tuple #[(.slice none 0 0),z]) f))/\((n=true)->∀ b,Ext c b->Run Tryz.prog (.buildSlice 74 1 [(0,(.agg #[(.string x),(.string y)]))]) b fun s g=>Ext b g/\∃ e A B,s=(.slice e A B)/\∀ C,Ext g C->Run Tryz.prog (.append #[74,74] 74 [(.slice i j k),(.slice e A B)]) C fun N f=>∃ p q r,N=(.slice p q r)/\InR .i64 (a+1)/\(t p q r (a+1) f/\G p q r (a+1) f<G i j k a c))))/\(((h:Int)<=a)->∀ D,Ext c D->v (.tuple #[(.slice i j k),.nilIface]) D))
theorem zqY (a:ByteArray) (b:World) (c:Value->World->Prop) (h:zro a b c):FnP Tryz.prog zhl #[(.string a)] b c:=
 zab (Eq.mp (by kernel_rfl:_=Runs Tryz.prog c ({N:=38}:Cfg) Tryz.f253 (Tryz.f253.body.getD .skip) [.sc (.str a)] b) h) Tryz.func253 (by kernel_rfl) (fun a w=>Tryz.call253 a w) (by kernel_rfl) (by kernel_rfl) rfl rfl
def ztX (b:Int) (c:World) (d:Value->World->Prop):Prop:=
 ∀ a,Ext c a->d (.int .i64 b) a
theorem zlN (a:Int) (b:World) (c:Value->World->Prop) (h:ztX a b c):FnP Tryz.prog zeD #[(.int .i64 a)] b c:=
 zab (Eq.mp (by kernel_rfl:_=Runs Tryz.prog c ({N:=4}:Cfg) Tryz.f215 (Tryz.f215.body.getD .skip) [.sc (.int .i64 a)] b) h) Tryz.func215 (by kernel_rfl) (fun a w=>Tryz.call215 a w) (by kernel_rfl) (by kernel_rfl) rfl rfl
def zrp (h:Bool) (k:Value) (i:World) (j:Value->World->Prop):Prop:=
 (((h=true)->∀ a,Ext i a->Run Tryz.prog (.makeInterface 24 (.int .i64 9)) a fun d c=>Ext a c/\∃ b,d=b/\∀ e,Ext c e->j (.tuple #[(.string (⟨#[]⟩:ByteArray)),b]) e))/\((h=false)->∀ a,Ext i a->zin Tryz.prog k [] a fun d c=>Ext a c/\∃ b f,d=(.tuple #[(.string b),f])/\∀ g,Ext c g->j (.tuple #[(.string b),f]) g)
theorem zkf (a:Bool) (b:Value) (c:World) (d:Value->World->Prop) (h:zrp a b c d):FnP Tryz.prog zla #[(.bool a),b] c d:=
 zab (Eq.mp (by kernel_rfl:_=Runs Tryz.prog d ({N:=12}:Cfg) Tryz.f219 (Tryz.f219.body.getD .skip) [.sc (.bool (.atom true a)),.sc (.val b)] c) h) Tryz.func219 (by kernel_rfl) (fun a w=>Tryz.call219 a w) (by kernel_rfl) (by kernel_rfl) rfl rfl
def znr (d i:Option Addr) (ac aA:Nat) (j:World) (x:Value->World->Prop):Prop:=
 i≠none/\(0:Int)<=2/\(2:Int)<(ac:Int)/\∃ ad,cell j (pIdx i 2 1) 0=some (.string ad)/\∀ B,Ext j B->FnP Tryz.prog zfr #[(.string ad)] B fun an ao=>Ext B ao/\∃ C D E y,an=(.tuple #[(.agg #[(.int .i64 C),(.int .i64 D),(.int .i64 E)]),(.int .i64 y)])/\∀ a:Nat,j.heap.size<=a->(((y≠0)->∀ F,zag [] [a] j F->Run Tryz.prog (.makeInterface 24 (.int .i64 y)) F fun ap g=>Ext F g/\∃ G,ap=G/\Value.oneCell' G=true/\∀ H,zag [] [a] g H->Run Tryz.prog (.makeInterface 257 (.agg #[(.int .i64 2),G])) H fun aq al=>Ext H al/\∃ ae,aq=ae/\∀ af,Ext al af->x (.tuple #[(.string (⟨#[]⟩:ByteArray)),ae]) af))/\((y=0)->i≠none/\(0:Int)<=3/\(3:Int)<(ac:Int)/\∃ ag,cell j (pIdx i 3 1) 0=some (.string ag)/\∀ g,zag [] [a] j g->FnP Tryz.prog zhl #[(.string ag)] g fun ar c=>Ext g c/\∃ I J K L,ar=(.tuple #[(.slice I J K),L])/\∀ M,Ext c M->Run Tryz.prog (.eq .neq 175 false true L .nilIface) M fun au av=>Ext M av/\∃ N,au=(.bool N)/\((N=true)->∀ ah,Ext c ah->x (.tuple #[(.string (⟨#[]⟩:ByteArray)),L]) ah)/\((N=false)->d≠none/\d≠none/\∃ O,cell c (pAdd d 1) 0=some (.pointer O)/\(((O≠none)->∀ P,zag [] [a] c P->Run Tryz.prog (.makeInterface 24 (.int .i64 9)) P fun aw am=>Ext P am/\∃ ai,aw=ai/\∀ h,Ext am h->x (.tuple #[(.string (⟨#[]⟩:ByteArray)),ai]) h))/\((O=none)->∃ (Y:Option Addr->Nat->Nat->World->Prop),(d≠none/\d≠none/\∃ R S T,cell c (pAdd d 0) 0=some (.slice R S T)/\i≠none/\(0:Int)<=1/\(1:Int)<(ac:Int)/\∃ U,cell c (pIdx i 1 1) 0=some (.string U)/\(∀ b,zag [] [a] c b->FnP Tryz.prog zak #[(.slice R S T)] b fun V u=>Ext b u/\∃ k l m,V=(.slice k l m)/\∀ e,zag [] [a] u e->Run Tryz.prog (.buildSlice 34 1 [(0,(.agg #[(.string U),(.slice I J K),(.int .i64 C),(.int .i64 D),(.int .i64 E),(.int .i64 0),(.int .i64 0),(.int .i64 0)]))]) e fun W v=>Ext e v/\∃ n o p,W=(.slice n o p)/\∀ f,zag [] [a] v f->Run Tryz.prog (.append #[34,34] 34 [(.slice k l m),(.slice n o p)]) f fun X w=>zbQ [a] f w/\∃ q r s,X=(.slice q r s)/\Y q r s w)/\∀ b,zag [] [a] c b->Run Tryz.prog (.buildSlice 34 1 [(0,(.agg #[(.string U),(.slice I J K),(.int .i64 C),(.int .i64 D),(.int .i64 E),(.int .i64 0),(.int .i64 0),(.int .i64 0)]))]) b fun V u=>Ext b u/\∃ k l m,V=(.slice k l m)/\∀ e,zag [] [a] u e->FnP Tryz.prog zak #[(.slice R S T)] e fun W v=>Ext e v/\∃ n o p,W=(.slice n o p)/\∀ f,zag [] [a] v f->Run Tryz.prog (.append #[34,34] 34 [(.slice n o p),(.slice k l m)]) f fun X w=>zbQ [a] f w/\∃ q r s,X=(.slice q r s)/\Y q r s w)/\∀ (Z:Option Addr) (aa:Nat) (ab:Nat) (A:World),Y Z aa ab A->∀ h,Ext A h->FnP Tryz.prog zcd #[(.slice Z aa ab)] h fun ax ay=>Ext h ay/\∃ z,ax=(.int .i64 z)/\(((z≠0)->∀ t,zag [] [a] A t->Run Tryz.prog (.makeInterface 24 (.int .i64 z)) t fun az b=>Ext t b/\∃ aj,az=aj/\∀ ak,Ext b ak->x (.tuple #[(.string (⟨#[]⟩:ByteArray)),aj]) ak))/\((z=0)->d≠none/\d≠none/\zao A (pAdd d 0) [(.slice Z aa ab)] [a] fun t=>∀ b,Ext t b->x (.tuple #[(.string (⟨#[111,107]⟩:ByteArray)),.nilIface]) b))))
theorem zmT (a b:Option Addr) (c d:Nat) (e:World) (f:Value->World->Prop) (h:znr a b c d e f):FnP Tryz.prog zeR #[(.pointer a),(.slice b c d)] e f:=
 zab (Eq.mp (by kernel_rfl:_=Runs Tryz.prog f ({N:=64,muts:=[21,29,22,24,81]}:Cfg) Tryz.f208 (Tryz.f208.body.getD .skip) [.sc (.ptr a),.sc (.slc b c d)] e) h) Tryz.func208 (by kernel_rfl) (fun a w=>Tryz.call208 a w) (by kernel_rfl) (by kernel_rfl) rfl rfl
def znt (a v:Option Addr) (w x:Nat) (f:World) (j:Value->World->Prop):Prop:=
 a≠none/\a≠none/\∃ g,cell f (pAdd a 1) 0=some (.pointer g)/\(((g≠none)->∀ h,Ext f h->Run Tryz.prog (.makeInterface 24 (.int .i64 9)) h fun s r=>Ext h r/\∃ k,s=k/\∀ b,Ext r b->j (.tuple #[(.string (⟨#[]⟩:ByteArray)),k]) b))/\((g=none)->a≠none/\a≠none/\∃ l m n,cell f (pAdd a 0) 0=some (.slice l m n)/\∀ b,Ext f b->FnP Tryz.prog zcW #[(.agg #[(.slice l m n),(.int .i64 10),(.int .i64 2),(.int .i64 100),(.int .i64 3)])] b fun t i=>Ext b i/\∃ o e,t=(.tuple #[(.pointer o),(.int .i64 e)])/\(((e≠0)->∀ c,Ext i c->Run Tryz.prog (.makeInterface 24 (.int .i64 e)) c fun u d=>Ext c d/\∃ p,u=p/\∀ q,Ext d q->j (.tuple #[(.string (⟨#[]⟩:ByteArray)),p]) q))/\((e=0)->a≠none/\a≠none/\zao i (pAdd a 1) [(.pointer o)] [] fun c=>∀ d,Ext c d->j (.tuple #[(.string (⟨#[111,107]⟩:ByteArray)),.nilIface]) d))
theorem zmV (a b:Option Addr) (c d:Nat) (e:World) (f:Value->World->Prop) (h:znt a b c d e f):FnP Tryz.prog zil #[(.pointer a),(.slice b c d)] e f:=
 zab (Eq.mp (by kernel_rfl:_=Runs Tryz.prog f ({N:=32,muts:=[21,29,22,24,81]}:Cfg) Tryz.f209 (Tryz.f209.body.getD .skip) [.sc (.ptr a),.sc (.slc b c d)] e) h) Tryz.func209 (by kernel_rfl) (fun a w=>Tryz.call209 a w) (by kernel_rfl) (by kernel_rfl) rfl rfl
def zkY (n aa:Option Addr) (o p:Nat) (P:World) (R:Value->World->Prop):Prop:=
 (0:Int)<=1/\(1:Int)<=(o:Int)/\((o:Int):Int)<=(p:Int)/\∀ f,Ext P f->FnP Tryz.prog zbf #[(.slice (pCut aa p 1 1) ((o:Int)-1).toNat (p-(1:Int).toNat)),(.string (⟨#[32]⟩:ByteArray))] f fun S T=>Ext f T/\∃ q,S=(.string q)/\∀ g,Ext P g->FnP Tryz.prog zgT #[(.string q)] g fun U c=>Ext g c/\∃ r s t u v w x y z A B C D E F d,U=(.tuple #[(.agg #[(.string r),(.int .i64 s),(.int .i64 t),(.int .i64 u),(.int .i64 v),(.int .i64 w),(.string x),(.string y),(.int .i64 z),(.slice A B C),(.slice D E F)]),(.int .i64 d)])/\∀ a:Nat,c.heap.size<=a->(((d≠0)->∀ h,zag [] [a] c h->Run Tryz.prog (.makeInterface 24 (.int .i64 d)) h fun V b=>Ext h b/\∃ i,V=i/\Value.oneCell' i=true/\∀ j,zag [] [a] b j->Run Tryz.prog (.makeInterface 257 (.agg #[(.int .i64 1),i])) j fun W N=>Ext j N/\∃ G,W=G/\∀ e,Ext N e->R (.tuple #[(.string (⟨#[]⟩:ByteArray)),G]) e))/\((d=0)->n≠none/\n≠none/\∃ H,cell c (pAdd n 1) 0=some (.pointer H)/\∀ b,zag [] [a] c b->FnP Tryz.prog za3 #[(.pointer H),(.agg #[(.string r),(.int .i64 s),(.int .i64 t),(.int .i64 u),(.int .i64 v),(.int .i64 w),(.string x),(.string y),(.int .i64 z),(.slice A B C),(.slice D E F)])] b fun X m=>zbQ [a] b m/\∃ I J,X=(.tuple #[(.int .i64 I),(.int .i64 J)])/\∀ k,Ext m k->FnP Tryz.prog zbw #[(.int .i64 I)] k fun Y e=>Ext k e/\∃ K,Y=(.string K)/\∀ l,zag [] [a] m l->FnP Tryz.prog zcc #[(.int .i64 J)] l fun Z O=>Ext l O/\∃ L,Z=L/\∀ M,Ext O M->R (.tuple #[(.string K),L]) M)
theorem zkL (a b:Option Addr) (c d:Nat) (e:World) (f:Value->World->Prop) (h:zkY a b c d e f):FnP Tryz.prog zf4 #[(.pointer a),(.slice b c d)] e f:=
 zab (Eq.mp (by kernel_rfl:_=Runs Tryz.prog f ({N:=35,muts:=[21,29,22,24,81]}:Cfg) Tryz.f211 (Tryz.f211.body.getD .skip) [.sc (.ptr a),.sc (.slc b c d)] e) h) Tryz.func211 (by kernel_rfl) (fun a w=>Tryz.call211 a w) (by kernel_rfl) (by kernel_rfl) rfl rfl
def znu (d ac:Option Addr) (ad ae:Nat) (O:World) (ab:Value->World->Prop):Prop:=
 d≠none/\d≠none/\∃ y,cell O (pAdd d 1) 0=some (.pointer y)/\∀ z,Ext O z->FnP Tryz.prog zbp #[(.pointer y)] z fun S K=>∃ e g P A,S=(.tuple #[(.slice e g P),(.int .i64 A)])/\d≠none/\d≠none/\∃ B,cell K (pAdd d 1) 0=some (.pointer B)/\∀ n,Ext K n->FnP Tryz.prog zba #[(.pointer B)] n fun T L=>Ext n L/\∃ h C R,T=(.slice h C R)/\∃ (x:Option Addr->Nat->Nat->Int->World->Prop) (N:Option Addr->Nat->Nat->Int->World->Nat),x none 0 0 0 L/\∀ (k:Option Addr) (l:Nat) (m:Nat) (a:Int) (b:World),x k l m a b->(((a<(g:Int))->e≠none/\(0:Int)<=a/\(a:Int)<(g:Int)/\(pIdx e a 2)≠none/\∃ D,cell b (pIdx e a 2) 0=some (.int .i64 D)/\∃ f,cell b (pIdx e a 2) 1=some (.int .i64 f)/\∀ i:Nat,b.heap.size<=i->h≠none/\(0:Int)<=f/\(f:Int)<(C:Int)/\(pIdx h f 8)≠none/\∃ o,cell b (pAdd (pIdx h f 8) 0) 0=some (.string o)/\∀ c,Ext b c->FnP Tryz.prog zbw #[(.int .i64 D)] c fun U V=>Ext c V/\∃ j,U=(.string j)/\zdl j (⟨#[64]⟩:ByteArray)/\zdl (j++(⟨#[64]⟩:ByteArray)) o/\∀ p,zag [] [i] b p->Run Tryz.prog (.buildSlice 22 1 [(0,(.string ((j++(⟨#[64]⟩:ByteArray))++o)))]) p fun W M=>Ext p M/\∃ E F G,W=(.slice E F G)/\∀ q,zag [] [i] M q->Run Tryz.prog (.append #[22,22] 22 [(.slice k l m),(.slice E F G)]) q fun X w=>zbQ [i] q w/\∃ r s t,X=(.slice r s t)/\InR .i64 (a+1)/\(x r s t (a+1) w/\N r s t (a+1) w<N k l m a b)))/\(((g:Int)<=a)->∀ u,Ext b u->FnP Tryz.prog zbf #[(.slice k l m),(.string (⟨#[32]⟩:ByteArray))] u fun Y Z=>Ext u Z/\∃ H,Y=(.string H)/\∀ v,Ext b v->FnP Tryz.prog zcc #[(.int .i64 A)] v fun aa c=>Ext v c/\∃ I,aa=I/\∀ J,Ext c J->ab (.tuple #[(.string H),I]) J)
theorem zmW (a b:Option Addr) (c d:Nat) (e:World) (f:Value->World->Prop) (h:znu a b c d e f):FnP Tryz.prog zim #[(.pointer a),(.slice b c d)] e f:=
 zab (Eq.mp (by kernel_rfl:_=Runs Tryz.prog f ({N:=50,muts:=[21,29,22,24,81]}:Cfg) Tryz.f213 (Tryz.f213.body.getD .skip) [.sc (.ptr a),.sc (.slc b c d)] e) h) Tryz.func213 (by kernel_rfl) (fun a w=>Tryz.call213 a w) (by kernel_rfl) (by kernel_rfl) rfl rfl
def znv (h:Option Addr) (a:Int) (o:World) (p:Value->World->Prop):Prop:=
 h≠none/\h≠none/\∃ i,cell o (pAdd h 1) 0=some (.pointer i)/\∀ f,Ext o f->FnP Tryz.prog zaz #[(.pointer i)] f fun r b=>Ext f b/\∃ c d q,r=(.slice c d q)/\((((a<1)\/((d:Int)<a))->∀ g,Ext b g->Run Tryz.prog (.makeInterface 24 (.int .i64 5)) g fun s n=>Ext g n/\∃ j,s=j/\∀ k,Ext n k->p (.tuple #[(.string (⟨#[]⟩:ByteArray)),j]) k))/\(((1<=a)/\(a<=(d:Int)))->InR .i64 (a-1)/\c≠none/\(0:Int)<=(a-1)/\((a-1):Int)<(d:Int)/\(pIdx c (a-1) 16)≠none/\∃ e,cell b (pAdd (pIdx c (a-1) 16) 11) 0=some (.int .i64 e)/\(some (⟨4,0,none⟩:Addr))≠none/\(0:Int)<=e/\(e:Int)<6/\∃ l,cell b (pIdx (some (⟨4,0,none⟩:Addr)) e 1) 0=some (.string l)/\∀ m,Ext b m->p (.tuple #[(.string l),.nilIface]) m)
theorem zmX (a:Option Addr) (b:Int) (c:World) (d:Value->World->Prop) (h:znv a b c d):FnP Tryz.prog zeS #[(.pointer a),(.int .i64 b)] c d:=
 zab (Eq.mp (by kernel_rfl:_=Runs Tryz.prog d ({N:=29}:Cfg) Tryz.f221 (Tryz.f221.body.getD .skip) [.sc (.ptr a),.sc (.int .i64 b)] c) h) Tryz.func221 (by kernel_rfl) (fun a w=>Tryz.call221 a w) (by kernel_rfl) (by kernel_rfl) rfl rfl
def zoh (e:Value) (f:World) (g:Value->World->Prop):Prop:=
 ∀ a,Ext f a->New a 322 [e] fun c d=>∀ b,Ext d b->g (.func (.func 251) #[] #[(.pointer c)]) b
theorem zn6 (a:Value) (b:World) (c:Value->World->Prop) (h:zoh a b c):FnP Tryz.prog ziQ #[a] b c:=
 zab (Eq.mp (by kernel_rfl:_=Runs Tryz.prog c ({N:=4,pub:=[1]}:Cfg) Tryz.f203 (Tryz.f203.body.getD .skip) [.sc (.val a)] b) h) Tryz.func203 (by kernel_rfl) (fun a w=>Tryz.call203 a w) (by kernel_rfl) (by kernel_rfl) rfl rfl
def zl8 (s:Option Addr) (t u:Nat) (v:Option Addr) (w:World) (m:Value->World->Prop):Prop:=
 ∀ b,Ext w b->FnP Tryz.prog zez #[(.slice s t u),(.int .i64 1)] b fun n a=>Ext b a/\∃ f c,n=(.tuple #[(.int .i64 f),c])/\∀ d,Ext a d->Run Tryz.prog (.eq .neq 175 false true c .nilIface) d fun o p=>Ext d p/\∃ e,o=(.bool e)/\((e=true)->∀ g,Ext a g->m (.tuple #[(.string (⟨#[]⟩:ByteArray)),c]) g)/\((e=false)->∃ h,cell a v 0=some h/\∀ i,Ext a i->zin Tryz.prog h [(.int .i64 f)] i fun q r=>∃ j k,q=(.tuple #[(.string j),k])/\∀ l,Ext r l->m (.tuple #[(.string j),k]) l)
theorem zgk (a:Option Addr) (b c:Nat) (d:Option Addr) (e:World) (f:Value->World->Prop) (h:zl8 a b c d e f):FnP Tryz.prog zml #[(.slice a b c),(.pointer d)] e f:=
 zab (Eq.mp (by kernel_rfl:_=Runs Tryz.prog f ({N:=20,muts:=[1000000]}:Cfg) Tryz.f251 (Tryz.f251.body.getD .skip) [.sc (.slc a b c),.sc (.ptr d)] e) h) Tryz.func251 (by kernel_rfl) (fun a w=>Tryz.call251 a w) (by kernel_rfl) (by kernel_rfl) rfl rfl
def zh6 (i:Value) (j:World) (k:Value->World->Prop):Prop:=
 ∀ b,Ext j b->New b 70 [i] fun f g=>∀ a,Ext g a->FnP Tryz.prog ziQ #[(.func (.func 204) #[] #[(.pointer f)])] a fun h e=>Ext a e/\∃ c,h=c/\∀ d,Ext e d->k c d
theorem zhO (a:Value) (b:World) (c:Value->World->Prop) (h:zh6 a b c):FnP Tryz.prog ziv #[a] b c:=
 zab (Eq.mp (by kernel_rfl:_=Runs Tryz.prog c ({N:=5,pub:=[1]}:Cfg) Tryz.f202 (Tryz.f202.body.getD .skip) [.sc (.val a)] b) h) Tryz.func202 (by kernel_rfl) (fun a w=>Tryz.call202 a w) (by kernel_rfl) (by kernel_rfl) rfl rfl
def zgJ (l:Int) (m:Option Addr) (h:World) (n:Value->World->Prop):Prop:=
 ∃ b,cell h m 0=some b/\∀ c,Ext h c->zin Tryz.prog b [(.int .i64 l)] c fun i j=>∃ d,i=(.int .i64 d)/\∀ a,Ext j a->FnP Tryz.prog zcc #[(.int .i64 d)] a fun k g=>Ext a g/\∃ e,k=e/\∀ f,Ext g f->n (.tuple #[(.string (⟨#[111,107]⟩:ByteArray)),e]) f
theorem zgA (a:Int) (b:Option Addr) (c:World) (d:Value->World->Prop) (h:zgJ a b c d):FnP Tryz.prog zgQ #[(.int .i64 a),(.pointer b)] c d:=
 zab (Eq.mp (by kernel_rfl:_=Runs Tryz.prog d ({N:=9,muts:=[1000000]}:Cfg) Tryz.f204 (Tryz.f204.body.getD .skip) [.sc (.int .i64 a),.sc (.ptr b)] c) h) Tryz.func204 (by kernel_rfl) (fun a w=>Tryz.call204 a w) (by kernel_rfl) (by kernel_rfl) rfl rfl
def zh7 (e:Value) (f:Option Addr) (g:World) (h:Value->World->Prop):Prop:=
 ∀ a,Ext g a->New a 70 [e] fun c d=>∀ b,Ext d b->h (.func (.func 207) #[] #[(.pointer f),(.pointer c)]) b
theorem zhP (a:Value) (b:Option Addr) (c:World) (d:Value->World->Prop) (h:zh7 a b c d):FnP Tryz.prog ziw #[a,(.pointer b)] c d:=
 zab (Eq.mp (by kernel_rfl:_=Runs Tryz.prog d ({N:=5,pub:=[2]}:Cfg) Tryz.f206 (Tryz.f206.body.getD .skip) [.sc (.val a),.sc (.ptr b)] c) h) Tryz.func206 (by kernel_rfl) (fun a w=>Tryz.call206 a w) (by kernel_rfl) (by kernel_rfl) rfl rfl
def zgK (l:Int) (m n:Option Addr) (a:World) (i:Value->World->Prop):Prop:=
 ∃ b,cell a m 0=some (.pointer b)/\b≠none/\b≠none/\∃ c,cell a (pAdd b 1) 0=some (.pointer c)/\((c=none)->∀ d,Ext a d->i (.int .i64 9) d)/\((c≠none)->∃ e,cell a n 0=some e/\∀ f,Ext a f->zin Tryz.prog e [(.int .i64 l)] f fun j k=>∃ g,j=(.int .i64 g)/\∀ h,Ext k h->i (.int .i64 g) h)
theorem zgB (a:Int) (b c:Option Addr) (d:World) (e:Value->World->Prop) (h:zgK a b c d e):FnP Tryz.prog zgR #[(.int .i64 a),(.pointer b),(.pointer c)] d e:=
 zab (Eq.mp (by kernel_rfl:_=Runs Tryz.prog e ({N:=13,muts:=[1000000]}:Cfg) Tryz.f207 (Tryz.f207.body.getD .skip) [.sc (.int .i64 a),.sc (.ptr b),.sc (.ptr c)] d) h) Tryz.func207 (by kernel_rfl) (fun a w=>Tryz.call207 a w) (by kernel_rfl) (by kernel_rfl) rfl rfl
def zh8 (i:Int) (j:Option Addr) (b:World) (k:Value->World->Prop):Prop:=
 ∃ a,cell b j 0=some (.pointer a)/\a≠none/\a≠none/\∃ c,cell b (pAdd a 1) 0=some (.pointer c)/\∀ d,Ext b d->FnP Tryz.prog zcn #[(.pointer c),(.int .i64 i)] d fun g h=>∃ e,g=(.int .i64 e)/\∀ f,Ext h f->k (.int .i64 e) f
theorem zhQ (a:Int) (b:Option Addr) (c:World) (d:Value->World->Prop) (h:zh8 a b c d):FnP Tryz.prog zd9 #[(.int .i64 a),(.pointer b)] c d:=
 zab (Eq.mp (by kernel_rfl:_=Runs Tryz.prog d ({N:=10,muts:=[21,29,22,24,81]}:Cfg) Tryz.f212 (Tryz.f212.body.getD .skip) [.sc (.int .i64 a),.sc (.ptr b)] c) h) Tryz.func212 (by kernel_rfl) (fun a w=>Tryz.call212 a w) (by kernel_rfl) (by kernel_rfl) rfl rfl
def zh9 (m:Int) (n:Option Addr) (b:World) (o:Value->World->Prop):Prop:=
 ∃ a,cell b n 0=some (.pointer a)/\a≠none/\a≠none/\∃ d,cell b (pAdd a 1) 0=some (.pointer d)/\∀ c,Ext b c->FnP Tryz.prog zeD #[(.int .i64 m)] c fun i j=>Ext c j/\∃ e,i=(.int .i64 e)/\∀ f,Ext b f->FnP Tryz.prog zaS #[(.pointer d),(.int .i64 e),(.bool true)] f fun k l=>∃ g,k=(.int .i64 g)/\∀ h,Ext l h->o (.int .i64 g) h
theorem zhR (a:Int) (b:Option Addr) (c:World) (d:Value->World->Prop) (h:zh9 a b c d):FnP Tryz.prog zea #[(.int .i64 a),(.pointer b)] c d:=
 zab (Eq.mp (by kernel_rfl:_=Runs Tryz.prog d ({N:=11,muts:=[21,29,22,24,81]}:Cfg) Tryz.f214 (Tryz.f214.body.getD .skip) [.sc (.int .i64 a),.sc (.ptr b)] c) h) Tryz.func214 (by kernel_rfl) (fun a w=>Tryz.call214 a w) (by kernel_rfl) (by kernel_rfl) rfl rfl
def zia (m:Int) (n:Option Addr) (b:World) (o:Value->World->Prop):Prop:=
 ∃ a,cell b n 0=some (.pointer a)/\a≠none/\a≠none/\∃ d,cell b (pAdd a 1) 0=some (.pointer d)/\∀ c,Ext b c->FnP Tryz.prog zeD #[(.int .i64 m)] c fun i j=>Ext c j/\∃ e,i=(.int .i64 e)/\∀ f,Ext b f->FnP Tryz.prog zaS #[(.pointer d),(.int .i64 e),(.bool false)] f fun k l=>∃ g,k=(.int .i64 g)/\∀ h,Ext l h->o (.int .i64 g) h
theorem zhS (a:Int) (b:Option Addr) (c:World) (d:Value->World->Prop) (h:zia a b c d):FnP Tryz.prog zeb #[(.int .i64 a),(.pointer b)] c d:=
 zab (Eq.mp (by kernel_rfl:_=Runs Tryz.prog d ({N:=11,muts:=[21,29,22,24,81]}:Cfg) Tryz.f216 (Tryz.f216.body.getD .skip) [.sc (.int .i64 a),.sc (.ptr b)] c) h) Tryz.func216 (by kernel_rfl) (fun a w=>Tryz.call216 a w) (by kernel_rfl) (by kernel_rfl) rfl rfl
def zib (m:Int) (n:Option Addr) (b:World) (o:Value->World->Prop):Prop:=
 ∃ a,cell b n 0=some (.pointer a)/\a≠none/\a≠none/\∃ d,cell b (pAdd a 1) 0=some (.pointer d)/\∀ c,Ext b c->FnP Tryz.prog zeD #[(.int .i64 m)] c fun i j=>Ext c j/\∃ e,i=(.int .i64 e)/\∀ f,Ext b f->FnP Tryz.prog zcF #[(.pointer d),(.int .i64 e)] f fun k l=>∃ g,k=(.int .i64 g)/\∀ h,Ext l h->o (.int .i64 g) h
theorem zhT (a:Int) (b:Option Addr) (c:World) (d:Value->World->Prop) (h:zib a b c d):FnP Tryz.prog zec #[(.int .i64 a),(.pointer b)] c d:=
 zab (Eq.mp (by kernel_rfl:_=Runs Tryz.prog d ({N:=11,muts:=[21,29,22,24,81]}:Cfg) Tryz.f217 (Tryz.f217.body.getD .skip) [.sc (.int .i64 a),.sc (.ptr b)] c) h) Tryz.func217 (by kernel_rfl) (fun a w=>Tryz.call217 a w) (by kernel_rfl) (by kernel_rfl) rfl rfl
def zic (m:Int) (j:Option Addr) (n:World) (o:Value->World->Prop):Prop:=
 ∀ d,Ext n d->New d 2 [(.int .i64 m)] fun k c=>∃ a,cell c j 0=some (.pointer a)/\a≠none/\a≠none/\∃ e,cell c (pAdd a 1) 0=some (.pointer e)/\∀ b,Ext c b->FnP Tryz.prog zla #[(.bool e.isNone),(.func (.func 220) #[] #[(.pointer j),(.pointer k)])] b fun l i=>Ext b i/\∃ f g,l=(.tuple #[(.string f),g])/\∀ h,Ext i h->o (.tuple #[(.string f),g]) h
theorem zhU (a:Int) (b:Option Addr) (c:World) (d:Value->World->Prop) (h:zic a b c d):FnP Tryz.prog zix #[(.int .i64 a),(.pointer b)] c d:=
 zab (Eq.mp (by kernel_rfl:_=Runs Tryz.prog d ({N:=14,pub:=[2]}:Cfg) Tryz.f218 (Tryz.f218.body.getD .skip) [.sc (.int .i64 a),.sc (.ptr b)] c) h) Tryz.func218 (by kernel_rfl) (fun a w=>Tryz.call218 a w) (by kernel_rfl) (by kernel_rfl) rfl rfl
def zgL (j k:Option Addr) (b:World) (l:Value->World->Prop):Prop:=
 ∃ c,cell b j 0=some (.pointer c)/\∃ d,cell b k 0=some (.int .i64 d)/\∀ a,Ext b a->FnP Tryz.prog zeS #[(.pointer c),(.int .i64 d)] a fun i h=>Ext a h/\∃ e f,i=(.tuple #[(.string e),f])/\∀ g,Ext h g->l (.tuple #[(.string e),f]) g
theorem zgC (a b:Option Addr) (c:World) (d:Value->World->Prop) (h:zgL a b c d):FnP Tryz.prog zgS #[(.pointer a),(.pointer b)] c d:=
 zab (Eq.mp (by kernel_rfl:_=Runs Tryz.prog d ({N:=9}:Cfg) Tryz.f220 (Tryz.f220.body.getD .skip) [.sc (.ptr a),.sc (.ptr b)] c) h) Tryz.func220 (by kernel_rfl) (fun a w=>Tryz.call220 a w) (by kernel_rfl) (by kernel_rfl) rfl rfl
end Go.Proofs.YtcceeahmcecbnaaGreatDoor
namespace Go.Sx
open Go.RowKit
variable {P:Program} {α:Type} [DecidableEq α]
theorem zbU {β γ:Type} (f:β->γ):∀ (l:List β) (j:Nat),(l.eraseIdx j).map f=(l.map f).eraseIdx j
  |[],_ => by simp
  |_::_,0 => by simp
  |a::l,j+1 => by simp [zbU f l j]
structure zBB (P:Program) (k:TypeId) (enc:α->Value) (d:TypeDesc):Prop where
  u:P.underlying k=some d
  same:∀ a b,Instr.sameNow d (enc a) (enc b)=some (decide (a=b))
  check:∀ (em:Bool) (a:α) (w:World),(Instr.checkKey em 10000 k (enc a)).run P w=.ok () w
  stay:∀ a,Instr.sameBits 10000 (enc a) (enc a)=true
theorem zGW {k:TypeId} {kk:IntKind} (h:P.underlying k=some (.int kk)):zBB P k (Value.int kk) (.int kk) :=
  ⟨h,fun a b=>by simp [Instr.sameNow]; rfl,fun em a w=>by
      show (Instr.checkKey em (9999+1) k (.int kk a)).run P w=_
      unfold Instr.checkKey; simp only [Sem.run_bind,run_underlying h,Result.andThen_ok]; rfl,fun a=>by
      show Instr.sameBits (9999+1) (.int kk a) (.int kk a)=true
      unfold Instr.sameBits; simp⟩
theorem zuq (a b:ByteArray):(a==b)=decide (a=b):=by
  have h:(a==b)=(a.data==b.data):=by cases a; cases b; rfl
  rw [h]
  by_cases he:a=b
  · subst he; simp
  · have:a.data≠b.data:=fun hd=>he (by cases a; cases b; simp_all)
    simp [he,this]
theorem zs0 {k:TypeId} (h:P.underlying k=some .string):zBB P k Value.string .string :=
  ⟨h,fun a b=>by simp [Instr.sameNow,zuq],fun em a w=>by
      show (Instr.checkKey em (9999+1) k (.string a)).run P w=_
      unfold Instr.checkKey; simp only [Sem.run_bind,run_underlying h,Result.andThen_ok]; rfl,fun a=>by
      show Instr.sameBits (9999+1) (.string a) (.string a)=true
      unfold Instr.sameBits; rw [zuq]; simp⟩
def ziD:List (α×Value)->α->Option Value
  |[],_ => none
  |(b,u)::r,a => if b=a then some u else ziD r a
def zqC:List (α×Value)->α->Value->List (α×Value)
  |[],a,v => [(a,v)]
  |(b,u)::r,a,v => if b=a then (a,v)::r else (b,u)::zqC r a v
def zvb:List (α×Value)->α->List (α×Value)
  |[],_ => []
  |(b,u)::r,a => if b=a then r else (b,u)::zvb r a
def zjV:List (α×Value)->α->Nat->Option (Nat×Value)
  |[],_,_ => none
  |(b,u)::r,a,i => if b=a then some (i,u) else zjV r a (i+1)
def zdF (m:List (α×Value)):List α:=m.map (·.1)
theorem zlD (m:List (α×Value)) (a b:α) (v:Value):ziD (zqC m a v) b=if a=b then some v else ziD m b:=by
  induction m with
  |nil => rfl
  |cons x r ih =>
    obtain ⟨c,u⟩:=x
    simp only [zqC]
    by_cases h:c=a
    · subst h; rw [if_pos rfl]; simp only [ziD]
      by_cases hb:c=b
      · rw [if_pos hb,if_pos hb]
      · rw [if_neg hb,if_neg hb,if_neg hb]
    · rw [if_neg h]; simp only [ziD,ih]
      by_cases hb:c=b
      · rw [if_pos hb,if_neg (fun he=>h (hb.trans he.symm)),if_pos hb]
      · rw [if_neg hb,if_neg hb]
theorem zr6 (m:List (α×Value)) (a:α) (v:Value):zdF (zqC m a v)=if a∈zdF m then zdF m else zdF m++[a]:=by
  induction m with
  |nil => rfl
  |cons x r ih =>
    obtain ⟨c,u⟩:=x
    simp only [zqC]
    by_cases h:c=a
    · subst h; rw [if_pos rfl]; simp [zdF]
    · rw [if_neg h]
      have e:zdF ((c,u)::zqC r a v)=c::zdF (zqC r a v):=rfl
      rw [e,ih]
      have e2:zdF ((c,u)::r)=c::zdF r:=rfl
      rw [e2]
      by_cases hm:a∈zdF r
      · rw [if_pos hm,if_pos (by simp [hm])]
      · rw [if_neg hm,if_neg (by simp [hm]; exact fun he=>h he.symm)]; rfl
theorem zDI {m:List (α×Value)} {a:α}:ziD m a=none↔a∉zdF m:=by
  induction m with
  |nil => simp [ziD,zdF]
  |cons x r ih =>
    obtain ⟨c,u⟩:=x
    have e2:zdF ((c,u)::r)=c::zdF r:=rfl
    rw [e2]
    simp only [ziD]
    by_cases h:c=a
    · subst h; simp
    · rw [if_neg h,ih]; simp; exact fun _ he=>h he.symm
theorem zvc (m:List (α×Value)) (hn:(zdF m).Nodup) (a b:α):ziD (zvb m a) b=if a=b then none else ziD m b:=by
  induction m with
  |nil => simp [zvb,ziD]
  |cons x r ih =>
    obtain ⟨c,u⟩:=x
    have e2:zdF ((c,u)::r)=c::zdF r:=rfl
    rw [e2,List.nodup_cons] at hn
    simp only [zvb]
    by_cases h:c=a
    · subst h; rw [if_pos rfl]; simp only [ziD]
      by_cases hb:c=b
      · subst hb; rw [if_pos rfl]; exact zDI.2 hn.1
      · rw [if_neg hb,if_neg hb]
    · rw [if_neg h]; simp only [ziD,ih hn.2]
      by_cases hb:c=b
      · subst hb; rw [if_pos rfl,if_neg (fun he=>h he.symm),if_pos rfl]
      · rw [if_neg hb,if_neg hb]
theorem zr5 (m:List (α×Value)) (a:α):zdF (zvb m a)=(zdF m).erase a:=by
  induction m with
  |nil => rfl
  |cons x r ih =>
    obtain ⟨c,u⟩:=x
    simp only [zvb]
    have e2:zdF ((c,u)::r)=c::zdF r:=rfl
    by_cases h:c=a
    · subst h; rw [if_pos rfl,e2]; simp
    · rw [if_neg h,e2,List.erase_cons_tail (by simpa using h),<- ih]; rfl
theorem zfj {m:List (α×Value)} {a:α} {i j:Nat} {u:Value} (h:zjV m a i=some (j,u)):i<=j/\m[j-i]?=some (a,u)/\(∀ v,zqC m a v=m.set (j-i) (a,v))/\zvb m a=m.eraseIdx (j-i)/\ziD m a=some u:=by
  induction m generalizing i with
  |nil => simp [zjV] at h
  |cons x r ih =>
    obtain ⟨c,v⟩:=x
    simp only [zjV] at h
    by_cases hc:c=a
    · subst hc
      rw [if_pos rfl] at h
      obtain ⟨rfl,rfl⟩:=Prod.mk.inj (Option.some.inj h)
      refine ⟨Nat.le_refl _,by simp,fun w=>by simp [zqC],by simp [zvb],by simp [ziD]⟩
    · rw [if_neg hc] at h
      obtain ⟨h1,h2,h3,h4,h5⟩:=ih h
      have e:j-i=(j-(i+1))+1:=by omega
      refine ⟨by omega,by rw [e]; simpa using h2,fun w=>?_,?_,?_⟩
      · rw [e]; simp only [zqC,if_neg hc,h3 w,List.set_cons_succ]
      · rw [e]; simp only [zvb,if_neg hc,h4,List.eraseIdx_cons_succ]
      · simp only [ziD,if_neg hc,h5]
theorem zfi {m:List (α×Value)} {a:α} {i:Nat} (h:zjV m a i=none):(∀ v,zqC m a v=m++[(a,v)])/\zvb m a=m/\ziD m a=none:=by
  induction m generalizing i with
  |nil => exact ⟨fun _ => rfl,rfl,rfl⟩
  |cons x r ih =>
    obtain ⟨c,v⟩:=x
    simp only [zjV] at h
    by_cases hc:c=a
    · rw [if_pos hc] at h; cases h
    · rw [if_neg hc] at h
      obtain ⟨h1,h2,h3⟩:=ih h
      exact ⟨fun w=>by simp [zqC,hc,h1 w],by simp [zvb,hc,h2],by simp [ziD,hc,h3]⟩
section
variable {k:TypeId} {enc:α->Value} {d:TypeDesc}
theorem zuE (K:zBB P k enc d) (a:α):∀ (m:List (α×Value)) (es:List MapEntry) (i:Nat),es.map (fun e=>(e.key,e.val))=m.map (fun x=>(enc x.1,x.2))->Instr.findNow d (enc a) es i=some (zjV m a i)
  |[],es,i,h => by
    simp at h; subst h; rfl
  |(b,u)::m,es,i,h => by
    cases es with
    |nil => simp at h
    |cons e es =>
      simp only [List.map_cons,List.cons.injEq,Prod.mk.injEq] at h
      obtain ⟨⟨h1,h2⟩,h3⟩:=h
      unfold Instr.findNow
      rw [h1,K.same]
      by_cases hab:b=a
      · subst hab; simp [zjV,h2]
      · have:decide (a=b)=false:=by simp; exact fun he=>hab he.symm
        rw [this]; simp only [zjV,if_neg hab]
        exact zuE K a m es (i+1) h3
structure zdb (enc:α->Value) (w:World) (r:Nat) (m:List (α×Value)):Prop where
  nodup:(zdF m).Nodup
  es:∃ es clock,w.heap[r]?=some (.map es clock)/\es.toList.map (fun e=>(e.key,e.val))=m.map (fun x=>(enc x.1,x.2))
theorem zdb.lt {w:World} {r:Nat} {m:List (α×Value)} (h:zdb enc w r m):r<w.heap.size:=by
  obtain ⟨es,c,h1,_⟩:=h.es
  exact (Array.getElem?_eq_some_iff.1 h1).1
theorem zdb.ext {w w':World} {r:Nat} {m:List (α×Value)} (h:zdb enc w r m) (he:Ext w w'):zdb enc w' r m:=by
  have hl:=h.lt
  obtain ⟨es,c,h1,h2⟩:=h.es
  exact ⟨h.nodup,es,c,by rw [he.block r hl]; exact h1,h2⟩
theorem zdb.grew {w w':World} {r:Nat} {m:List (α×Value)} {p q:Option Addr} (h:zdb enc w r m) (hp:∀ x,p=some x->x.block≠r) (hg:zco w w' p q):zdb enc w' r m:=by
  have hl:=h.lt
  obtain ⟨es,c,h1,h2⟩:=h.es
  refine ⟨h.nodup,es,c,?_,h2⟩
  rw [hg.by_.block r hl fun he=>?_]
  · exact h1
  · cases p with
    |none => cases he
    |some x => simp [blk] at he; exact hp x rfl he.symm
theorem zkT {t:TypeId} {w:World} {K:Value->World->Prop} (hk:∀ w',zdb enc w' w.heap.size []->Ext w w'->K (.map (some w.heap.size)) w'):Run P (.makeMap t) w K:=by
  refine ⟨_,w.alloc (.map #[] 0),rfl,hk _ ⟨by simp [zdF],#[],0,?_,rfl⟩ (Below.alloc (Below.refl _ _) (Nat.le_refl _) _)⟩
  exact heap_alloc_new w _
theorem zdW (K:zBB P k enc d) {w:World} {m:List (α×Value)} {es:Array MapEntry} (h:es.toList.map (fun e=>(e.key,e.val))=m.map (fun x=>(enc x.1,x.2))) (a:α):(Instr.findKey k (enc a) es.toList).run P w=.ok (zjV m a 0) w:=by
  unfold Instr.findKey
  rw [Sem.run_bind,run_underlying K.u,Result.andThen_ok,zuE K a m _ 0 h]
  simp
theorem zcx {w:World} {r:Nat} {es:Array MapEntry} {c:Nat} (h:w.heap[r]?=some (.map es c)):(getObj r).run P w=.ok (.map es c) w:=by simp [getObj,Sem.run,h]
theorem znc (K:zBB P k enc d) {t e:TypeId} (ht:P.underlying t=some (.map k e)) {i:TypeInfo} {z:Value} (hi:P.info? e=some i) (hz:i.zero=some z) {w:World} {r:Nat} {m:List (α×Value)} (h:zdb enc w r m) {a:α} {ok:Bool} {Q:Value->World->Prop}
    (hk:Q (if ok then .tuple #[(ziD m a).getD z,.bool (ziD m a).isSome] else (ziD m a).getD z) w):Run P (.lookup t (.map (some r)) (enc a) ok) w Q:=by
  obtain ⟨es,c,h1,h2⟩:=h.es
  refine ⟨_,w,?_,hk⟩
  show (Instr.lookup t (.map (some r)) (enc a) ok).run P w=_
  have hzv:(zeroValue e).run P w=.ok z w:=by simp [zeroValue,typeInfo,hi,hz]
  unfold Instr.lookup
  simp only [Sem.run_bind,run_underlying ht,Result.andThen_ok,zcx h1,Sem.run_pure,K.check,zdW K h2]
  cases hf:zjV m a 0 with
  |none =>
    have:=(zfi hf).2.2
    cases ok<;>simp [this,hzv]
  |some x =>
    obtain ⟨j,u⟩:=x
    have:=(zfj hf).2.2.2.2
    cases ok<;>simp [this]
theorem zHx (K:zBB P k enc d) {t e:TypeId} (ht:P.underlying t=some (.map k e)) {sz b:Nat} {t':TypeId} {z:Value} (he:zfW P t'=some (e,sz,b,z)) {w:World} {r:Nat} {m:List (α×Value)} (h:zdb enc w r m) {a:α} {Q:Value->World->Prop}
    (hk:Q ((ziD m a).getD z) w):Run P (.lookup t (.map (some r)) (enc a) false) w Q:=by
  obtain ⟨i,_,h2,h6,_⟩:=zd2 he
  exact znc K ht h2 h6 h hk
theorem zcf {w:World} {r:Nat} {es es':Array MapEntry} {c c':Nat} (h:w.heap[r]?=some (.map es c)):∃ w',(setObj r (.map es' c')).run P w=.ok () w'/\w'.heap[r]?=some (.map es' c')/\zco w w' (some ⟨r,0,none⟩) (some ⟨r,0,none⟩):=by
  have hl:=(Array.getElem?_eq_some_iff.1 h).1
  refine ⟨{ w with heap:=w.heap.setIfInBounds r (.map es' c') },by simp [setObj,Sem.run,h],by simp [hl],⟨⟨rfl,rfl,rfl,by simp,fun j hj hne=>?_⟩,.inl rfl⟩⟩
  have:r≠j:=fun he=>hne (by simp [blk,he])
  simp [Array.getElem?_setIfInBounds,this]
theorem zh1 (K:zBB P k enc d) {t e:TypeId} (ht:P.underlying t=some (.map k e)) {w:World} {r:Nat} {m:List (α×Value)} (h:zdb enc w r m) {a:α} {v:Value} {Q:Value->World->Prop}
    (hk:∀ w',zdb enc w' r (zqC m a v)->zco w w' (some ⟨r,0,none⟩) (some ⟨r,0,none⟩)->Q undef w'):Run P (.mapUpdate t (.map (some r)) (enc a) v) w Q:=by
  obtain ⟨es,c,h1,h2⟩:=h.es
  have hn:(zdF (zqC m a v)).Nodup:=by
    rw [zr6]
    split
    · exact h.nodup
    · rename_i hm
      rw [List.nodup_append]
      exact ⟨h.nodup,by simp,fun x hx y hy he=>by simp at hy; subst hy; subst he; exact hm hx⟩
  cases hf:zjV m a 0 with
  |none =>
    obtain ⟨g1,_,g3⟩:=zfi hf
    obtain ⟨w',r1,r2,r3⟩:=zcf (P:=P) (es':=es.push { key:=enc a,val:=v,born:=c }) (c':=c+1) h1
    refine ⟨_,w',?_,hk w' ⟨hn,_,_,r2,?_⟩ r3⟩
    · show (do Instr.mapUpdate t (.map (some r)) (enc a) v; pure undef:Sem Value).run P w=_
      unfold Instr.mapUpdate
      simp only [Sem.run_bind,run_underlying ht,Result.andThen_ok,zcx h1,K.check,zdW K h2,hf,r1,Sem.run_pure]
    · rw [g1]; simp [h2]
  |some x =>
    obtain ⟨j,u⟩:=x
    obtain ⟨_,g2,g3,_,_⟩:=zfj hf
    rw [Nat.sub_zero] at g2
    have hj:j<es.size:=by
      have:=congrArg List.length h2
      simp at this
      have:=(List.getElem?_eq_some_iff.1 g2).1
      omega
    have hkey:es[j].key=enc a:=by
      have:=congrArg (fun l=>l[j]?) h2
      simp [g2,hj] at this
      exact this.1
    have hst:(Instr.keyThatStays (enc a) (enc a)).run P w=.ok (enc a) w:=by unfold Instr.keyThatStays; rw [K.stay]; simp
    obtain ⟨w',r1,r2,r3⟩:=zcf (P:=P) (es':=es.modify j fun e=>{ e with key:=enc a,val:=v }) (c':=c) h1
    refine ⟨_,w',?_,hk w' ⟨hn,_,_,r2,?_⟩ r3⟩
    · show (do Instr.mapUpdate t (.map (some r)) (enc a) v; pure undef:Sem Value).run P w=_
      unfold Instr.mapUpdate
      simp only [Sem.run_bind,run_underlying ht,Result.andThen_ok,zcx h1,K.check,zdW K h2,hf]
      simp only [Array.getElem?_eq_getElem hj,Option.map_some,Option.getD_some,hkey,hst,Result.andThen_ok,r1,Sem.run_pure]
    · rw [g3,Nat.sub_zero]
      apply List.ext_getElem?
      intro i
      rw [List.map_set,<- h2]
      simp only [List.getElem?_map,Array.getElem?_toList,Array.getElem?_modify,List.getElem?_set,List.length_map,Array.length_toList]
      by_cases hij:j=i
      · subst hij; simp [hj]
      · simp [hij]
theorem zBo (K:zBB P k enc d) {t e ty:TypeId} {ts:List TypeId} (ht:P.underlying t=some (.map k e)) {w:World} {r:Nat} {m:List (α×Value)} (h:zdb enc w r m) {a:α} {Q:Value->World->Prop}
    (hk:∀ w',zdb enc w' r (zvb m a)->zco w w' (some ⟨r,0,none⟩) (some ⟨r,0,none⟩)->Q (.tuple #[]) w'):Run P (.delete (t::ts).toArray ty [.map (some r),enc a]) w Q:=by
  obtain ⟨es,c,h1,h2⟩:=h.es
  have hn:(zdF (zvb m a)).Nodup:=by rw [zr5]; exact h.nodup.erase _
  cases hf:zjV m a 0 with
  |none =>
    obtain ⟨_,g1,g3⟩:=zfi hf
    obtain ⟨w',r1,r2,r3⟩:=zcf (P:=P) (es':=es) (c':=c) h1
    refine ⟨_,w',?_,hk w' ⟨hn,_,_,r2,by rw [g1]; exact h2⟩ r3⟩
    show (Builtin.delete_ (t::ts).toArray ty #[.map (some r),enc a]).run P w=_
    unfold Builtin.delete_
    simp [run_underlying ht,zcx h1,K.check,zdW K h2,hf,r1]
  |some x =>
    obtain ⟨j,u⟩:=x
    obtain ⟨_,g2,_,g4,_⟩:=zfj hf
    rw [Nat.sub_zero] at g2 g4
    obtain ⟨w',r1,r2,r3⟩:=zcf (P:=P) (es':=es.eraseIdxIfInBounds j) (c':=c) h1
    refine ⟨_,w',?_,hk w' ⟨hn,_,_,r2,?_⟩ r3⟩
    · show (Builtin.delete_ (t::ts).toArray ty #[.map (some r),enc a]).run P w=_
      unfold Builtin.delete_
      simp [run_underlying ht,zcx h1,K.check,zdW K h2,hf,r1]
    · have hj:j<es.size:=by
        have:=congrArg List.length h2
        simp at this
        have:=(List.getElem?_eq_some_iff.1 g2).1
        omega
      rw [g4]
      have:(es.eraseIdxIfInBounds j).toList=es.toList.eraseIdx j:=by simp [Array.eraseIdxIfInBounds,hj]
      rw [this,zbU,h2,<- zbU]
end
variable {P:Program}
structure zn2 where
  e:TypeId
  s:Nat
  p:Option Addr
  n:Nat
  c:Nat
  xs:List Value
def zn2.ok (B:Nat) (w:World) (r:zn2):Prop:=Own B w r.e r.s r.p r.n r.c r.xs
structure zc4 (w0:World) (ns:List Nat) (w:World) (rs:List zn2):Prop where
  ext:Ext w0 w
  own:∀ (i:Nat) (r:zn2),rs[i]?=some r->r.ok w0.heap.size w
  apart:∀ (i j:Nat) (a b:zn2),i≠j->rs[i]?=some a->rs[j]?=some b->zbK a.p b.p
  free:∀ (i:Nat) (r:zn2),rs[i]?=some r->∀ b∈ns,∀ x,r.p=some x->x.block≠b
theorem zc4.nil {w0 w:World} {ns:List Nat} (h:Ext w0 w):zc4 w0 ns w [] :=
  ⟨h,fun i r hr=>by simp at hr,fun i j a b _ ha=>by simp at ha,fun i r hr=>by simp at hr⟩
theorem zc4.get {w0 w:World} {ns:List Nat} {rs:List zn2} (h:zc4 w0 ns w rs) (i:Nat) {e:TypeId} {s:Nat} {p:Option Addr} {n c:Nat} {xs:List Value} (hi:rs[i]?=some ⟨e,s,p,n,c,xs⟩):Own w0.heap.size w e s p n c xs:=h.own i _ hi
theorem zc4.to {w0 w w':World} {ns:List Nat} {rs:List zn2} (h:zc4 w0 ns w rs) (he:Ext w w'):zc4 w0 ns w' rs :=
  ⟨h.ext.trans he,fun i r hr=>(h.own i r hr).ext he,h.apart,h.free⟩
theorem zc4.put {w0 w w':World} {ns:List Nat} {rs:List zn2} (h:zc4 w0 ns w rs) (i:Nat) {r r':zn2} (hi:rs[i]?=some r) (o:r'.ok w0.heap.size w') (g:zco w w' r.p r'.p) (hf:∀ b∈ns,b<w.heap.size):zc4 w0 ns w' (rs.set i r'):=by
  have hlt:i<rs.length:=by
    rcases Nat.lt_or_ge i rs.length with h|h
    · exact h
    · rw [List.getElem?_eq_none h] at hi; cases hi
  have key:∀ (j:Nat) (a:zn2),(rs.set i r')[j]?=some a->(j=i/\a=r')\/(j≠i/\rs[j]?=some a):=by
    intro j a ha
    rw [List.getElem?_set] at ha
    by_cases hij:i=j
    · subst hij
      rw [if_pos rfl,if_pos hlt] at ha
      exact .inl ⟨rfl,(Option.some.inj ha).symm⟩
    · rw [if_neg hij] at ha
      exact .inr ⟨fun h=>hij h.symm,ha⟩
  have hap:∀ (j:Nat) (a:zn2),j≠i->rs[j]?=some a->zbK a.p r'.p:=fun j a hj ha=>(h.apart j i a r hj ha hi).grew (h.own j a ha) g
  refine ⟨g.ext h.ext (h.own i r hi),fun j a ha=>?_,fun j k a b hjk ha hb=>?_,fun j a ha b hb x hx=>?_⟩
  · rcases key j a ha with ⟨h1,h2⟩|⟨hj,ha'⟩
    · rw [h2]; exact o
    · exact (h.own j a ha').st (h.apart j i a r hj ha' hi) g
  · rcases key j a ha with ⟨h1,h2⟩|⟨hj,ha'⟩
    · rcases key k b hb with ⟨h3,h4⟩|⟨hk,hb'⟩
      · exact absurd (h1.trans h3.symm) hjk
      · rw [h2]; exact (hap k b hk hb').symm
    · rcases key k b hb with ⟨h3,h4⟩|⟨hk,hb'⟩
      · rw [h4]; exact hap j a hj ha'
      · exact h.apart j k a b hjk ha' hb'
  · rcases key j a ha with ⟨h1,h2⟩|⟨hj,ha'⟩
    · subst h2
      rcases g.new with hn|hn
      · cases hp:r.p with
        |none => rw [hp,hx] at hn; simp [blk] at hn
        |some y =>
          rw [hp,hx] at hn
          simp only [blk,Option.map_some,Option.some.injEq] at hn
          rw [hn]
          exact h.free _ r hi b hb y hp
      · have:=hn x hx
        have:=hf b hb
        omega
    · exact h.free j a ha' b hb x hx
theorem zc4.new {w0 w w':World} {ns:List Nat} {rs:List zn2} (h:zc4 w0 ns w rs) {r:zn2} (o:r.ok w0.heap.size w') (he:Ext w w') (hn:∀ a,r.p=some a->w.heap.size<=a.block) (hf:∀ b∈ns,b<w.heap.size):zc4 w0 ns w' (r::rs):=by
  refine ⟨h.ext.trans he,fun j a ha=>?_,fun j k a b hjk ha hb=>?_,fun j a ha b hb x hx=>?_⟩
  · cases j with
    |zero => simp at ha; subst ha; exact o
    |succ j => exact (h.own j a (by simpa using ha)).ext he
  · have hnew:∀ (j:Nat) (a:zn2),rs[j]?=some a->zbK a.p r.p:=fun j a ha x y hx hy hxy=>by
      have:=(h.own j a ha).lt x hx
      have:=hn y hy
      omega
    cases j with
    |zero =>
      simp at ha; subst ha
      cases k with
      |zero => exact absurd rfl hjk
      |succ k => exact (hnew k b (by simpa using hb)).symm
    |succ j =>
      cases k with
      |zero => simp at hb; subst hb; exact hnew j a (by simpa using ha)
      |succ k => exact h.apart j k a b (fun h => hjk (by omega)) (by simpa using ha) (by simpa using hb)
  · cases j with
    |zero =>
      simp at ha; subst ha
      have:=hn x hx
      have:=hf b hb
      omega
    |succ j => exact h.free j a (by simpa using ha) b hb x hx
theorem zc4.new0 {w0 w w':World} {ns:List Nat} {rs:List zn2} (h:zc4 w0 ns w rs) {e:TypeId} {s n c:Nat} {xs:List Value} (o:∀ B,B<=w.heap.size->Own B w' e s (some ⟨w.heap.size,0,none⟩) n c xs) (he:Ext w w') (hf:∀ b∈ns,b<w.heap.size):zc4 w0 ns w' (⟨e,s,some ⟨w.heap.size,0,none⟩,n,c,xs⟩::rs) :=
  h.new (o _ h.ext.size) he (fun a ha=>by obtain rfl:=Option.some.inj ha; simp) hf
theorem zc4.store {w0 w:World} {ns:List Nat} {rs:List zn2} (h:zc4 w0 ns w rs) (i:Nat) {e:TypeId} {s:Nat} {p a:Option Addr} {n c:Nat} {xs vs:List Value} (hi:rs[i]?=some ⟨e,s,p,n,c,xs⟩) (off:Nat) {K:World->Prop} (ha:a=p.map (·.add off)) (hlen:off+vs.length<=xs.length) (hpos:vs≠[])
    (h1:∀ v∈vs,v.oneCell'=true) (hf:∀ b∈ns,b<w.heap.size) (hk:∀ w',zc4 w0 ns w' (rs.set i ⟨e,s,p,n,c,zdG xs off vs⟩)->zco w w' p p->K w'):zao w a vs ns K :=
  zaZ (h.get i hi) ha hlen hpos h1 (fun b hb x hx=>h.free i _ hi b hb x hx) fun w' o g=>hk w' (h.put i hi o g hf) g
section make
variable {w0 w:World} {ns:List Nat} {rs:List zn2}
theorem zc4.new_row {t:TypeId} {vs:List Value} (h:zc4 w0 ns w rs) (h1:∀ v∈vs,v.oneCell'=true) (hf:∀ b∈ns,b<w.heap.size) {K:Option Addr->World->Prop}
    (hk:∀ p w',zc4 w0 ns w' (⟨t,vs.length,p,1,1,vs⟩::rs)->Ext w w'->K p w'):New w t vs K :=
  zbG h1 fun w' o e=>hk _ w' (h.new0 o e hf) e
end make
variable {P:Program}
structure Fr (S:Nat->Prop) (w w':World):Prop where
  os:w'.os=w.os
  tape:w'.tape=w.tape
  output:w'.output=w.output
  size:w.heap.size<=w'.heap.size
  block:∀ k,k<w.heap.size->¬ S k->w'.heap[k]?=w.heap[k]?
theorem Fr.refl (S:Nat->Prop) (w:World):Fr S w w:=⟨rfl,rfl,rfl,Nat.le_refl _,fun _ _ _=>rfl⟩
theorem Fr.trans {S S':Nat->Prop} {w w' w'':World} (h:Fr S w w') (k:Fr S' w' w'') (hs:∀ b,S' b->S b\/w.heap.size<=b):Fr S w w'' :=
  ⟨k.os.trans h.os,k.tape.trans h.tape,k.output.trans h.output,Nat.le_trans h.size k.size,fun b hb hn =>
    (k.block b (Nat.lt_of_lt_of_le hb h.size) fun h'=>(hs b h').elim hn fun h=>by omega).trans (h.block b hb hn)⟩
theorem Fr.tr {S:Nat->Prop} {w w' w'':World} (h:Fr S w w') (k:Fr S w' w''):Fr S w w'':=h.trans k fun _ h=>.inl h
theorem Fr.mono {S S':Nat->Prop} {w w':World} (h:Fr S w w') (hs:∀ b,S b->S' b):Fr S' w w':=⟨h.os,h.tape,h.output,h.size,fun b hb hn=>h.block b hb fun h'=>hn (hs b h')⟩
theorem zad {S:Nat->Prop} {w w':World} (h:Ext w w'):Fr S w w':=⟨h.os,h.tape,h.output,h.size,fun b hb _=>h.block b hb⟩
theorem zbP {S:Nat->Prop} {ds ns:List Nat} {w w':World} (h:zag ds ns w w') (hd:∀ d∈ds,S d\/w.heap.size<=d):Fr S w w':=⟨h.os,h.tape,h.output,h.size,fun b hb hn=>h.block b hb fun h'=>(hd b h').elim hn fun h=>by omega⟩
theorem zaR {S:Nat->Prop} {w w':World} {p q:Option Addr} (h:zco w w' p q) (hs:∀ a,p=some a->S a.block):Fr S w w' :=
  ⟨h.by_.os,h.by_.tape,h.by_.output,h.by_.size,fun b hb hn=>h.by_.block b hb fun he=>by
    cases p with
    |none => simp [blk] at he
    |some a => simp [blk] at he; exact hn (he▸hs a rfl)⟩
theorem Fr.ext {S:Nat->Prop} {w0 w w':World} (h:Fr S w w') (h0:Ext w0 w) (hs:∀ b,S b->w0.heap.size<=b):Ext w0 w' :=
  ⟨h.os.trans h0.os,h.tape.trans h0.tape,h.output.trans h0.output,Nat.le_trans h0.size h.size,fun b hb=>(h.block b (Nat.lt_of_lt_of_le hb h0.size) fun h'=>by have:=hs b h'; omega).trans (h0.block b hb)⟩
theorem Fr.kept {S:Nat->Prop} {w w':World} {ns:List Nat} (h:Fr S w w') (hn:∀ b∈ns,b<w.heap.size/\¬ S b):zbQ ns w w':=fun b hb=>h.block b (hn b hb).1 (hn b hb).2
theorem Own.fr {B:Nat} {S:Nat->Prop} {w w':World} {e:TypeId} {s:Nat} {p:Option Addr} {n c:Nat} {xs:List Value} (h:Own B w e s p n c xs) (k:Fr S w w') (hp:∀ a,p=some a->¬ S a.block):Own B w' e s p n c xs:=by
  cases p with
  |none =>
    refine ⟨h.1,?_⟩
    rcases h.2 with hn|⟨g,cap,cur,hv,_⟩
    · exact .inl hn
    · simp at hv
  |some a =>
    refine ⟨h.1,?_⟩
    rcases h.2 with hn|⟨g,cap,cur,hv,hb,hg,zau⟩
    · exact .inl hn
    · refine .inr ⟨g,cap,cur,hv,hb,?_,zau⟩
      have:a=⟨g,0,none⟩:=by simp at hv; exact hv.1
      have hlt:=(h.lt a rfl).2
      subst this
      rw [k.block g hlt (hp _ rfl)]; exact hg
theorem zav.fr {S:Nat->Prop} {w w':World} {p:Option Addr} {vs:List Value} (h:zav w p vs) (k:Fr S w w') (hp:∀ a,p=some a->¬ S a.block):zav w' p vs:=by
  intro i v hv
  obtain ⟨a,rfl,hb,hc⟩:=zdT (h i v hv)
  show w'.cell? (a.add i)=some v
  rw [World.cell?_of_block (w:=w) (by rw [zaU]; exact k.block _ hb (hp a rfl))]
  exact hc
theorem zdS {S:Nat->Prop} {w w':World} {p:Option Addr} {i:Nat} {v:Value} (h:cell w p i=some v) (k:Fr S w w') (hp:∀ a,p=some a->¬ S a.block):cell w' p i=some v:=by
  obtain ⟨a,rfl,hb,hc⟩:=zdT h
  show w'.cell? (a.add i)=some v
  rw [World.cell?_of_block (w:=w) (by rw [zaU]; exact k.block _ hb (hp a rfl))]
  exact hc
theorem zdb.fr {α:Type} [DecidableEq α] {enc:α->Value} {S:Nat->Prop} {w w':World} {r:Nat} {m:List (α×Value)} (h:zdb enc w r m) (k:Fr S w w') (hp:¬ S r):zdb enc w' r m:=by
  obtain ⟨es,c,h1,h2⟩:=h.es
  exact ⟨h.nodup,es,c,(k.block r h.lt hp).trans h1,h2⟩
theorem Own.cellAt {B:Nat} {w:World} {e:TypeId} {s:Nat} {p:Option Addr} {n c:Nat} {xs:List Value} (h:Own B w e s p n c xs) {i:Nat} {v:Value} (hv:xs[i]?=some v):cell w p i=some v:=h.cells i v hv
theorem Own.cellAt0 {B:Nat} {w:World} {e:TypeId} {s:Nat} {p:Option Addr} {n c:Nat} {xs:List Value} (h:Own B w e s p n c xs) {i:Nat} {v:Value} (hv:xs[i]?=some v):cell w (pAdd p i) 0=some v:=by rw [zam]; exact h.cells i v hv
theorem zaP (p:Option Addr):pAdd p 0=p:=by cases p<;>simp [pAdd,add_zero]
theorem zcr {B:Nat} {w:World} {e:TypeId} {s:Nat} {q:Option Addr} {n c off:Nat} {xs:List Value} {v:Value} {ns:List Nat} {K:World->Prop}
    (ho:Own B w e s q n c xs) (hlen:off<xs.length) (h1:v.oneCell'=true) (hns:∀ b∈ns,∀ x,q=some x->x.block≠b)
    (hk:∀ w',Own B w' e s q n c (xs.set off v)->zco w w' q q->K w'):zao w (pAdd q off) [v] ns K :=
  zaZ ho rfl (by simp; omega) (by simp) (by simpa using h1) hns hk
theorem zDH {t:TypeId} {i:TypeInfo} {m:Method} {f:FuncId} {pr:Bool} {name:String} {v r:Value} {w:World} {n:Nat} (hi:P.info? t=some i) (hm:i.methods.find? (·.name==name)=some m) (hp:m.path=#[]) (hf:m.func=some (f,pr))
    (hr : (receiverAt t (.val v) pr (some ((name.splitOn ".").getLastD name))).run P w = .ok r w) : (method (n + 1) t v name).run P w = .ok (f, r) w := by
  have h1:(typeInfo t).run P w=.ok i w:=by
    unfold typeInfo
    simp only [Sem.run_bind]
    rw [show Sem.run P program w=.ok P w from rfl]
    simp [hi]
  simp only [method,Sem.run_bind,h1,Result.andThen_ok,hm,hp,hf]
  simp [follow] at hr ⊢
  rw [hr]; rfl
theorem zz2 {t e:TypeId} (ht:P.underlying t=some (.pointer e)) {v:Value} {o:Option String} {w:World}:(receiverAt t (.val v) true o).run P w=.ok v w:=by
  unfold receiverAt
  simp only [Sem.run_bind]
  rw [show (underlying t).run P w=.ok (.pointer e) w from by
    unfold underlying
    simp only [Sem.run_bind]
    rw [show Sem.run P program w=.ok P w from rfl]
    simp [ht]]
  simp [Place.get]
theorem zEj {t e:TypeId} {d:TypeDesc} (ht:P.underlying t=some (.pointer e)) (hd:P.underlying e=some d) (ha:zc7 P e=false) {a:Addr} {v:Value} {o:Option String} {w:World} (hc:cell w (some a) 0=some v):(receiverAt t (.val (.pointer (some a))) false o).run P w=.ok v w:=by
  have hc':w.cell? a=some v:=by simpa [cell,add_zero] using hc
  unfold receiverAt
  simp only [Sem.run_bind]
  rw [show (underlying t).run P w=.ok (.pointer e) w from run_underlying ht w]
  cases o with
  |none => simp [Place.get,loadVar,zeq hd,ha,hc',asAddr]
  |some name =>
    have e : Builtin.ssaWrapNilChk_ #[t] t #[.pointer (some a), strVal "", strVal name] = pure (.pointer (some a)) := rfl
    simp [Place.get,e,loadVar,zeq hd,ha,hc',asAddr]
theorem zfJ {t:TypeId} {d:TypeDesc} (ht:P.underlying t=some d) (hn:∀ m,d≠.interface m) {v:Value} {w:World} {K:Value->World->Prop} (h:K (.iface t v) w):Run P (.makeInterface t v) w K:=by
  refine ⟨.iface t v,w,?_,h⟩
  simp only [MC.sem,Instr.makeInterface,Sem.run_bind,run_underlying ht,Result.andThen_ok]
  cases d<;>first|rfl|exact absurd rfl (hn _)
theorem zsh {t x:TypeId} {d:TypeDesc} (ht:P.underlying t=some d) (hn:∀ m,d≠.interface m) {v:Value} {w:World} {K:Value->World->Prop} (h:K v w):Run P (.typeAssert (.iface t v) x t false) w K:=by
  refine ⟨v,w,?_,h⟩
  simp only [MC.sem,Instr.typeAssert,Sem.run_bind,run_underlying ht,Result.andThen_ok]
  cases d<;>first|simp|exact absurd rfl (hn _)
theorem znW {t ty e:TypeId} {s b:Nat} {z:Value} (he:zfW P t=some (e,s,b,z)) (hs:0<s) {B:Nat} {w:World} {p:Option Addr} {n c:Nat} {xs:List Value} {v:Value} {ns:List Nat}
    {K:Option Addr->Nat->Nat->World->Prop} (ho:Own B w e s p n c xs) (hB:B<=w.heap.size) (hns:∀ b∈ns,∀ x,p=some x->x.block≠b) (hv:v.cells.size=s) (h1:∀ u∈v.cells.toList,u.oneCell'=true) (hb:(n+1)*b<=140737488355328) (hs24:s<=16777216) (hm:n+1<=9223372036854775807)
    (hk:∀ p' c' w',Own B w' e s p' (n+1) c' (xs++v.cells.toList)->zco w w' p p'->p'≠none->(∀ b∈ns,∀ x,p'=some x->x.block≠b)->K p' (n+1) c' w') :
    ∀ w1,zag [] ns w w1->Run P (.buildSlice t 1 [(0,v)]) w1 fun v2 w2=>Ext w1 w2/\∃ q:Option Addr,∃ m:Nat,∃ d:Nat,v2=.slice q m d/\∀ w3,zag [] ns w2 w3 ->
      Run P (.append #[t,t] ty [.slice p n c,.slice q m d]) w3 fun v4 w4=>zbQ ns w3 w4/\∃ q':Option Addr,∃ m':Nat,∃ d':Nat,v4=.slice q' m' d'/\K q' m' d' w4:=by
  intro w1 x1
  have e1:=zaa x1
  refine zcE he [v] rfl rfl (fun u hu=>by simp at hu; subst hu; exact hv) (by omega) (by omega) fun w2 o2 e2=>⟨e2,_,_,_,rfl,fun w3 x3=>?_⟩
  have e3:=zaa x3
  have o2:=(o2 w1.heap.size (Nat.le_refl _)).ext e3
  have ho':=((ho.ext e1).ext e2).ext e3
  have hsz:B<=w3.heap.size:=Nat.le_trans hB (Nat.le_trans e1.size (Nat.le_trans e2.size e3.size))
  refine zna he hs ho' hsz (by simp) (news:=v.cells.toList) (by simp [hv]) (by simpa using o2.cells) h1 hb hm fun p' c' w4 h2 h3 h4=>⟨fun b hb=>?_,_,_,_,rfl,hk p' c' w4 h2 ?_ ?_ ?_⟩
  · refine h3.by_.block b (x3.lt b hb) fun he=>?_
    cases p with
    |none => cases he
    |some y => simp [blk] at he; exact hns b hb y rfl he.symm
  · exact zco.of_ext e1 (zco.of_ext e2 (zco.of_ext e3 h3))
  · intro hn; have:=h4.1 hn; omega
  · intro b hb y hy heq
    rcases h3.new with hn|hn
    · subst hy
      cases p with
      |none => simp [blk] at hn
      |some z' => simp [blk] at hn; exact hns b hb z' rfl (by omega)
    · have:=hn y hy
      have:=x3.lt b hb
      omega
end Go.Sx
namespace Go.Proofs.YtcceeahmcecbnaaGreatDoor
open Go.Sx Go.RowKit
def unl (l:Array Bool):Nat:=l.toList.countP (fun b=>!b)
theorem zEZ {l:Array Bool} {i:Nat} (h:l.getD i true=false):unl l=unl (l.setIfInBounds i true)+1:=by
  unfold unl
  have hi:i<l.size:=by
    rcases Nat.lt_or_ge i l.size with h'|h'
    · exact h'
    · simp [Array.getElem?_eq_none h'] at h
  have hg:l.toList[i]'(by simpa using hi)=false:=by simpa [hi] using h
  have e:(l.setIfInBounds i true).toList=l.toList.set i true:=by simp
  rw [e]
  have h1:=List.countP_set (p:=fun b=>!b) (l:=l.toList) (i:=i) (a:=true) (by simpa using hi)
  rw [h1,hg]
  have:0<l.toList.countP (fun b=>!b):=List.countP_pos_iff.2 ⟨false,by rw [<- hg]; exact List.getElem_mem _,rfl⟩
  generalize l.toList.countP (fun b=>!b)=c at this ⊢
  show c=c-1+0+1
  omega
theorem zE5 {P:Program} {md:Region.Mode} {ops:Array Oper} {Q:Exit->Act->World->Prop} {I:Array Bool->Act->World->Prop}
    (hs:∀ l a w i,I l a w->i∈Region.ready md ops l->wpOp P ops Q i (I (l.setIfInBounds i true)) a w)
    (hq:∀ l a w,I l a w->Region.ready md ops l=[]->Q .normal a w) :
    ∀ (fuel:Nat) (l:Array Bool) (a:Act) (w:World),unl l<=fuel->I l a w->wpAny P md ops Q fuel l a w:=by
  intro fuel
  induction fuel with
  |zero =>
    intro l a w hf hi
    have hn:Region.ready md ops l=[]:=by
      cases hr:Region.ready md ops l with
      |nil => rfl
      |cons x xs =>
        have:=zEZ (mem_ready.1 (hr▸List.mem_cons_self:x∈Region.ready md ops l)).1
        omega
    exact ⟨hn,hq l a w hi hn⟩
  |succ fuel ih =>
    intro l a w hf hi
    refine ⟨hq l a w hi,fun i hm=>wpOp_mono (fun a' w' h=>ih _ a' w' ?_ h) (hs l a w i hi hm)⟩
    have:=zEZ (mem_ready.1 hm).1
    omega
def Cst (w w':World):Prop:=∀ (b:Nat) (cs:Array Value) (t:TypeId) (f:Nat×Nat),w.heap[b]?=some (.cells cs t f)->w'.heap[b]?=some (.cells cs t f)
theorem Cst.of_ext {w w':World} (h:Ext w w'):Cst w w':=fun b cs t f hb=>by rw [h.block b (Array.getElem?_eq_some_iff.1 hb).1]; exact hb
theorem Cst.cell {w w':World} (h:Cst w w') {p:Addr} {v:Value} (hc:w.cell? p=some v):w'.cell? p=some v:=by
  unfold World.cell? at hc ⊢
  cases hb:w.heap[p.block]? with
  |none => simp [hb] at hc
  |some o =>
    cases o with
    |cells c t f => rw [h _ _ _ _ hb]; rw [hb] at hc; exact hc
    |_ => simp [hb] at hc
theorem Cst.of_grew {w w':World} {r:Nat} {m:List (ByteArray×Value)} (hm:zdb Value.string w r m) (hg:zco w w' (some ⟨r,0,none⟩) (some ⟨r,0,none⟩)):Cst w w':=fun b cs t f hb=>by
  obtain ⟨es,c,h1,_⟩:=hm.es
  have hne:b≠r:=fun h=>by subst h; rw [h1] at hb; cases hb
  rw [hg.by_.block b (Array.getElem?_eq_some_iff.1 hb).1 (by simp [blk]; exact hne)]; exact hb
def MAt (PV:Nat->Value->World->Prop) (KL:List (ByteArray×Nat×Nat)) (l:Array Bool) (w:World) (k:ByteArray) (g:Option Value):Prop :=
  match KL.find? (fun x=>decide (x.1=k)) with
  |some (_,j,b) => if l.getD j false=true then ∃ v,g=some v/\PV b v w else g=none
  |none => g=none
structure DI (PV:Nat->Value->World->Prop) (ops:Array Oper) (KL:List (ByteArray×Nat×Nat)) (TI:List (Nat×Nat)) (base:List Nat) (b0:Act) (w0:World) (l:Array Bool) (a:Act) (w:World):Prop where
  lsz:l.size=ops.size
  size:a.tmps.size=b0.tmps.size
  defers:a.defers=b0.defers
  base:∀ d∈base,a.tmps.getD d undef=b0.tmps.getD d undef
  ext:Ext w0 w
  val:∀ i o d,ops[i]?=some o->l.getD i false=true->o.dst=some d->PV i (a.tmps.getD d undef) w
  mp:l.getD 0 false=true->∃ mb M,a.tmps.getD 6 undef=.map (some mb)/\w0.heap.size<=mb/\zdb Value.string w mb M/\∀ k,MAt PV KL l w k (ziD M k)
  nomap:l.getD 0 false=false->∀ x∈KL,l.getD x.2.1 false=false
  tie:∀ x∈TI,l.getD x.1 false=true->l.getD 0 false=true/\a.tmps.getD x.2 undef=a.tmps.getD 6 undef
def zod (ops:Array Oper) (KL:List (ByteArray×Nat×Nat)) (TI:List (Nat×Nat)) (base:List Nat) (n:Nat):Bool :=
  (ops.toList.filterMap (·.dst)).Nodup&&(List.range ops.size).all (fun i=>(ops[i]?).all fun o =>
    o.guard.isNone&&o.dst.all fun d=>decide (d<n)&&!base.contains d&&(decide (i≠0)||decide (d=6))
      && KL.all (fun x=>decide (x.2.1≠i)))&&(decide ((ops[0]?.bind (·.dst))=some 6)&&TI.all fun x=>decide ((ops[x.1]?.bind (·.dst))=some x.2)&&decide (x.1≠0))
section
variable {PV:Nat->Value->World->Prop} {ops:Array Oper} {KL:List (ByteArray×Nat×Nat)} {TI:List (Nat×Nat)} {base:List Nat} {b0:Act} {w0:World} {l:Array Bool} {a:Act} {w:World} {P:Program} {Q:Exit->Act->World->Prop}
theorem zzU {n:Nat} (h:zod ops KL TI base n=true) {i:Nat} {o:Oper} {d:Nat} (hi:ops[i]?=some o) (hd:o.dst=some d) :
    o.guard=none/\d<n/\d∉base/\(i≠0\/d=6)/\∀ x∈KL,x.2.1≠i:=by
  simp only [zod,Bool.and_eq_true,List.all_eq_true,List.mem_range] at h
  have:=h.1.2 i (Array.getElem?_eq_some_iff.1 hi).1
  rw [hi] at this
  simp only [Option.all_some,hd,Bool.and_eq_true,Option.isNone_iff_eq_none,decide_eq_true_eq,Bool.not_eq_true',Bool.or_eq_true,List.all_eq_true] at this
  refine ⟨this.1,this.2.1.1.1,?_,this.2.1.2,fun x hx=>this.2.2 x hx⟩
  have h2:=this.2.1.1.2
  intro hm
  rw [List.contains_iff_mem.2 hm] at h2
  cases h2
theorem zja {α β:Type} {f:α->Option β}:∀ {l:List α},(l.filterMap f).Nodup->∀ {i j:Nat} {x y:α} {d:β},l[i]?=some x->l[j]?=some y->f x=some d->f y=some d->i=j
  |[],_,i,j,x,y,d,hx,_,_,_ => by simp at hx
  |z::r,hn,i,j,x,y,d,hx,hy,fx,fy => by
    have hmem:∀ {k:Nat} {u:α},r[k]?=some u->f u=some d->d∈r.filterMap f:=fun h1 h2=>List.mem_filterMap.2 ⟨_,List.mem_of_getElem? h1,h2⟩
    have hn':(r.filterMap f).Nodup:=by
      cases hz:f z with
      |none => rwa [List.filterMap_cons_none hz] at hn
      |some b => rw [List.filterMap_cons_some hz] at hn; exact (List.nodup_cons.1 hn).2
    have hnot:f z=some d->d∉r.filterMap f:=fun hz=>by
      rw [List.filterMap_cons_some hz] at hn; exact (List.nodup_cons.1 hn).1
    cases i with
    |zero =>
      cases j with
      |zero => rfl
      |succ j =>
        simp at hx hy; subst hx
        exact absurd (hmem hy fy) (hnot fx)
    |succ i =>
      cases j with
      |zero =>
        simp at hx hy; subst hy
        exact absurd (hmem hx fx) (hnot fy)
      |succ j =>
        simp at hx hy
        exact congrArg (·+1) (zja hn' hx hy fx fy)
theorem zlU {n:Nat} (h:zod ops KL TI base n=true) {i j:Nat} {o u:Oper} {d:Nat} (hi:ops[i]?=some o) (hj:ops[j]?=some u) (hd:o.dst=some d) (hu:u.dst=some d):i=j:=by
  simp only [zod,Bool.and_eq_true] at h
  exact zja (of_decide_eq_true h.1.1) (x:=o) (y:=u) (by simpa using hi) (by simpa using hj) hd hu
theorem zvJ {n:Nat} (h:zod ops KL TI base n=true) {x:Nat×Nat} (hx:x∈TI):(∃ o,ops[x.1]?=some o/\o.dst=some x.2)/\x.1≠0:=by
  simp only [zod,Bool.and_eq_true,List.all_eq_true,decide_eq_true_eq] at h
  have:=h.2.2 x hx
  exact ⟨by obtain ⟨o,q1,q2⟩:=Option.bind_eq_some_iff.1 this.1; exact ⟨o,q1,q2⟩,this.2⟩
theorem zD1 {n:Nat} (h:zod ops KL TI base n=true):∃ o6,ops[0]?=some o6/\o6.dst=some 6:=by
  simp only [zod,Bool.and_eq_true,decide_eq_true_eq] at h
  obtain ⟨o6,q1,q2⟩:=Option.bind_eq_some_iff.1 h.2.1
  exact ⟨o6,q1,q2⟩
theorem zps {l:Array Bool} {i:Nat} (h:i<l.size) (d:Bool):(l.setIfInBounds i true).getD i d=true:=by simp [h]
theorem ztz {a:Act} {d:Nat} {v:Value} (h:d<a.tmps.size):(a.put (some d) v).tmps.getD d undef=v:=by simp [Act.put,h]
theorem zg8 {a:Act} {d e:Nat} {v:Value} (h:d≠e):(a.put (some d) v).tmps.getD e undef=a.tmps.getD e undef:=by
  simp [Act.put,Array.getElem?_setIfInBounds_ne h]
theorem DI.put {n:Nat} (hok:zod ops KL TI base n=true) (hb:b0.tmps.size=n) (hst:∀ i v w w',Cst w w'->PV i v w->PV i v w') {i:Nat} {o:Oper} {d:Nat} {v:Value} {w':World}
    (h:DI PV ops KL TI base b0 w0 l a w) (hi:ops[i]?=some o) (hd:o.dst=some d) (hx:Ext w w') (hv:PV i v w')
    (h0:i=0->l.getD 0 false=false/\v=.map (some w.heap.size)/\zdb Value.string w' w.heap.size [])
    (ht:∀ x∈TI,x.1=i->l.getD 0 false=true/\v=a.tmps.getD 6 undef) :
    DI PV ops KL TI base b0 w0 (l.setIfInBounds i true) (a.put o.dst v) w':=by
  obtain ⟨_,g2,g3,g4,g5⟩:=zzU hok hi hd
  have hil:i<l.size:=by rw [h.lsz]; exact (Array.getElem?_eq_some_iff.1 hi).1
  have hc:=Cst.of_ext hx
  rw [hd]
  have hmap:∀ k g,MAt PV KL l w k g->MAt PV KL (l.setIfInBounds i true) w' k g:=fun k g hk=>by
    unfold MAt at hk ⊢
    split at hk
    · rename_i y j b he
      have hm:=List.mem_of_find?_eq_some he
      rw [getD_set_ne false (Ne.symm (g5 _ hm))]
      split at hk
      · rename_i hl
        rw [if_pos hl]
        obtain ⟨v',e1,e2⟩:=hk
        exact ⟨v',e1,hst _ _ _ _ hc e2⟩
      · rename_i hl
        rw [if_neg hl]; exact hk
    · exact hk
  refine ⟨by rw [Array.size_setIfInBounds]; exact h.lsz,by simp only [Act.put,Array.size_setIfInBounds]; exact h.size,h.defers,fun e he=>?_,h.ext.trans hx,fun j u e hj hl he=>?_,fun hl=>?_,fun hl x hxm=>?_,fun x hxm hl=>?_⟩
  · rw [zg8 (fun hh:d=e=>g3 (by rw [hh]; exact he))]; exact h.base e he
  · by_cases hij:i=j
    · subst hij
      rw [hi] at hj; injection hj with hj; subst hj
      rw [hd] at he; injection he with he; subst he
      rw [ztz (by rw [h.size,hb]; exact g2)]; exact hv
    · rw [getD_set_ne false hij] at hl
      have hde:d≠e:=fun hh=>hij (zlU hok hi hj hd (hh▸he))
      rw [zg8 hde]
      exact hst _ _ _ _ hc (h.val j u e hj hl he)
  · by_cases hi0:i=0
    · subst hi0
      obtain ⟨z1,z2,z3⟩:=h0 rfl
      have hd6:d=6:=by rcases g4 with g4|g4; exact absurd rfl g4; exact g4
      subst hd6
      refine ⟨w.heap.size,[],?_,h.ext.size,z3,fun k=>hmap k _ ?_⟩
      · rw [ztz (by rw [h.size,hb]; exact g2),z2]
      · unfold MAt
        split
        · rename_i y j b he
          have:=h.nomap z1 _ (List.mem_of_find?_eq_some he)
          rw [if_neg (by rw [this]; decide)]; rfl
        · rfl
    · rw [getD_set_ne false hi0] at hl
      obtain ⟨mb,M,e1,e2,e3,e4⟩:=h.mp hl
      have hne:d≠6:=fun hh=>by
        have h6:∃ o6,ops[0]?=some o6/\o6.dst=some 6:=by
          simp only [zod,Bool.and_eq_true,decide_eq_true_eq] at hok
          obtain ⟨o6,q1,q2⟩:=Option.bind_eq_some_iff.1 hok.2.1
          exact ⟨o6,q1,q2⟩
        obtain ⟨o6,q1,q2⟩:=h6
        exact hi0 (zlU hok hi q1 (hh▸hd) q2)
      exact ⟨mb,M,by rw [zg8 hne]; exact e1,e2,e3.ext hx,fun k=>hmap k _ (e4 k)⟩
  · have hi0:i≠0:=fun hh=>by subst hh; rw [zps hil] at hl; cases hl
    rw [getD_set_ne false hi0] at hl
    rw [getD_set_ne false (Ne.symm (g5 x hxm))]
    exact h.nomap hl x hxm
  · obtain ⟨⟨ox,t1,t2⟩,t3⟩:=zvJ hok hxm
    have h6:i≠0->d≠6:=fun hi0 hh=>by
      obtain ⟨o6,q1,q2⟩:=zD1 hok
      exact hi0 (zlU hok hi q1 (hh▸hd) q2)
    by_cases hxi:x.1=i
    · obtain ⟨z1,z2⟩:=ht x hxm hxi
      have hi0:i≠0:=fun hh=>t3 (hxi.trans hh)
      have hdx:d=x.2:=by
        have:ox=o:=by rw [hxi,hi] at t1; injection t1 with t1; exact t1.symm
        rw [this,hd] at t2; injection t2
      refine ⟨by rw [getD_set_ne false hi0]; exact z1,?_⟩
      rw [<- hdx,ztz (by rw [h.size,hb]; exact g2),zg8 (h6 hi0),z2]
    · rw [getD_set_ne false (Ne.symm hxi)] at hl
      obtain ⟨z1,z2⟩:=h.tie x hxm hl
      have hi0:i≠0:=fun hh=>by rw [(h0 hh).1] at z1; cases z1
      refine ⟨by rw [getD_set_ne false hi0]; exact z1,?_⟩
      rw [zg8 (fun hh=>hxi (zlU hok t1 hi t2 (hd.trans (congrArg some hh)))),zg8 (h6 hi0)]
      exact z2
theorem DI.ins {n:Nat} (hok:zod ops KL TI base n=true) (hst:∀ i v w w',Cst w w'->PV i v w->PV i v w') {i:Nat} {o:Oper} {K:ByteArray} {b:Nat} {v:Value} {w':World} {mb:Nat} {M:List (ByteArray×Value)}
    (h:DI PV ops KL TI base b0 w0 l a w) (hi:ops[i]?=some o) (hd:o.dst=none) (hi0:i≠0) (hl0:l.getD 0 false=true) (hmb:a.tmps.getD 6 undef=.map (some mb)) (hle:w0.heap.size<=mb)
    (hm:zdb Value.string w mb M) (hat:∀ k,MAt PV KL l w k (ziD M k))
    (hk:KL.find? (fun x=>decide (x.1=K))=some (K,i,b)) (hu:∀ x∈KL,x.2.1=i->x.1=K) (hv:PV b v w)
    (hm':zdb Value.string w' mb (zqC M K v)) (hg:zco w w' (some ⟨mb,0,none⟩) (some ⟨mb,0,none⟩)) :
    DI PV ops KL TI base b0 w0 (l.setIfInBounds i true) (a.put o.dst undef) w':=by
  have hil:i<l.size:=by rw [h.lsz]; exact (Array.getElem?_eq_some_iff.1 hi).1
  have hc:=Cst.of_grew hm hg
  rw [hd]
  refine ⟨by rw [Array.size_setIfInBounds]; exact h.lsz,h.size,h.defers,h.base,hg.below h.ext h.ext.size (fun x hx=>by cases hx; exact hle),fun j u e hj hl he=>?_,fun _=>?_,fun hl=>?_,fun x hxm hl=>?_⟩
  · by_cases hij:i=j
    · subst hij
      rw [hi] at hj; injection hj with hj; subst hj
      rw [hd] at he; cases he
    · rw [getD_set_ne false hij] at hl
      exact hst _ _ _ _ hc (h.val j u e hj hl he)
  · refine ⟨mb,_,hmb,hle,hm',fun k=>?_⟩
    rw [zlD]
    by_cases hkk:K=k
    · subst hkk
      rw [if_pos rfl]
      unfold MAt
      rw [hk]
      simp only []
      rw [if_pos (zps hil _)]
      exact ⟨v,rfl,hst _ _ _ _ hc hv⟩
    · rw [if_neg hkk]
      have hh:=hat k
      unfold MAt at hh ⊢
      split at hh
      · rename_i y j b' he
        have hjm:=List.mem_of_find?_eq_some he
        have hye:y=k:=by have:=List.find?_some he; simpa using this
        have hij:i≠j:=fun hij=>hkk (by rw [<- hu _ hjm hij.symm]; exact hye)
        rw [getD_set_ne false hij]
        split at hh
        · rename_i hl
          rw [if_pos hl]
          obtain ⟨v',e1,e2⟩:=hh
          exact ⟨v',e1,hst _ _ _ _ hc e2⟩
        · rename_i hl
          rw [if_neg hl]; exact hh
      · exact hh
  · rw [getD_set_ne false hi0,hl0] at hl; cases hl
  · obtain ⟨⟨ox,t1,t2⟩,t3⟩:=zvJ hok hxm
    have hxi:x.1≠i:=fun hh=>by rw [hh,hi] at t1; injection t1 with t1; rw [<- t1,hd] at t2; cases t2
    rw [getD_set_ne false (Ne.symm hxi)] at hl
    exact ⟨by rw [getD_set_ne false hi0]; exact hl0,(h.tie x hxm hl).2⟩
theorem zoP {K:Act->World->Prop} {i:Nat} {o:Oper} {v:Value} {w':World} (hi:ops[i]?=some o) (hg:o.guard=none) (hr:(execOp a.eval o).run P w=.ok (.value v) w') (hk:K (a.put o.dst v) w') :
    wpOp P ops Q i K a w:=by
  unfold wpOp
  rw [hi]
  simp only [Region.wanted,hg,if_true]
  refine .inl ?_
  unfold Oper.wp
  rw [hr]; exact hk
theorem zE6 {K:Act->World->Prop} {i:Nat} {o:Oper} {w':World} (hi:ops[i]?=some o) (hg:o.guard=none) (hr:(execOp a.eval o).run P w=.ok .skip w') (hk:K (a.put o.dst undef) w') :
    wpOp P ops Q i K a w:=by
  unfold wpOp
  rw [hi]
  simp only [Region.wanted,hg,if_true]
  refine .inl ?_
  unfold Oper.wp
  rw [hr]; exact hk
theorem zBy {K:Act->World->Prop} {i:Nat} {o:Oper} {f:FuncId} {args:Array Value} (hi:ops[i]?=some o) (hg:o.guard=none) (hr:(execOp a.eval o).run P w=.ok (.enter f args) w)
    (hk:FnP P f args w fun v w'=>K (a.put o.dst v) w'):wpOp P ops Q i K a w:=by
  unfold wpOp
  rw [hi]
  simp only [Region.wanted,hg,if_true]
  refine .inl ?_
  unfold Oper.wp
  rw [hr]
  show Calls P f args w _
  refine Calls.mono hk.2 fun e w' ⟨v,he,hv⟩=>?_
  subst he
  exact hv
end
noncomputable def zeK:Array Oper:=match Tryz.f151.body with
  |some (.seq _ (.seq _ (.seq _ (.seq (.region _ ops _) _)))) => ops
  |_ => #[]
noncomputable def zcD (i : Nat) : Oper := (zeK[i]?).getD ⟨none, .move (.const undef), 0, "", #[], none⟩
theorem zoE:zeK.size=59:=by kernel_rfl
theorem zj0 {i:Nat} (h:i<59):zeK[i]?=some (zcD i):=by
  have:i<zeK.size:=by rw [zoE]; exact h
  simp [zcD,this]
def zbr (db:Addr) (F:FuncId) (v:Value):Prop:=v=.func (.func F) #[.pointer (some db)] #[]
def zgV (pb:Addr) (F:FuncId) (v:Value):Prop:=v=.func (.func F) #[] #[.pointer (some pb)]
def zf7 (pb:Addr) (F:FuncId) (v:Value) (w:World):Prop :=
  ∃ p3:Addr,v=.func (.func 207) #[] #[.pointer (some pb),.pointer (some p3)]/\w.cell? p3=some (.func (.func F) #[] #[.pointer (some pb)])
def zdh (pb:Addr) (F:FuncId) (v:Value) (w:World):Prop :=
  ∃ p2 p1:Addr,v=.func (.func 251) #[] #[.pointer (some p2)]/\w.cell? p2=some (.func (.func 204) #[] #[.pointer (some p1)])/\∃ u,w.cell? p1=some u/\zf7 pb F u w
def znE (pb:Addr) (v:Value) (w:World):Prop :=
  ∃ p2:Addr,v=.func (.func 251) #[] #[.pointer (some p2)]/\w.cell? p2=some (.func (.func 218) #[] #[.pointer (some pb)])
def zd7 (n:Int) (b:Bool) (R:Value->World->Prop) (v:Value) (w:World):Prop :=
  ∃ f bd cap,v=.agg #[.int .i64 n,.bool b,.func f bd cap]/\R (.func f bd cap) w
def zLn (w w':World):Prop:=∀ (p:Addr) (v:Value),(match v with|.pointer (some _)=>True|.func _ _ _=>True|_=>False)->w.cell? p=some v->w'.cell? p=some v
theorem Cst.cel {w w':World} (h:Cst w w'):zLn w w':=fun p v _ hc=>h.cell hc
theorem zf7.cst {pb:Addr} {F:FuncId} {v:Value} {w w':World} (h:zf7 pb F v w) (k:zLn w w'):zf7 pb F v w':=by
  obtain ⟨p,e1,e2⟩:=h; exact ⟨p,e1,k _ _ trivial e2⟩
theorem zdh.cst {pb:Addr} {F:FuncId} {v:Value} {w w':World} (h:zdh pb F v w) (k:zLn w w'):zdh pb F v w':=by
  obtain ⟨p,q,e1,e2,u,e3,e4⟩:=h
  have e4':=e4.cst k
  obtain ⟨p3,rfl,_⟩:=e4
  exact ⟨p,q,e1,k _ _ trivial e2,_,k _ _ trivial e3,e4'⟩
theorem znE.cst {pb:Addr} {v:Value} {w w':World} (h:znE pb v w) (k:zLn w w'):znE pb v w':=by
  obtain ⟨p,e1,e2⟩:=h; exact ⟨p,e1,k _ _ trivial e2⟩
theorem zd7.cst {n:Int} {b:Bool} {R:Value->World->Prop} {v:Value} {w w':World} (h:zd7 n b R v w) (k:∀ v,R v w->R v w'):zd7 n b R v w':=by
  obtain ⟨f,bd,cap,e1,e2⟩:=h; exact ⟨f,bd,cap,e1,k _ e2⟩
def PV (db pb:Addr):Nat->Value->World->Prop
  |1,v,w => v=.pointer (some db)
  |2,v,w => zbr db 208 v
  |3,v,w => zd7 4 false (fun f _ => zbr db 208 f) v w
  |5,v,w => v=.pointer (some db)
  |6,v,w => zbr db 209 v
  |7,v,w => zd7 1 false (fun f _ => zbr db 209 f) v w
  |9,v,w => v=.pointer (some db)
  |10,v,w => zbr db 210 v
  |11,v,w => zd7 7 false (fun f _ => zbr db 210 f) v w
  |13,v,w => v=.pointer (some db)
  |14,v,w => zbr db 211 v
  |15,v,w => zd7 6 true (fun f _ => zbr db 211 f) v w
  |17,v,w => v=.func (.func 202) #[] #[]
  |18,v,w => zgV pb 206 v
  |19,v,w => zgV pb 212 v
  |20,v,w => zf7 pb 212 v w
  |21,v,w => zdh pb 212 v w
  |22,v,w => zd7 2 false (zdh pb 212) v w
  |24,v,w => v=.pointer (some db)
  |25,v,w => zbr db 213 v
  |26,v,w => zd7 1 true (fun f _ => zbr db 213 f) v w
  |28,v,w => v=.func (.func 202) #[] #[]
  |29,v,w => zgV pb 206 v
  |30,v,w => zgV pb 214 v
  |31,v,w => zf7 pb 214 v w
  |32,v,w => zdh pb 214 v w
  |33,v,w => zd7 2 false (zdh pb 214) v w
  |35,v,w => v=.func (.func 202) #[] #[]
  |36,v,w => zgV pb 206 v
  |37,v,w => zgV pb 216 v
  |38,v,w => zf7 pb 216 v w
  |39,v,w => zdh pb 216 v w
  |40,v,w => zd7 2 false (zdh pb 216) v w
  |42,v,w => v=.func (.func 202) #[] #[]
  |43,v,w => zgV pb 206 v
  |44,v,w => zgV pb 217 v
  |45,v,w => zf7 pb 217 v w
  |46,v,w => zdh pb 217 v w
  |47,v,w => zd7 2 false (zdh pb 217) v w
  |49,v,w => zgV pb 218 v
  |50,v,w => znE pb v w
  |51,v,w => zd7 2 false (znE pb) v w
  |53,v,w => v=.pointer (some db)
  |54,v,w => zbr db 222 v
  |55,v,w => zd7 2 true (fun f _ => zbr db 222 f) v w
  |_,_,_ => True
theorem zH1 (db pb:Addr) (i:Nat) (v:Value) (w w':World) (k:zLn w w') (h:PV db pb i v w):PV db pb i v w':=by
  unfold PV at h ⊢
  split at h
  · exact h
  · exact h
  · exact h.cst (fun _ x=>x)
  · exact h
  · exact h
  · exact h.cst (fun _ x=>x)
  · exact h
  · exact h
  · exact h.cst (fun _ x=>x)
  · exact h
  · exact h
  · exact h.cst (fun _ x=>x)
  · exact h
  · exact h
  · exact h
  · exact h.cst k
  · exact h.cst k
  · exact h.cst (fun _ x=>x.cst k)
  · exact h
  · exact h
  · exact h.cst (fun _ x=>x)
  · exact h
  · exact h
  · exact h
  · exact h.cst k
  · exact h.cst k
  · exact h.cst (fun _ x=>x.cst k)
  · exact h
  · exact h
  · exact h
  · exact h.cst k
  · exact h.cst k
  · exact h.cst (fun _ x=>x.cst k)
  · exact h
  · exact h
  · exact h
  · exact h.cst k
  · exact h.cst k
  · exact h.cst (fun _ x=>x.cst k)
  · exact h
  · exact h.cst k
  · exact h.cst (fun _ x=>x.cst k)
  · exact h
  · exact h
  · exact h.cst (fun _ x=>x)
  · exact trivial
theorem zj6 (db pb:Addr) (i:Nat) (v:Value) (w w':World) (k:Cst w w') (h:PV db pb i v w):PV db pb i v w':=zH1 db pb i v w w' k.cel h
def KL:List (ByteArray×Nat×Nat):=[((⟨#[104,111,115,116]⟩:ByteArray),4,3),((⟨#[111,112,101,110]⟩:ByteArray),8,7),((⟨#[110,101,120,116]⟩:ByteArray),12,11),((⟨#[115,117,98,109,105,116]⟩:ByteArray),16,15),((⟨#[116,105,99,107]⟩:ByteArray),23,22),((⟨#[112,108,97,110]⟩:ByteArray),27,26),((⟨#[103,111,111,100]⟩:ByteArray),34,33),((⟨#[98,97,100]⟩:ByteArray),41,40),((⟨#[99,97,110,99,101,108]⟩:ByteArray),48,47),((⟨#[115,104,111,119]⟩:ByteArray),52,51),((⟨#[102,114,101,101]⟩:ByteArray),56,55)]
def TI:List (Nat×Nat):=[(57,52),(58,2)]
theorem zxL:zod zeK KL TI [1,3,4] 53=true:=by kernel_rfl
abbrev zFA (db pb:Addr) (b0:Act) (w0:World):=DI (PV db pb) zeK KL TI [1,3,4] b0 w0
structure zLm (db pb:Addr) (b0:Act) (w0:World):Prop where
  size:b0.tmps.size=53
  t1:b0.tmps.getD 1 undef=.pointer (some pb)
  t3:b0.tmps.getD 3 undef=.func (.func 202) #[] #[]
  t4:b0.tmps.getD 4 undef=.func (.func 206) #[] #[.pointer (some pb)]
  cell:w0.cell? pb=some (.pointer (some db))
  lt:pb.block<w0.heap.size
def zc6 (db pb:Addr) (i:Nat):Prop:=∀ (Q:Exit->Act->World->Prop) (b0:Act) (w0:World),zLm db pb b0 w0->∀ (l:Array Bool) (a:Act) (w:World),zFA db pb b0 w0 l a w->i∈Region.ready .any zeK l ->
  wpOp Tryz.prog zeK Q i (zFA db pb b0 w0 (l.setIfInBounds i true)) a w
theorem dep {i j:Nat} {l:Array Bool} (hi:i<59) (h:i∈Region.ready .any zeK l) (hb:(zcD i).after.any (fun e=>e.on==j&&Region.binds .any e)=true):l.getD j false=true:=by
  obtain ⟨_,o,ho,hall⟩:=mem_ready.1 h
  rw [zj0 hi] at ho; injection ho with ho; subst ho
  obtain ⟨e,he,hb⟩:=Array.any_eq_true'.1 hb
  simp only [Bool.and_eq_true,beq_iff_eq] at hb
  rw [<- hb.1]; exact hall e he hb.2
theorem zlu {i d:Nat} (hi:i<59) (hd:(zcD i).dst=some d):(zcD i).guard=none:=(zzU zxL (zj0 hi) hd).1
theorem ev_t {db pb:Addr} {b0:Act} {w0:World} {l:Array Bool} {a:Act} {w:World} (hB:zLm db pb b0 w0) (h:zFA db pb b0 w0 l a w) :
    a.eval (.tmp 1)=.pointer (some pb)/\a.eval (.tmp 3)=.func (.func 202) #[] #[]/\a.eval (.tmp 4)=.func (.func 206) #[] #[.pointer (some pb)]/\w.cell? pb=some (.pointer (some db)) :=
  ⟨(h.base 1 (by decide)).trans hB.t1,(h.base 3 (by decide)).trans hB.t3,(h.base 4 (by decide)).trans hB.t4,(h.ext.cell hB.lt).trans hB.cell⟩
theorem zg0 {db pb:Addr} {b0:Act} {w0:World} {l:Array Bool} {a:Act} {w:World} (h:zFA db pb b0 w0 l a w) {j d:Nat} (hj:j<59) (hd:(zcD j).dst=some d) (hl:l.getD j false=true) :
    PV db pb j (a.eval (.tmp d)) w:=h.val j _ d (zj0 hj) hl hd
theorem zKI {i:Nat} (h:i<57):∀ x∈TI,x.1=i->False:=by
  intro x hx he
  have:x.1=57\/x.1=58:=by
    simp only [TI,List.mem_cons,List.not_mem_nil,or_false] at hx
    rcases hx with rfl|rfl
    · exact .inl rfl
    · exact .inr rfl
  omega
theorem zl2 {db pb:Addr} {i d:Nat} (h0:0<i) (hi:i<57) (hd:(zcD i).dst=some d)
    (hr:∀ (b0:Act) (w0:World),zLm db pb b0 w0->∀ (l:Array Bool) (a:Act) (w:World),zFA db pb b0 w0 l a w->i∈Region.ready .any zeK l->∃ v,(execOp a.eval (zcD i)).run Tryz.prog w=.ok (.value v) w/\PV db pb i v w):zc6 db pb i:=by
  intro Q b0 w0 hB l a w h hm
  obtain ⟨v,e1,e2⟩:=hr b0 w0 hB l a w h hm
  exact zoP (zj0 (by omega)) (zlu (by omega) hd) e1 (h.put zxL hB.size (zj6 db pb) (zj0 (by omega)) hd (Ext.refl w) e2 (fun hh=>by omega) (fun x hx he=>(zKI hi x hx he).elim))
theorem zKB (pb:Addr) (v:Addr) (w:World) (h:w.cell? pb=some (.pointer (some v))):(Instr.loadAt 115 (.pointer (some pb))).run Tryz.prog w=.ok (.pointer (some v)) w:=by
  have ha:(isAgg 115).run Tryz.prog w=.ok false w:=by kernel_rfl
  simp only [Instr.loadAt,Instr.sureAddr,Sem.run_bind,Sem.run_pure,Result.andThen_ok,loadVar,ha]
  simp [h]
theorem znh {db pb:Addr} (i d:Nat) (h0:0<i) (hi:i<57) (hop:(zcD i).op=.load 115 (.tmp 1)) (hd:(zcD i).dst=some d) (hp:∀ v w,v=.pointer (some db)->PV db pb i v w):zc6 db pb i :=
  zl2 h0 hi hd fun b0 w0 hB l a w h hm=>by
    obtain ⟨e1,_,_,e4⟩:=ev_t hB h
    refine ⟨_,?_,hp _ w rfl⟩
    simp only [execOp,hop,e1,Sem.run_bind,zKB pb db w e4,Result.andThen_ok,Sem.run_pure]
theorem zjl {db pb:Addr} (i d t:Nat) (h0:0<i) (hi:i<57) (hop:(zcD i).op=.move (.tmp t)) (hd:(zcD i).dst=some d)
    (hp:(t=3/\∀ v w,v=.func (.func 202) #[] #[]->PV db pb i v w)\/(t=4/\∀ v w,zgV pb 206 v->PV db pb i v w)):zc6 db pb i :=
  zl2 h0 hi hd fun b0 w0 hB l a w h hm=>by
    obtain ⟨_,e2,e3,_⟩:=ev_t hB h
    rcases hp with ⟨rfl,hp⟩|⟨rfl,hp⟩
    · exact ⟨_,by simp only [execOp,hop,e2,Sem.run_pure],hp _ w rfl⟩
    · exact ⟨_,by simp only [execOp,hop,e3,Sem.run_pure],hp _ w rfl⟩
theorem zv7 {db pb:Addr} (i d F:Nat) (h0:0<i) (hi:i<57) (hop:(zcD i).op=.makeFunc (.func F) #[] #[.tmp 1]) (hd:(zcD i).dst=some d) (hp:∀ v w,zgV pb F v->PV db pb i v w):zc6 db pb i :=
  zl2 h0 hi hd fun b0 w0 hB l a w h hm=>by
    obtain ⟨e1,_,_,_⟩:=ev_t hB h
    refine ⟨_,?_,hp _ w rfl⟩
    simp only [execOp,hop,Instr.makeFunc,List.map_toArray,List.map_cons,List.map_nil,e1,Sem.run_bind,Sem.run_pure,Result.andThen_ok]
theorem zni {db pb:Addr} (i d t j F:Nat) (h0:0<i) (hi:i<57) (hj:j<57) (hop:(zcD i).op=.makeFunc (.func F) #[.tmp t] #[]) (hd:(zcD i).dst=some d) (hdj:(zcD j).dst=some t)
    (hb:(zcD i).after.any (fun e=>e.on==j&&Region.binds .any e)=true) (hq:∀ v w,PV db pb j v w->v=.pointer (some db)) (hp:∀ v w,zbr db F v->PV db pb i v w):zc6 db pb i :=
  zl2 h0 hi hd fun b0 w0 hB l a w h hm=>by
    have e1:=hq _ _ (zg0 h (by omega) hdj (dep (by omega) hm hb))
    refine ⟨_,?_,hp _ w rfl⟩
    simp only [execOp,hop,Instr.makeFunc,List.map_toArray,List.map_cons,List.map_nil,e1,Sem.run_bind,Sem.run_pure,Result.andThen_ok]
theorem zFY (n:Int) (b:Bool) (f:Fn) (bd cap:Array Value) (w:World):(Instr.build 252 #[(0,.int .i64 n),(1,.bool b),(2,.func f bd cap)]).run Tryz.prog w=.ok (.agg #[.int .i64 n,.bool b,.func f bd cap]) w:=by kernel_rfl
theorem zd4 {db pb:Addr} {n:Int} {b:Bool} {R:Value->World->Prop} (i d t j:Nat) (h0:0<i) (hi:i<57) (hj:j<57) (hop:(zcD i).op=.build 252 #[(0,.const (.int .i64 n)),(1,.const (.bool b)),(2,.tmp t)]) (hd:(zcD i).dst=some d) (hdj:(zcD j).dst=some t)
    (hb:(zcD i).after.any (fun e=>e.on==j&&Region.binds .any e)=true) (hq:∀ v w,PV db pb j v w->(∃ f bd cap,v=.func f bd cap)/\R v w) (hp:∀ v w,zd7 n b R v w->PV db pb i v w):zc6 db pb i :=
  zl2 h0 hi hd fun b0 w0 hB l a w h hm=>by
    obtain ⟨⟨f,bd,cap,e1⟩,e2⟩:=hq _ _ (zg0 h (by omega) hdj (dep (by omega) hm hb))
    rw [e1] at e2
    refine ⟨_,?_,hp _ w ⟨f,bd,cap,rfl,e2⟩⟩
    have e3:∀ n:Int,a.eval (.const (.int .i64 n))=.int .i64 n:=fun _=>rfl
    have e4:∀ n:Bool,a.eval (.const (.bool n))=.bool n:=fun _=>rfl
    simp only [execOp,hop,List.map_toArray,List.map_cons,List.map_nil,e1,e3,e4,Sem.run_bind,zFY,Sem.run_pure,Result.andThen_ok]
theorem zh4 {db pb:Addr} (i d:Nat) (f x:Operand) (h0:0<i) (hi:i<57) (hop:(zcD i).op=.call { callee:=.value f,args:=#[x],argTypes:=#[70] }\/(zcD i).op=.call { callee:=.value f,args:=#[x],argTypes:=#[322] }) (hd:(zcD i).dst=some d)
    (hr:∀ (b0:Act) (w0:World),zLm db pb b0 w0->∀ (l:Array Bool) (a:Act) (w:World),zFA db pb b0 w0 l a w->i∈Region.ready .any zeK l ->
      ∃ g cap,a.eval f=.func (.func g) #[] cap/\FnP Tryz.prog g (#[a.eval x]++cap) w fun v w'=>Ext w w'/\PV db pb i v w'):zc6 db pb i:=by
  intro Q b0 w0 hB l a w h hm
  obtain ⟨g,cap,e1,e2⟩:=hr b0 w0 hB l a w h hm
  have hrun:(execOp a.eval (zcD i)).run Tryz.prog w=.ok (.enter g (#[a.eval x]++cap)) w:=by
    rcases hop with hop|hop
    · have hh:=zh0 (w:=w) hop e1 e2.1
      rwa [List.map_toArray,List.map_cons,List.map_nil] at hh
    · have hh:=zh0 (w:=w) hop e1 e2.1
      rwa [List.map_toArray,List.map_cons,List.map_nil] at hh
  exact zBy (zj0 (by omega)) (zlu (by omega) hd) hrun (e2.mono fun v w' hv=>h.put zxL hB.size (zj6 db pb) (zj0 (by omega)) hd hv.1 hv.2 (fun hh=>by omega) (fun x hx he=>(zKI hi x hx he).elim))
theorem zlF {w w1:World} {t:TypeId} {v:Value} {p:Option Addr} (h:zAA w t [v] p w1):∃ q:Addr,p=some q/\w1.cell? q=some v :=
  ⟨⟨w.heap.size,0,none⟩,h.at_,by simp [World.cell?,h.block]⟩
theorem zs8 (pb:Addr) (F:FuncId) (w:World):FnP Tryz.prog 206 #[.func (.func F) #[] #[.pointer (some pb)],.pointer (some pb)] w fun v w'=>Ext w w'/\zf7 pb F v w' :=
  zhP _ (some pb) w _ fun w0 x0=>by
    refine ⟨fun v hv=>by simp at hv; subst hv; rfl,fun p w1 hn w2 x2=>?_⟩
    obtain ⟨q,rfl,hq⟩:=zlF hn
    exact ⟨(x0.trans hn.ext).trans x2,q,rfl,(Cst.of_ext x2).cell hq⟩
theorem zID (u:Value) (hu:u.oneCell'=true) (w:World):FnP Tryz.prog 203 #[u] w fun v w'=>Ext w w'/\∃ p2:Addr,v=.func (.func 251) #[] #[.pointer (some p2)]/\w'.cell? p2=some u :=
  zn6 _ w _ fun w0 x0=>by
    refine ⟨fun v hv=>by simp at hv; subst hv; exact hu,fun p w1 hn w2 x2=>?_⟩
    obtain ⟨q,rfl,hq⟩:=zlF hn
    exact ⟨(x0.trans hn.ext).trans x2,q,rfl,(Cst.of_ext x2).cell hq⟩
theorem ztb (pb:Addr) (F:FuncId) (u:Value) (w:World) (hu:zf7 pb F u w):FnP Tryz.prog 202 #[u] w fun v w'=>Ext w w'/\zdh pb F v w' :=
  zhO _ w _ fun w0 x0=>by
    have ho:u.oneCell'=true:=by obtain ⟨p3,rfl,_⟩:=hu; rfl
    refine ⟨fun v hv=>by simp at hv; subst hv; exact ho,fun p w1 hn w2 x2=>?_⟩
    obtain ⟨q,rfl,hq⟩:=zlF hn
    refine (zID (.func (.func 204) #[] #[.pointer (some q)]) rfl w2).mono fun v w3 hv=>?_
    obtain ⟨x3,p2,e1,e2⟩:=hv
    refine ⟨x3,v,rfl,fun w5 x5=>⟨((((x0.trans hn.ext).trans x2).trans x3).trans x5),p2,q,e1,(Cst.of_ext x5).cell e2,u,?_,?_⟩⟩
    · exact (Cst.of_ext (x2.trans (x3.trans x5))).cell hq
    · exact hu.cst (Cst.of_ext ((((x0.trans hn.ext).trans x2).trans x3).trans x5)).cel
theorem kstr:zBB Tryz.prog 9 Value.string .string:=zs0 (by kernel_rfl)
theorem zIT:Tryz.prog.underlying 254=some (.map 9 252):=by kernel_rfl
theorem zjk {db pb:Addr} (i t j:Nat) (K:ByteArray) (h0:0<i) (hi:i<57) (hj:j<57) (hop:(zcD i).op=.insert 254 (.tmp 6) (.const (.string K)) (.tmp t)) (hd:(zcD i).dst=none) (hgu:(zcD i).guard=none) (hdj:(zcD j).dst=some t)
    (hb:(zcD i).after.any (fun e=>e.on==j&&Region.binds .any e)=true) (hb0:(zcD i).after.any (fun e=>e.on==0&&Region.binds .any e)=true)
    (hk:KL.find? (fun x=>decide (x.1=K))=some (K,i,j)) (hu:∀ x∈KL,x.2.1=i->x.1=K):zc6 db pb i:=by
  intro Q b0 w0 hB l a w h hm
  have hv:=zg0 h (by omega) hdj (dep (by omega) hm hb)
  have hl0:=dep (by omega) hm hb0
  obtain ⟨mb,M,e1,e2,e3,e4⟩:=h.mp hl0
  obtain ⟨v',w',hr,hw⟩:=zh1 (P:=Tryz.prog) kstr zIT e3 (a:=K) (v:=a.eval (.tmp t)) (Q:=fun v w'=>v=undef/\zdb Value.string w' mb (zqC M K (a.eval (.tmp t)))/\zco w w' (some ⟨mb,0,none⟩) (some ⟨mb,0,none⟩)) (fun w' h1 h2=>⟨rfl,h1,h2⟩)
  obtain ⟨rfl,hm',hg⟩:=hw
  have hr':(Instr.mapUpdate 254 (.map (some mb)) (.string K) (a.eval (.tmp t))).run Tryz.prog w=.ok () w':=by
    have hr2:(do Instr.mapUpdate 254 (.map (some mb)) (.string K) (a.eval (.tmp t)); pure undef:Sem Value).run Tryz.prog w=.ok undef w':=hr
    simp only [Sem.run_bind] at hr2
    cases hq:(Instr.mapUpdate 254 (.map (some mb)) (.string K) (a.eval (.tmp t))).run Tryz.prog w with
    |ok u w2 => rw [hq] at hr2; simp at hr2; rw [hr2]
    |halt x w2 => rw [hq] at hr2; simp at hr2
  refine zE6 (zj0 (by omega)) hgu ?_ (h.ins zxL (zj6 db pb) (zj0 (by omega)) hd (by omega) hl0 e1 e2 e3 e4 hk hu hv hm' hg)
  have e5:a.eval (.tmp 6)=.map (some mb):=e1
  have e6:a.eval (.const (.string K))=.string K:=rfl
  simp only [execOp,hop,e5,e6,Sem.run_bind,hr',Result.andThen_ok,Sem.run_pure]
theorem zLa {db pb:Addr}:zc6 db pb 0:=by
  intro Q b0 w0 hB l a w h hm
  have hl0:l.getD 0 false=false:=by
    have:=(mem_ready.1 hm).1
    cases hq:l[0]? with
    |none => simp [hq]
    |some b => simp [hq] at this ⊢; exact this
  obtain ⟨v',w',hr,hw⟩:=zkT (P:=Tryz.prog) (enc:=(Value.string:ByteArray->Value)) (t:=254) (w:=w) (K:=fun v w'=>v=.map (some w.heap.size)/\zdb Value.string w' w.heap.size []/\Ext w w') (fun w' h1 h2=>⟨rfl,h1,h2⟩)
  obtain ⟨rfl,hm',hx⟩:=hw
  have hop:(zcD 0).op=.makeMap 254 none:=by kernel_rfl
  have hr':(Instr.makeMap 254 none).run Tryz.prog w=.ok (.map (some w.heap.size)) w':=hr
  refine zoP (zj0 (by omega)) (zlu (d:=6) (by omega) (by kernel_rfl)) ?_ (h.put zxL hB.size (zj6 db pb) (zj0 (by omega)) (d:=6) (by kernel_rfl) hx (by unfold PV; exact trivial) (fun _=>⟨hl0,rfl,hm'⟩) (fun x hx he=>(zKI (by omega) x hx he).elim))
  simp only [execOp,hop,Option.map_none,Sem.run_bind,hr',Result.andThen_ok,Sem.run_pure]
theorem st_57 {db pb:Addr}:zc6 db pb 57:=by
  intro Q b0 w0 hB l a w h hm
  have hl0:=dep (j:=0) (by omega) hm (by kernel_rfl)
  have hop:(zcD 57).op=.move (.tmp 6):=by kernel_rfl
  refine zoP (v:=a.eval (.tmp 6)) (zj0 (by omega)) (zlu (d:=52) (by omega) (by kernel_rfl)) ?_ (h.put zxL hB.size (zj6 db pb) (zj0 (by omega)) (d:=52) (by kernel_rfl) (Ext.refl w) (by unfold PV; exact trivial) (fun hh=>by omega) (fun x hx he=>⟨hl0,rfl⟩))
  simp only [execOp,hop,Sem.run_pure]
theorem st_58 {db pb:Addr}:zc6 db pb 58:=by
  intro Q b0 w0 hB l a w h hm
  have hl0:=dep (j:=0) (by omega) hm (by kernel_rfl)
  have hl7:=dep (j:=57) (by omega) hm (by kernel_rfl)
  have hop:(zcD 58).op=.assign (.tmp 52):=by kernel_rfl
  refine zoP (v:=a.eval (.tmp 52)) (zj0 (by omega)) (zlu (d:=2) (by omega) (by kernel_rfl)) ?_ (h.put zxL hB.size (zj6 db pb) (zj0 (by omega)) (d:=2) (by kernel_rfl) (Ext.refl w) (by unfold PV; exact trivial) (fun hh=>by omega) (fun x hx he=>⟨hl0,(h.tie (57,52) (by decide) hl7).2⟩))
  simp only [execOp,hop,Sem.run_pure]
theorem st_1 {db pb:Addr}:zc6 db pb 1 :=
  znh 1 7 (by decide) (by decide) (by kernel_rfl) (by kernel_rfl) (fun v w e=>e)
theorem st_2 {db pb:Addr}:zc6 db pb 2 :=
  zni 2 8 7 1 208 (by decide) (by decide) (by decide) (by kernel_rfl) (by kernel_rfl) (by kernel_rfl) (by kernel_rfl) (fun v w e=>e) (fun v w e=>e)
theorem st_3 {db pb:Addr}:zc6 db pb 3 :=
  zd4 (n:=4) (b:=false) (R:=(fun f _=>zbr db 208 f)) 3 9 8 2 (by decide) (by decide) (by decide) (by kernel_rfl) (by kernel_rfl) (by kernel_rfl) (by kernel_rfl) (fun v w e=>⟨⟨_,_,_,e⟩,e⟩) (fun v w e=>e)
theorem st_4 {db pb:Addr}:zc6 db pb 4 :=
  zjk 4 9 3 (⟨#[104,111,115,116]⟩:ByteArray) (by decide) (by decide) (by decide) (by kernel_rfl) (by kernel_rfl) (by kernel_rfl) (by kernel_rfl) (by kernel_rfl) (by kernel_rfl) (by kernel_rfl) (by decide)
theorem st_5 {db pb:Addr}:zc6 db pb 5 :=
  znh 5 10 (by decide) (by decide) (by kernel_rfl) (by kernel_rfl) (fun v w e=>e)
theorem st_6 {db pb:Addr}:zc6 db pb 6 :=
  zni 6 11 10 5 209 (by decide) (by decide) (by decide) (by kernel_rfl) (by kernel_rfl) (by kernel_rfl) (by kernel_rfl) (fun v w e=>e) (fun v w e=>e)
theorem st_7 {db pb:Addr}:zc6 db pb 7 :=
  zd4 (n:=1) (b:=false) (R:=(fun f _=>zbr db 209 f)) 7 12 11 6 (by decide) (by decide) (by decide) (by kernel_rfl) (by kernel_rfl) (by kernel_rfl) (by kernel_rfl) (fun v w e=>⟨⟨_,_,_,e⟩,e⟩) (fun v w e=>e)
theorem st_8 {db pb:Addr}:zc6 db pb 8 :=
  zjk 8 12 7 (⟨#[111,112,101,110]⟩:ByteArray) (by decide) (by decide) (by decide) (by kernel_rfl) (by kernel_rfl) (by kernel_rfl) (by kernel_rfl) (by kernel_rfl) (by kernel_rfl) (by kernel_rfl) (by decide)
theorem st_9 {db pb:Addr}:zc6 db pb 9 :=
  znh 9 13 (by decide) (by decide) (by kernel_rfl) (by kernel_rfl) (fun v w e=>e)
theorem st_10 {db pb:Addr}:zc6 db pb 10 :=
  zni 10 14 13 9 210 (by decide) (by decide) (by decide) (by kernel_rfl) (by kernel_rfl) (by kernel_rfl) (by kernel_rfl) (fun v w e=>e) (fun v w e=>e)
theorem st_11 {db pb:Addr}:zc6 db pb 11 :=
  zd4 (n:=7) (b:=false) (R:=(fun f _=>zbr db 210 f)) 11 15 14 10 (by decide) (by decide) (by decide) (by kernel_rfl) (by kernel_rfl) (by kernel_rfl) (by kernel_rfl) (fun v w e=>⟨⟨_,_,_,e⟩,e⟩) (fun v w e=>e)
theorem st_12 {db pb:Addr}:zc6 db pb 12 :=
  zjk 12 15 11 (⟨#[110,101,120,116]⟩:ByteArray) (by decide) (by decide) (by decide) (by kernel_rfl) (by kernel_rfl) (by kernel_rfl) (by kernel_rfl) (by kernel_rfl) (by kernel_rfl) (by kernel_rfl) (by decide)
theorem st_13 {db pb:Addr}:zc6 db pb 13 :=
  znh 13 16 (by decide) (by decide) (by kernel_rfl) (by kernel_rfl) (fun v w e=>e)
theorem st_14 {db pb:Addr}:zc6 db pb 14 :=
  zni 14 17 16 13 211 (by decide) (by decide) (by decide) (by kernel_rfl) (by kernel_rfl) (by kernel_rfl) (by kernel_rfl) (fun v w e=>e) (fun v w e=>e)
theorem st_15 {db pb:Addr}:zc6 db pb 15 :=
  zd4 (n:=6) (b:=true) (R:=(fun f _=>zbr db 211 f)) 15 18 17 14 (by decide) (by decide) (by decide) (by kernel_rfl) (by kernel_rfl) (by kernel_rfl) (by kernel_rfl) (fun v w e=>⟨⟨_,_,_,e⟩,e⟩) (fun v w e=>e)
theorem st_16 {db pb:Addr}:zc6 db pb 16 :=
  zjk 16 18 15 (⟨#[115,117,98,109,105,116]⟩:ByteArray) (by decide) (by decide) (by decide) (by kernel_rfl) (by kernel_rfl) (by kernel_rfl) (by kernel_rfl) (by kernel_rfl) (by kernel_rfl) (by kernel_rfl) (by decide)
theorem st_17 {db pb:Addr}:zc6 db pb 17 :=
  zjl 17 19 3 (by decide) (by decide) (by kernel_rfl) (by kernel_rfl) (.inl ⟨rfl,fun v w e=>e⟩)
theorem st_18 {db pb:Addr}:zc6 db pb 18 :=
  zjl 18 20 4 (by decide) (by decide) (by kernel_rfl) (by kernel_rfl) (.inr ⟨rfl,fun v w e=>e⟩)
theorem st_19 {db pb:Addr}:zc6 db pb 19 :=
  zv7 19 21 212 (by decide) (by decide) (by kernel_rfl) (by kernel_rfl) (fun v w e=>e)
theorem st_20 {db pb:Addr}:zc6 db pb 20 :=
  zh4 20 22 (.tmp 20) (.tmp 21) (by decide) (by decide) (.inl (by kernel_rfl)) (by kernel_rfl) fun b0 w0 hB l a w h hm=>by
    have e1:zgV pb 206 (a.eval (.tmp 20)):=zg0 h (j:=18) (by decide) (by kernel_rfl) (dep (by decide) hm (by kernel_rfl))
    have e2:zgV pb 212 (a.eval (.tmp 21)):=zg0 h (j:=19) (by decide) (by kernel_rfl) (dep (by decide) hm (by kernel_rfl))
    refine ⟨206,#[.pointer (some pb)],e1,?_⟩
    rw [e2]
    exact zs8 pb 212 w
theorem st_21 {db pb:Addr}:zc6 db pb 21 :=
  zh4 21 23 (.tmp 19) (.tmp 22) (by decide) (by decide) (.inl (by kernel_rfl)) (by kernel_rfl) fun b0 w0 hB l a w h hm=>by
    have e1:a.eval (.tmp 19)=.func (.func 202) #[] #[]:=zg0 h (j:=17) (by decide) (by kernel_rfl) (dep (by decide) hm (by kernel_rfl))
    have e2:zf7 pb 212 (a.eval (.tmp 22)) w:=zg0 h (j:=20) (by decide) (by kernel_rfl) (dep (by decide) hm (by kernel_rfl))
    exact ⟨202,#[],e1,ztb pb 212 _ w e2⟩
theorem st_22 {db pb:Addr}:zc6 db pb 22 :=
  zd4 (n:=2) (b:=false) (R:=(zdh pb 212)) 22 24 23 21 (by decide) (by decide) (by decide) (by kernel_rfl) (by kernel_rfl) (by kernel_rfl) (by kernel_rfl) (fun v w e=>⟨by obtain ⟨p,q,e1,_⟩:=e; exact ⟨_,_,_,e1⟩,e⟩) (fun v w e=>e)
theorem st_23 {db pb:Addr}:zc6 db pb 23 :=
  zjk 23 24 22 (⟨#[116,105,99,107]⟩:ByteArray) (by decide) (by decide) (by decide) (by kernel_rfl) (by kernel_rfl) (by kernel_rfl) (by kernel_rfl) (by kernel_rfl) (by kernel_rfl) (by kernel_rfl) (by decide)
theorem st_24 {db pb:Addr}:zc6 db pb 24 :=
  znh 24 25 (by decide) (by decide) (by kernel_rfl) (by kernel_rfl) (fun v w e=>e)
theorem st_25 {db pb:Addr}:zc6 db pb 25 :=
  zni 25 26 25 24 213 (by decide) (by decide) (by decide) (by kernel_rfl) (by kernel_rfl) (by kernel_rfl) (by kernel_rfl) (fun v w e=>e) (fun v w e=>e)
theorem st_26 {db pb:Addr}:zc6 db pb 26 :=
  zd4 (n:=1) (b:=true) (R:=(fun f _=>zbr db 213 f)) 26 27 26 25 (by decide) (by decide) (by decide) (by kernel_rfl) (by kernel_rfl) (by kernel_rfl) (by kernel_rfl) (fun v w e=>⟨⟨_,_,_,e⟩,e⟩) (fun v w e=>e)
theorem st_27 {db pb:Addr}:zc6 db pb 27 :=
  zjk 27 27 26 (⟨#[112,108,97,110]⟩:ByteArray) (by decide) (by decide) (by decide) (by kernel_rfl) (by kernel_rfl) (by kernel_rfl) (by kernel_rfl) (by kernel_rfl) (by kernel_rfl) (by kernel_rfl) (by decide)
theorem st_28 {db pb:Addr}:zc6 db pb 28 :=
  zjl 28 28 3 (by decide) (by decide) (by kernel_rfl) (by kernel_rfl) (.inl ⟨rfl,fun v w e=>e⟩)
theorem st_29 {db pb:Addr}:zc6 db pb 29 :=
  zjl 29 29 4 (by decide) (by decide) (by kernel_rfl) (by kernel_rfl) (.inr ⟨rfl,fun v w e=>e⟩)
theorem st_30 {db pb:Addr}:zc6 db pb 30 :=
  zv7 30 30 214 (by decide) (by decide) (by kernel_rfl) (by kernel_rfl) (fun v w e=>e)
theorem st_31 {db pb:Addr}:zc6 db pb 31 :=
  zh4 31 31 (.tmp 29) (.tmp 30) (by decide) (by decide) (.inl (by kernel_rfl)) (by kernel_rfl) fun b0 w0 hB l a w h hm=>by
    have e1:zgV pb 206 (a.eval (.tmp 29)):=zg0 h (j:=29) (by decide) (by kernel_rfl) (dep (by decide) hm (by kernel_rfl))
    have e2:zgV pb 214 (a.eval (.tmp 30)):=zg0 h (j:=30) (by decide) (by kernel_rfl) (dep (by decide) hm (by kernel_rfl))
    refine ⟨206,#[.pointer (some pb)],e1,?_⟩
    rw [e2]
    exact zs8 pb 214 w
theorem st_32 {db pb:Addr}:zc6 db pb 32 :=
  zh4 32 32 (.tmp 28) (.tmp 31) (by decide) (by decide) (.inl (by kernel_rfl)) (by kernel_rfl) fun b0 w0 hB l a w h hm=>by
    have e1:a.eval (.tmp 28)=.func (.func 202) #[] #[]:=zg0 h (j:=28) (by decide) (by kernel_rfl) (dep (by decide) hm (by kernel_rfl))
    have e2:zf7 pb 214 (a.eval (.tmp 31)) w:=zg0 h (j:=31) (by decide) (by kernel_rfl) (dep (by decide) hm (by kernel_rfl))
    exact ⟨202,#[],e1,ztb pb 214 _ w e2⟩
theorem st_33 {db pb:Addr}:zc6 db pb 33 :=
  zd4 (n:=2) (b:=false) (R:=(zdh pb 214)) 33 33 32 32 (by decide) (by decide) (by decide) (by kernel_rfl) (by kernel_rfl) (by kernel_rfl) (by kernel_rfl) (fun v w e=>⟨by obtain ⟨p,q,e1,_⟩:=e; exact ⟨_,_,_,e1⟩,e⟩) (fun v w e=>e)
theorem st_34 {db pb:Addr}:zc6 db pb 34 :=
  zjk 34 33 33 (⟨#[103,111,111,100]⟩:ByteArray) (by decide) (by decide) (by decide) (by kernel_rfl) (by kernel_rfl) (by kernel_rfl) (by kernel_rfl) (by kernel_rfl) (by kernel_rfl) (by kernel_rfl) (by decide)
theorem st_35 {db pb:Addr}:zc6 db pb 35 :=
  zjl 35 34 3 (by decide) (by decide) (by kernel_rfl) (by kernel_rfl) (.inl ⟨rfl,fun v w e=>e⟩)
theorem st_36 {db pb:Addr}:zc6 db pb 36 :=
  zjl 36 35 4 (by decide) (by decide) (by kernel_rfl) (by kernel_rfl) (.inr ⟨rfl,fun v w e=>e⟩)
theorem st_37 {db pb:Addr}:zc6 db pb 37 :=
  zv7 37 36 216 (by decide) (by decide) (by kernel_rfl) (by kernel_rfl) (fun v w e=>e)
theorem st_38 {db pb:Addr}:zc6 db pb 38 :=
  zh4 38 37 (.tmp 35) (.tmp 36) (by decide) (by decide) (.inl (by kernel_rfl)) (by kernel_rfl) fun b0 w0 hB l a w h hm=>by
    have e1:zgV pb 206 (a.eval (.tmp 35)):=zg0 h (j:=36) (by decide) (by kernel_rfl) (dep (by decide) hm (by kernel_rfl))
    have e2:zgV pb 216 (a.eval (.tmp 36)):=zg0 h (j:=37) (by decide) (by kernel_rfl) (dep (by decide) hm (by kernel_rfl))
    refine ⟨206,#[.pointer (some pb)],e1,?_⟩
    rw [e2]
    exact zs8 pb 216 w
theorem st_39 {db pb:Addr}:zc6 db pb 39 :=
  zh4 39 38 (.tmp 34) (.tmp 37) (by decide) (by decide) (.inl (by kernel_rfl)) (by kernel_rfl) fun b0 w0 hB l a w h hm=>by
    have e1:a.eval (.tmp 34)=.func (.func 202) #[] #[]:=zg0 h (j:=35) (by decide) (by kernel_rfl) (dep (by decide) hm (by kernel_rfl))
    have e2:zf7 pb 216 (a.eval (.tmp 37)) w:=zg0 h (j:=38) (by decide) (by kernel_rfl) (dep (by decide) hm (by kernel_rfl))
    exact ⟨202,#[],e1,ztb pb 216 _ w e2⟩
theorem st_40 {db pb:Addr}:zc6 db pb 40 :=
  zd4 (n:=2) (b:=false) (R:=(zdh pb 216)) 40 39 38 39 (by decide) (by decide) (by decide) (by kernel_rfl) (by kernel_rfl) (by kernel_rfl) (by kernel_rfl) (fun v w e=>⟨by obtain ⟨p,q,e1,_⟩:=e; exact ⟨_,_,_,e1⟩,e⟩) (fun v w e=>e)
theorem st_41 {db pb:Addr}:zc6 db pb 41 :=
  zjk 41 39 40 (⟨#[98,97,100]⟩:ByteArray) (by decide) (by decide) (by decide) (by kernel_rfl) (by kernel_rfl) (by kernel_rfl) (by kernel_rfl) (by kernel_rfl) (by kernel_rfl) (by kernel_rfl) (by decide)
theorem st_42 {db pb:Addr}:zc6 db pb 42 :=
  zjl 42 40 3 (by decide) (by decide) (by kernel_rfl) (by kernel_rfl) (.inl ⟨rfl,fun v w e=>e⟩)
theorem st_43 {db pb:Addr}:zc6 db pb 43 :=
  zjl 43 41 4 (by decide) (by decide) (by kernel_rfl) (by kernel_rfl) (.inr ⟨rfl,fun v w e=>e⟩)
theorem st_44 {db pb:Addr}:zc6 db pb 44 :=
  zv7 44 42 217 (by decide) (by decide) (by kernel_rfl) (by kernel_rfl) (fun v w e=>e)
theorem st_45 {db pb:Addr}:zc6 db pb 45 :=
  zh4 45 43 (.tmp 41) (.tmp 42) (by decide) (by decide) (.inl (by kernel_rfl)) (by kernel_rfl) fun b0 w0 hB l a w h hm=>by
    have e1:zgV pb 206 (a.eval (.tmp 41)):=zg0 h (j:=43) (by decide) (by kernel_rfl) (dep (by decide) hm (by kernel_rfl))
    have e2:zgV pb 217 (a.eval (.tmp 42)):=zg0 h (j:=44) (by decide) (by kernel_rfl) (dep (by decide) hm (by kernel_rfl))
    refine ⟨206,#[.pointer (some pb)],e1,?_⟩
    rw [e2]
    exact zs8 pb 217 w
theorem st_46 {db pb:Addr}:zc6 db pb 46 :=
  zh4 46 44 (.tmp 40) (.tmp 43) (by decide) (by decide) (.inl (by kernel_rfl)) (by kernel_rfl) fun b0 w0 hB l a w h hm=>by
    have e1:a.eval (.tmp 40)=.func (.func 202) #[] #[]:=zg0 h (j:=42) (by decide) (by kernel_rfl) (dep (by decide) hm (by kernel_rfl))
    have e2:zf7 pb 217 (a.eval (.tmp 43)) w:=zg0 h (j:=45) (by decide) (by kernel_rfl) (dep (by decide) hm (by kernel_rfl))
    exact ⟨202,#[],e1,ztb pb 217 _ w e2⟩
theorem st_47 {db pb:Addr}:zc6 db pb 47 :=
  zd4 (n:=2) (b:=false) (R:=(zdh pb 217)) 47 45 44 46 (by decide) (by decide) (by decide) (by kernel_rfl) (by kernel_rfl) (by kernel_rfl) (by kernel_rfl) (fun v w e=>⟨by obtain ⟨p,q,e1,_⟩:=e; exact ⟨_,_,_,e1⟩,e⟩) (fun v w e=>e)
theorem st_48 {db pb:Addr}:zc6 db pb 48 :=
  zjk 48 45 47 (⟨#[99,97,110,99,101,108]⟩:ByteArray) (by decide) (by decide) (by decide) (by kernel_rfl) (by kernel_rfl) (by kernel_rfl) (by kernel_rfl) (by kernel_rfl) (by kernel_rfl) (by kernel_rfl) (by decide)
theorem st_49 {db pb:Addr}:zc6 db pb 49 :=
  zv7 49 46 218 (by decide) (by decide) (by kernel_rfl) (by kernel_rfl) (fun v w e=>e)
theorem st_50 {db pb:Addr}:zc6 db pb 50 :=
  zh4 50 47 (.func 203) (.tmp 46) (by decide) (by decide) (.inr (by kernel_rfl)) (by kernel_rfl) fun b0 w0 hB l a w h hm=>by
    have e2:zgV pb 218 (a.eval (.tmp 46)):=zg0 h (j:=49) (by decide) (by kernel_rfl) (dep (by decide) hm (by kernel_rfl))
    refine ⟨203,#[],rfl,?_⟩
    rw [e2]
    exact zID _ rfl w
theorem st_51 {db pb:Addr}:zc6 db pb 51 :=
  zd4 (n:=2) (b:=false) (R:=(znE pb)) 51 48 47 50 (by decide) (by decide) (by decide) (by kernel_rfl) (by kernel_rfl) (by kernel_rfl) (by kernel_rfl) (fun v w e=>⟨by obtain ⟨p,e1,_⟩:=e; exact ⟨_,_,_,e1⟩,e⟩) (fun v w e=>e)
theorem st_52 {db pb:Addr}:zc6 db pb 52 :=
  zjk 52 48 51 (⟨#[115,104,111,119]⟩:ByteArray) (by decide) (by decide) (by decide) (by kernel_rfl) (by kernel_rfl) (by kernel_rfl) (by kernel_rfl) (by kernel_rfl) (by kernel_rfl) (by kernel_rfl) (by decide)
theorem st_53 {db pb:Addr}:zc6 db pb 53 :=
  znh 53 49 (by decide) (by decide) (by kernel_rfl) (by kernel_rfl) (fun v w e=>e)
theorem st_54 {db pb:Addr}:zc6 db pb 54 :=
  zni 54 50 49 53 222 (by decide) (by decide) (by decide) (by kernel_rfl) (by kernel_rfl) (by kernel_rfl) (by kernel_rfl) (fun v w e=>e) (fun v w e=>e)
theorem st_55 {db pb:Addr}:zc6 db pb 55 :=
  zd4 (n:=2) (b:=true) (R:=(fun f _=>zbr db 222 f)) 55 51 50 54 (by decide) (by decide) (by decide) (by kernel_rfl) (by kernel_rfl) (by kernel_rfl) (by kernel_rfl) (fun v w e=>⟨⟨_,_,_,e⟩,e⟩) (fun v w e=>e)
theorem st_56 {db pb:Addr}:zc6 db pb 56 :=
  zjk 56 51 55 (⟨#[102,114,101,101]⟩:ByteArray) (by decide) (by decide) (by decide) (by kernel_rfl) (by kernel_rfl) (by kernel_rfl) (by kernel_rfl) (by kernel_rfl) (by kernel_rfl) (by kernel_rfl) (by decide)
theorem zHI {db pb:Addr}:∀ i,i<59->zc6 db pb i
  |0,_ => zLa
  |1,_ => st_1
  |2,_ => st_2
  |3,_ => st_3
  |4,_ => st_4
  |5,_ => st_5
  |6,_ => st_6
  |7,_ => st_7
  |8,_ => st_8
  |9,_ => st_9
  |10,_ => st_10
  |11,_ => st_11
  |12,_ => st_12
  |13,_ => st_13
  |14,_ => st_14
  |15,_ => st_15
  |16,_ => st_16
  |17,_ => st_17
  |18,_ => st_18
  |19,_ => st_19
  |20,_ => st_20
  |21,_ => st_21
  |22,_ => st_22
  |23,_ => st_23
  |24,_ => st_24
  |25,_ => st_25
  |26,_ => st_26
  |27,_ => st_27
  |28,_ => st_28
  |29,_ => st_29
  |30,_ => st_30
  |31,_ => st_31
  |32,_ => st_32
  |33,_ => st_33
  |34,_ => st_34
  |35,_ => st_35
  |36,_ => st_36
  |37,_ => st_37
  |38,_ => st_38
  |39,_ => st_39
  |40,_ => st_40
  |41,_ => st_41
  |42,_ => st_42
  |43,_ => st_43
  |44,_ => st_44
  |45,_ => st_45
  |46,_ => st_46
  |47,_ => st_47
  |48,_ => st_48
  |49,_ => st_49
  |50,_ => st_50
  |51,_ => st_51
  |52,_ => st_52
  |53,_ => st_53
  |54,_ => st_54
  |55,_ => st_55
  |56,_ => st_56
  |57,_ => st_57
  |58,_ => st_58
  |n+59,h => by omega
theorem zHd:((List.range 59).all fun i=>(zcD i).after.all fun e=>decide (e.on<i))=true:=by kernel_rfl
theorem zA9 {l:Array Bool} (hl:l.size=zeK.size) (hr:Region.ready .any zeK l=[]):∀ i,i<59->l.getD i false=true:=by
  intro i
  induction i using Nat.strongRecOn with
  |_ i ih =>
    intro hi
    rcases hq:l.getD i true with _|_
    · have:i∈Region.ready .any zeK l:=mem_ready.2 ⟨hq,zcD i,zj0 hi,fun e he _=>by
        have h1:=zHd
        rw [List.all_eq_true] at h1
        have h2:=h1 i (List.mem_range.2 hi)
        rw [Array.all_eq_true_iff_forall_mem] at h2
        have h3:=of_decide_eq_true (h2 e he)
        exact ih _ h3 (by omega)⟩
      rw [hr] at this; cases this
    · have hs:i<l.size:=by rw [hl,zoE]; exact hi
      simp [hs] at hq ⊢; exact hq
def Tab (db pb:Addr) (w:World) (k:ByteArray) (g:Option Value):Prop :=
  match KL.find? (fun x=>decide (x.1=k)) with
  |some (_,_,b) => ∃ v,g=some v/\PV db pb b v w
  |none => g=none
theorem tab_of {db pb:Addr} {l:Array Bool} {w:World} {k:ByteArray} {g:Option Value} (hl:∀ i,i<59->l.getD i false=true) (h:MAt (PV db pb) KL l w k g):Tab db pb w k g:=by
  unfold MAt at h; unfold Tab
  split at h
  · rename_i y j b he
    try rw [he]
    have hj:j<59:=by
      have hm:=List.mem_of_find?_eq_some he
      have:∀ x∈KL,x.2.1<59:=by decide
      exact this _ hm
    rw [if_pos (hl j hj)] at h
    exact h
  · rename_i he
    first|exact h|(rw [he]; exact h)
theorem end151 {db pb:Addr} {b0:Act} {w0:World} {l:Array Bool} {a:Act} {w:World} (h:zFA db pb b0 w0 l a w) (hr:Region.ready .any zeK l=[]) :
    Ext w0 w/\a.tmps.size=b0.tmps.size/\a.defers=b0.defers/\∃ mb M,a.tmps.getD 2 undef=.map (some mb)/\w0.heap.size<=mb/\zdb Value.string w mb M/\∀ k,Tab db pb w k (ziD M k):=by
  have hl:=zA9 h.lsz hr
  obtain ⟨mb,M,e1,e2,e3,e4⟩:=h.mp (hl 0 (by decide))
  exact ⟨h.ext,h.size,h.defers,mb,M,by rw [(h.tie (58,2) (by decide) (hl 58 (by decide))).2]; exact e1,e2,e3,fun k=>tab_of hl (e4 k)⟩
theorem zHH {db pb:Addr} {b0:Act} {w0:World} (hB:zLm db pb b0 w0):zFA db pb b0 w0 (Array.replicate 59 false) b0 w0:=by
  have hf:∀ i,(Array.replicate 59 false).getD i false=false:=fun i=>by
    simp [Array.getElem?_replicate]; split<;>rfl
  refine ⟨by rw [zoE]; simp,rfl,rfl,fun d hd=>rfl,Ext.refl w0,fun i o d _ hl=>?_,fun hl=>?_,fun _ x _=>hf _,fun x _ hl=>?_⟩
  · rw [hf] at hl; cases hl
  · rw [hf] at hl; cases hl
  · rw [hf] at hl; cases hl
theorem any151 {db pb:Addr} {b0:Act} {w0:World} {Q:Exit->Act->World->Prop} (hB:zLm db pb b0 w0)
    (hQ:∀ a w,Ext w0 w->a.tmps.size=b0.tmps.size->a.defers=b0.defers->(∃ mb M,a.tmps.getD 2 undef=.map (some mb)/\w0.heap.size<=mb/\zdb Value.string w mb M/\∀ k,Tab db pb w k (ziD M k))->Q .normal a w) :
    wpAny Tryz.prog .any zeK Q 59 (Array.replicate 59 false) b0 w0:=by
  refine zE5 (I:=zFA db pb b0 w0) (fun l a w i h hm=>?_) (fun l a w h hr=>?_) 59 _ b0 w0 (by decide) (zHH hB)
  · have hi:i<59:=by
      obtain ⟨_,o,ho,_⟩:=mem_ready.1 hm
      have:=(Array.getElem?_eq_some_iff.1 ho).1
      rwa [zoE] at this
    exact zHI i hi Q b0 w0 hB l a w h hm
  · obtain ⟨h1,h2,h3,h4⟩:=end151 h hr
    exact hQ a w h1 h2 h3 h4
theorem zJr (w:World) (v:Value):(w.alloc (.cells #[v] 115)).cell? ⟨w.heap.size,0,none⟩=some v:=by
  have h:(w.alloc (.cells #[v] 115)).heap[w.heap.size]?=some (.cells #[v] 115):=heap_alloc_new w _
  unfold World.cell?
  simp only [h]; rfl
theorem zCi (w:World) (o:Obj):(w.alloc o).heap.size=w.heap.size+1:=Array.size_push ..
theorem zAO (db:Addr) (w:World):FnP Tryz.prog 151 #[.pointer (some db)] w fun v w'=>Ext w w'/\∃ pb mb M,v=.map (some mb)/\w'.cell? pb=some (.pointer (some db))/\zdb Value.string w' mb M/\∀ k,Tab db pb w' k (ziD M k):=by
  refine ⟨fun args w=>Tryz.call151 args w,?_⟩
  go_enter Tryz.func151,Tryz.ntmps151
  go_wp2
  rename_i K hK
  refine wp_region_any (by kernel_rfl) ?_
  change wpAny _ _ zeK _ 59 (Array.replicate 59 false) _ _
  have hx0:Ext w { (w.alloc (.cells #[.pointer (some db)] 115)) with drawn:=(w.alloc (.cells #[.pointer (some db)] 115)).drawn+1 } :=
    Below.drew (Below.alloc (Below.refl _ _) (Nat.le_refl _) _)
  have hc0:(w.alloc (.cells #[.pointer (some db)] 115)).cell? ⟨w.heap.size,0,none⟩=some (.pointer (some db)):=zJr w _
  have hz0:(w.alloc (.cells #[.pointer (some db)] 115)).heap.size=w.heap.size+1:=zCi w _
  refine any151 (db:=db) (pb:=⟨w.heap.size,0,none⟩) ⟨by simp,by rfl,by rfl,by rfl,hc0,by show w.heap.size<(w.alloc (.cells #[.pointer (some db)] 115)).heap.size; omega⟩ fun a w1 hx hs hd ht=>?_
  obtain ⟨mb,M,e1,e2,e3,e4⟩:=ht
  refine hK a w1 ?_
  obtain ⟨tm,df⟩:=a
  have hd':df=[]:=hd
  subst hd'
  refine wp_ret ?_
  refine bodyPost_ret (results_tmp (t:=2) rfl _ _ _) rfl ?_
  refine ⟨_,rfl,hx0.trans hx,⟨w.heap.size,0,none⟩,mb,M,e1,?_,e3,e4⟩
  refine (hx.cell ?_).trans hc0
  show w.heap.size<(w.alloc (.cells #[.pointer (some db)] 115)).heap.size
  omega
end Go.Proofs.YtcceeahmcecbnaaGreatDoor
namespace Go.Proofs.YtcceeahmcecbnaaGreatDoor
open Go.RowKit Go.Extern.Stop Go.Stop Go.Extern
theorem as_nil (t:Value) (w:World):Calls Tryz.prog 104 #[.nilIface,t] w fun e w'=>e=.returned (.bool false)/\w'=w:=by
  go_enter Tryz.func104,Tryz.ntmps104
  go_wp2
  go_ret
  exact ⟨rfl,rfl⟩
namespace As
theorem valueOf196 (t:Addr) (w:World):(ReflectliteValue.unpack (.iface 196 (.pointer (some t)))).run Tryz.prog w
    = .ok (.agg #[.pointer (some ⟨11,196,none⟩),.pointer (some ⟨w.heap.size,0,none⟩),.int .u64 150]) (w.alloc (.cells #[.pointer (some t)] 196)):=by kernel_rfl
theorem type196 (a : Addr) (w : World) : (ReflectliteValue.methodAny (ReflectliteValue.valueError "reflectlite.Value.Type" 0) (fun t _ _ _ => ReflectliteType.toType t) #[.agg #[.pointer (some ⟨11, 196, none⟩), .pointer (some a), .int .u64 150]]).run Tryz.prog w
    = .ok (.iface 329 (.agg #[.pointer (some ⟨11,196,none⟩)])) w:=by kernel_rfl
theorem methodKind (h : Value) (w : World) : (Go.method 539 329 (.agg #[h]) "Kind").run Tryz.prog w = .ok (302, h) w := by kernel_rfl
theorem kind196 (w:World):((ReflectliteType.abiMethod fun t=>Functor.map (fun a:Nat=>Value.int IntKind.u8 (a:Int)) (Rtype.kind t)) #[.pointer (some ⟨11,196,none⟩)]).run Tryz.prog w=.ok (.int .u8 22) w:=by kernel_rfl
theorem kind24 (w:World):((ReflectliteType.abiMethod fun t=>Functor.map (fun a:Nat=>Value.int IntKind.u8 (a:Int)) (Rtype.kind t)) #[.pointer (some ⟨11,24,none⟩)]).run Tryz.prog w=.ok (.int .u8 2) w:=by kernel_rfl
theorem rlm (z:Sem Value) (f:TypeId->Addr->Nat->Nat->Sem Value) (v:Value) :
    ReflectliteValue.method z f #[v]=(do match <- ReflectliteValue.parts v with|none=>z|some (t,a,fl)=>f t a fl (fl%32)):=rfl
theorem zzW (a:Addr) (w:World):(ReflectliteValue.parts (.agg #[.pointer (some ⟨11,196,none⟩),.pointer (some a),.int .u64 150])).run Tryz.prog w=.ok (some (196,a,150)) w:=by kernel_rfl
theorem zAq:Tryz.prog.underlying 196=some (.pointer 24):=by kernel_rfl
theorem zLg:Tryz.prog.underlying 24=some (.int .i64):=by kernel_rfl
theorem isNil196 (a p:Addr) (W:World) (ha:W.cell? a=some (.pointer (some p))) :
    (ReflectliteValue.method (ReflectliteValue.valueError "reflectlite.Value.IsNil" 0) ReflectliteValue.isNil #[.agg #[.pointer (some ⟨11, 196, none⟩), .pointer (some a), .int .u64 150]]).run Tryz.prog W = .ok (.bool false) W := by
  rw [rlm]
  simp only [Sem.run_bind,zzW,Result.andThen]
  simp [ReflectliteValue.isNil,loadVar,isAgg,underlying,zAq,ha,Result.andThen]
theorem methodElem (h : Value) (w : World) : (Go.method 539 329 (.agg #[h]) "Elem").run Tryz.prog w = .ok (329, .agg #[h]) w := by kernel_rfl
theorem methodImplements (h : Value) (w : World) : (Go.method 539 329 (.agg #[h]) "Implements").run Tryz.prog w = .ok (330, .agg #[h]) w := by kernel_rfl
theorem methodAssignableTo (h : Value) (w : World) : (Go.method 539 329 (.agg #[h]) "AssignableTo").run Tryz.prog w = .ok (327, .agg #[h]) w := by kernel_rfl
theorem elem196 (w:World):(ReflectliteType.method ReflectliteType.elem #[.agg #[.pointer (some ⟨11,196,none⟩)]]).run Tryz.prog w=.ok (.iface 329 (.agg #[.pointer (some ⟨11,24,none⟩)])) w:=by kernel_rfl
theorem implements24 (w : World) : (ReflectliteType.relation "Implements" ReflectliteType.implements_ #[.agg #[.pointer (some ⟨11, 24, none⟩)], .iface 329 (.agg #[.pointer (some ⟨11, 175, none⟩)])]).run Tryz.prog w = .ok (.bool true) w := by kernel_rfl
theorem typeOf24 (v:Value) (w:World):(ReflectliteType.typeOf #[.iface 24 v]).run Tryz.prog w=.ok (.iface 329 (.agg #[.pointer (some ⟨11,24,none⟩)])) w:=by kernel_rfl
theorem typeOf257 (v:Value) (w:World):(ReflectliteType.typeOf #[.iface 257 v]).run Tryz.prog w=.ok (.iface 329 (.agg #[.pointer (some ⟨11,257,none⟩)])) w:=by kernel_rfl
theorem assignable24 (w : World) : (ReflectliteType.relation "AssignableTo" ReflectliteType.assignableTo #[.agg #[.pointer (some ⟨11, 24, none⟩)], .iface 329 (.agg #[.pointer (some ⟨11, 24, none⟩)])]).run Tryz.prog w = .ok (.bool true) w := by kernel_rfl
theorem assignable257 (w : World) : (ReflectliteType.relation "AssignableTo" ReflectliteType.assignableTo #[.agg #[.pointer (some ⟨11, 257, none⟩)], .iface 329 (.agg #[.pointer (some ⟨11, 24, none⟩)])]).run Tryz.prog w = .ok (.bool false) w := by kernel_rfl
theorem valueOf24 (n:Int) (w:World):(ReflectliteValue.unpack (.iface 24 (.int .i64 n))).run Tryz.prog w
    = .ok (.agg #[.pointer (some ⟨11,24,none⟩),.pointer (some ⟨w.heap.size,0,none⟩),.int .u64 130]) (w.alloc (.cells #[.int .i64 n] 24)):=by kernel_rfl
theorem zCT (w:World):(Rtype.elem? 196).run Tryz.prog w=.ok (some 24) w:=by kernel_rfl
theorem zvd (p:Addr) (w:World):(ReflectliteValue.mk 24 p ReflectliteValue.flagAddr).run Tryz.prog w=.ok (.agg #[.pointer (some ⟨11,24,none⟩),.pointer (some p),.int .u64 386]) w:=by kernel_rfl
theorem elemV196 (a p:Addr) (W:World) (ha:W.cell? a=some (.pointer (some p))) :
    (ReflectliteValue.method (ReflectliteValue.valueError "reflectlite.Value.Elem" 0) ReflectliteValue.elem #[.agg #[.pointer (some ⟨11, 196, none⟩), .pointer (some a), .int .u64 150]]).run Tryz.prog W
      = .ok (.agg #[.pointer (some ⟨11,24,none⟩),.pointer (some p),.int .u64 386]) W:=by
  rw [rlm]
  simp only [Sem.run_bind,zzW,Result.andThen]
  simp [ReflectliteValue.elem,loadVar,isAgg,underlying,zAq,ha,Result.andThen,zCT,zvd]
theorem rls (v x:Value):ReflectliteValue.set #[v,x]=(do
    let (some (dst,a,fl),some (src,b,_)):=(<- ReflectliteValue.parts v,<- ReflectliteValue.parts x)
      | unsupported (.noEntry "extern/(internal/reflectlite.Value).Set.zeroValue")
    if fl / ReflectliteValue.flagAddr % 2 == 0 then unsupported (.noEntry "extern/(internal/reflectlite.Value).Set.unaddressable")
    let val <- loadVar src b
    if <- Rtype.directlyAssignable dst src then storeVar dst a val
    else if <- Rtype.implements dst src then
      if (<- Rtype.kind src)==20 then
        match val with
        | .nilIface => unsupported (.noEntry "extern/reflectlite: a nil value of one interface type handed on as a value of another")
        |_ => storeVar dst a val
      else storeVar dst a (.iface src val)
    else panicString ("reflectlite.Set: value of type " ++ (<- Rtype.spelt src) ++ " is not assignable to type " ++ (<- Rtype.spelt dst))
    pure (.tuple #[])):=rfl
theorem zHf (a:Addr) (w:World):(ReflectliteValue.parts (.agg #[.pointer (some ⟨11,24,none⟩),.pointer (some a),.int .u64 386])).run Tryz.prog w=.ok (some (24,a,386)) w:=by kernel_rfl
theorem zKQ (a:Addr) (w:World):(ReflectliteValue.parts (.agg #[.pointer (some ⟨11,24,none⟩),.pointer (some a),.int .u64 130])).run Tryz.prog w=.ok (some (24,a,130)) w:=by kernel_rfl
theorem zGe (w:World):(Rtype.directlyAssignable 24 24).run Tryz.prog w=.ok true w:=by kernel_rfl
theorem set24 (ta b:Addr) (n:Int) (old:Value) (W:World) (hb:W.cell? b=some (.int .i64 n)) (ht:W.cell? ta=some old) (hf:W.frozen? ta=false) :
    (ReflectliteValue.set #[.agg #[.pointer (some ⟨11,24,none⟩),.pointer (some ta),.int .u64 386],.agg #[.pointer (some ⟨11,24,none⟩),.pointer (some b),.int .u64 130]]).run Tryz.prog W
      = .ok (.tuple #[]) (W.setCell ta (.int .i64 n)):=by
  rw [rls]
  simp only [Sem.run_bind,zHf,zKQ,Result.andThen]
  simp [ReflectliteValue.flagAddr,loadVar,isAgg,underlying,zLg,hb,Result.andThen,zGe,storeVar,Value.cells,storeCells,Addr.add]
  rw [run_store Tryz.prog W ta _ _ (by rfl)]
  simp [ht,hf]
theorem noAs (v:Value) (xT:TypeId) (w:World):(Instr.typeAssert (.iface 257 v) xT 334 true).run Tryz.prog w=.ok (.tuple #[.nilIface,.bool false]) w:=run_typeAssert_lacksB Tryz.underlying334 (by kernel_rfl) (by kernel_rfl) v xT w
theorem hasUnwrap (v:Value) (xT:TypeId) (w:World):(Instr.typeAssert (.iface 257 v) xT 337 true).run Tryz.prog w=.ok (.tuple #[.iface 257 v,.bool true]) w:=run_typeAssert_hasB Tryz.underlying337 (by kernel_rfl) v xT w
theorem methodUnwrap (a b : Value) (w : World) : (Go.method 539 257 (.agg #[a, b]) "Unwrap").run Tryz.prog w = .ok (318, .agg #[a, b]) w := by kernel_rfl
end As
set_option maxRecDepth 100000 in
set_option maxHeartbeats 4000000 in
theorem as_hit (n:Int) (t:Addr) (old:Value) (w:World) (hg:w.cell? ⟨0,0,none⟩=some (.iface 329 (.agg #[.pointer (some ⟨11,175,none⟩)]))) (ht0:w.cell? t=some old) (hf0:w.frozen? t=false) :
    Calls Tryz.prog 104 #[.iface 24 (.int .i64 n),.iface 196 (.pointer (some t))] w fun ev w'=>ev=.returned (.bool true)/\∃ o1 o2 o3 o4:Obj,w'=((((w.alloc o1).alloc o2).alloc o3).alloc o4).setCell t (.int .i64 n):=by
  have h152:=@run_callFunc_extern Tryz.prog 152 _ (fun args=>ReflectliteValue.unpack (args.getD 0 (.tuple #[]))) Tryz.func152 (by kernel_rfl) (by kernel_rfl) (by kernel_rfl) (by kernel_rfl)
  have h153 := @run_callFunc_extern Tryz.prog 153 _ (ReflectliteValue.methodAny (ReflectliteValue.valueError "reflectlite.Value.Type" 0) (fun t _ _ _ => ReflectliteType.toType t)) Tryz.func153 (by kernel_rfl) (by kernel_rfl) (by kernel_rfl) (by kernel_rfl)
  have h154 := @run_callFunc_extern Tryz.prog 154 _ (ReflectliteValue.method (ReflectliteValue.valueError "reflectlite.Value.IsNil" 0) ReflectliteValue.isNil) Tryz.func154 (by kernel_rfl) (by kernel_rfl) (by kernel_rfl) (by kernel_rfl)
  have h302:=@run_callFunc_extern Tryz.prog 302 _ (ReflectliteType.abiMethod fun t=>do pure (.int .u8 (<- Rtype.kind t))) Tryz.func302 (by kernel_rfl) (by kernel_rfl) (by kernel_rfl) (by kernel_rfl)
  have h329:=@run_callFunc_extern Tryz.prog 329 _ (ReflectliteType.method ReflectliteType.elem) Tryz.func329 (by kernel_rfl) (by kernel_rfl) (by kernel_rfl) (by kernel_rfl)
  have h330 := @run_callFunc_extern Tryz.prog 330 _ (ReflectliteType.relation "Implements" ReflectliteType.implements_) Tryz.func330 (by kernel_rfl) (by kernel_rfl) (by kernel_rfl) (by kernel_rfl)
  have h223:=@run_callFunc_extern Tryz.prog 223 _ ReflectliteType.typeOf Tryz.func223 (by kernel_rfl) (by kernel_rfl) (by kernel_rfl) (by kernel_rfl)
  have h327 := @run_callFunc_extern Tryz.prog 327 _ (ReflectliteType.relation "AssignableTo" ReflectliteType.assignableTo) Tryz.func327 (by kernel_rfl) (by kernel_rfl) (by kernel_rfl) (by kernel_rfl)
  have h224 := @run_callFunc_extern Tryz.prog 224 _ (ReflectliteValue.method (ReflectliteValue.valueError "reflectlite.Value.Elem" 0) ReflectliteValue.elem) Tryz.func224 (by kernel_rfl) (by kernel_rfl) (by kernel_rfl) (by kernel_rfl)
  have h225:=@run_callFunc_extern Tryz.prog 225 _ ReflectliteValue.set Tryz.func225 (by kernel_rfl) (by kernel_rfl) (by kernel_rfl) (by kernel_rfl)
  have tO:=As.typeOf24
  have mA:=As.methodAssignableTo
  have a24:=As.assignable24
  have v24:=As.valueOf24
  have f6:=As.valueOf196
  have f7:=As.type196
  have mK:=As.methodKind
  have mE:=As.methodElem
  have mI:=As.methodImplements
  have k196:=As.kind196
  have k24:=As.kind24
  have e196:=As.elem196
  have i24:=As.implements24
  have n8:=As.isNil196 ⟨w.heap.size,0,none⟩ t ((w.alloc (.cells #[.pointer (some t)] 196)).alloc (.cells #[.pointer (some ⟨11,196,none⟩),.pointer (some ⟨w.heap.size,0,none⟩),.int .u64 150] 261)) (by simp)
  have hlt:0<w.heap.size:=by
    rcases Nat.eq_zero_or_pos w.heap.size with h0|h
    · simp [World.cell?,h0] at hg
    · exact h
  have hg2:((w.alloc (.cells #[.pointer (some t)] 196)).alloc (.cells #[.pointer (some ⟨11,196,none⟩),.pointer (some ⟨w.heap.size,0,none⟩),.int .u64 150] 261)).cell? ⟨0,0,none⟩=some (.iface 329 (.agg #[.pointer (some ⟨11,175,none⟩)])):=by
    rw [World.cell?_alloc_lt _ _ ⟨0,0,none⟩ (by simp),World.cell?_alloc_lt _ _ ⟨0,0,none⟩ hlt]; exact hg
  have htl:t.block<w.heap.size:=by
    rcases Nat.lt_or_ge t.block w.heap.size with h|h
    · exact h
    · simp [World.cell?,Array.getElem?_eq_none h] at ht0
  have el:=As.elemV196 ⟨w.heap.size,0,none⟩ t (((w.alloc (.cells #[.pointer (some t)] 196)).alloc (.cells #[.pointer (some ⟨11,196,none⟩),.pointer (some ⟨w.heap.size,0,none⟩),.int .u64 150] 261)).alloc (.cells #[.pointer (some ⟨11,196,none⟩),.pointer (some ⟨w.heap.size,0,none⟩),.int .u64 150] 261)) (by rw [World.cell?_alloc_lt _ _ ⟨w.heap.size,0,none⟩ (by simp; omega)]; simp)
  have st:=As.set24 t ⟨w.heap.size+1+1+1,0,none⟩ n old ((((w.alloc (.cells #[.pointer (some t)] 196)).alloc (.cells #[.pointer (some ⟨11,196,none⟩),.pointer (some ⟨w.heap.size,0,none⟩),.int .u64 150] 261)).alloc (.cells #[.pointer (some ⟨11,196,none⟩),.pointer (some ⟨w.heap.size,0,none⟩),.int .u64 150] 261)).alloc (.cells #[.int .i64 n] 24))
    (by rw [World.cell?_alloc_at _ _ _ _ (by simp)]; rfl)
    (by rw [World.cell?_alloc_lt _ _ t (by simp; omega),World.cell?_alloc_lt _ _ t (by simp; omega),World.cell?_alloc_lt _ _ t (by simp; omega),World.cell?_alloc_lt _ _ t htl]; exact ht0)
    (by rw [World.frozen?_alloc_old _ _ t (by simp; omega),World.frozen?_alloc_old _ _ t (by simp; omega),World.frozen?_alloc_old _ _ t (by simp; omega),World.frozen?_alloc_old _ _ t (Nat.ne_of_lt htl)]; exact hf0)
  go_enter Tryz.func104,Tryz.ntmps104
  go_wp2
  refine wp_loop_rounds 1 ?_
  rw [rounds_succ]
  go_wp2
  go_ret
  exact ⟨rfl,_,_,_,_,rfl⟩
set_option maxRecDepth 100000 in
set_option maxHeartbeats 4000000 in
theorem zJu (k n:Int) (t:Addr) (old:Value) (w:World) (hg:w.cell? ⟨0,0,none⟩=some (.iface 329 (.agg #[.pointer (some ⟨11,175,none⟩)]))) (ht0:w.cell? t=some old) (hf0:w.frozen? t=false) :
    Calls Tryz.prog 104 #[.iface 257 (.agg #[.int .i64 k,.iface 24 (.int .i64 n)]),.iface 196 (.pointer (some t))] w fun ev w'=>ev=.returned (.bool true)/\∃ o1 o2 o3 o4 o5:Obj,w'=(((((w.alloc o1).alloc o2).alloc o3).alloc o4).alloc o5).setCell t (.int .i64 n):=by
  have h152:=@run_callFunc_extern Tryz.prog 152 _ (fun args=>ReflectliteValue.unpack (args.getD 0 (.tuple #[]))) Tryz.func152 (by kernel_rfl) (by kernel_rfl) (by kernel_rfl) (by kernel_rfl)
  have h153 := @run_callFunc_extern Tryz.prog 153 _ (ReflectliteValue.methodAny (ReflectliteValue.valueError "reflectlite.Value.Type" 0) (fun t _ _ _ => ReflectliteType.toType t)) Tryz.func153 (by kernel_rfl) (by kernel_rfl) (by kernel_rfl) (by kernel_rfl)
  have h154 := @run_callFunc_extern Tryz.prog 154 _ (ReflectliteValue.method (ReflectliteValue.valueError "reflectlite.Value.IsNil" 0) ReflectliteValue.isNil) Tryz.func154 (by kernel_rfl) (by kernel_rfl) (by kernel_rfl) (by kernel_rfl)
  have h302:=@run_callFunc_extern Tryz.prog 302 _ (ReflectliteType.abiMethod fun t=>do pure (.int .u8 (<- Rtype.kind t))) Tryz.func302 (by kernel_rfl) (by kernel_rfl) (by kernel_rfl) (by kernel_rfl)
  have h329:=@run_callFunc_extern Tryz.prog 329 _ (ReflectliteType.method ReflectliteType.elem) Tryz.func329 (by kernel_rfl) (by kernel_rfl) (by kernel_rfl) (by kernel_rfl)
  have h330 := @run_callFunc_extern Tryz.prog 330 _ (ReflectliteType.relation "Implements" ReflectliteType.implements_) Tryz.func330 (by kernel_rfl) (by kernel_rfl) (by kernel_rfl) (by kernel_rfl)
  have h223:=@run_callFunc_extern Tryz.prog 223 _ ReflectliteType.typeOf Tryz.func223 (by kernel_rfl) (by kernel_rfl) (by kernel_rfl) (by kernel_rfl)
  have h327 := @run_callFunc_extern Tryz.prog 327 _ (ReflectliteType.relation "AssignableTo" ReflectliteType.assignableTo) Tryz.func327 (by kernel_rfl) (by kernel_rfl) (by kernel_rfl) (by kernel_rfl)
  have h224 := @run_callFunc_extern Tryz.prog 224 _ (ReflectliteValue.method (ReflectliteValue.valueError "reflectlite.Value.Elem" 0) ReflectliteValue.elem) Tryz.func224 (by kernel_rfl) (by kernel_rfl) (by kernel_rfl) (by kernel_rfl)
  have h225:=@run_callFunc_extern Tryz.prog 225 _ ReflectliteValue.set Tryz.func225 (by kernel_rfl) (by kernel_rfl) (by kernel_rfl) (by kernel_rfl)
  have tO:=As.typeOf24
  have tS:=As.typeOf257
  have aS:=As.assignable257
  have mU:=As.methodUnwrap
  have noAs:=As.noAs
  have hasU:=As.hasUnwrap
  have mA:=As.methodAssignableTo
  have a24:=As.assignable24
  have v24:=As.valueOf24
  have f6:=As.valueOf196
  have f7:=As.type196
  have mK:=As.methodKind
  have mE:=As.methodElem
  have mI:=As.methodImplements
  have k196:=As.kind196
  have k24:=As.kind24
  have e196:=As.elem196
  have i24:=As.implements24
  have n8:=As.isNil196 ⟨w.heap.size,0,none⟩ t ((w.alloc (.cells #[.pointer (some t)] 196)).alloc (.cells #[.pointer (some ⟨11,196,none⟩),.pointer (some ⟨w.heap.size,0,none⟩),.int .u64 150] 261)) (by simp)
  have hlt:0<w.heap.size:=by
    rcases Nat.eq_zero_or_pos w.heap.size with h0|h
    · simp [World.cell?,h0] at hg
    · exact h
  have hg2:((w.alloc (.cells #[.pointer (some t)] 196)).alloc (.cells #[.pointer (some ⟨11,196,none⟩),.pointer (some ⟨w.heap.size,0,none⟩),.int .u64 150] 261)).cell? ⟨0,0,none⟩=some (.iface 329 (.agg #[.pointer (some ⟨11,175,none⟩)])):=by
    rw [World.cell?_alloc_lt _ _ ⟨0,0,none⟩ (by simp),World.cell?_alloc_lt _ _ ⟨0,0,none⟩ hlt]; exact hg
  have htl:t.block<w.heap.size:=by
    rcases Nat.lt_or_ge t.block w.heap.size with h|h
    · exact h
    · simp [World.cell?,Array.getElem?_eq_none h] at ht0
  have el:=As.elemV196 ⟨w.heap.size,0,none⟩ t ((((w.alloc (.cells #[.pointer (some t)] 196)).alloc (.cells #[.pointer (some ⟨11,196,none⟩),.pointer (some ⟨w.heap.size,0,none⟩),.int .u64 150] 261)).alloc (.cells #[.pointer (some ⟨11,196,none⟩),.pointer (some ⟨w.heap.size,0,none⟩),.int .u64 150] 261)).alloc (.cells #[.int .i64 k,.iface 24 (.int .i64 n)] 257)) (by rw [World.cell?_alloc_lt _ _ ⟨w.heap.size,0,none⟩ (by simp; omega),World.cell?_alloc_lt _ _ ⟨w.heap.size,0,none⟩ (by simp; omega)]; simp)
  have st:=As.set24 t ⟨w.heap.size+1+1+1+1,0,none⟩ n old (((((w.alloc (.cells #[.pointer (some t)] 196)).alloc (.cells #[.pointer (some ⟨11,196,none⟩),.pointer (some ⟨w.heap.size,0,none⟩),.int .u64 150] 261)).alloc (.cells #[.pointer (some ⟨11,196,none⟩),.pointer (some ⟨w.heap.size,0,none⟩),.int .u64 150] 261)).alloc (.cells #[.int .i64 k,.iface 24 (.int .i64 n)] 257)).alloc (.cells #[.int .i64 n] 24))
    (by rw [World.cell?_alloc_at _ _ _ _ (by simp)]; rfl)
    (by rw [World.cell?_alloc_lt _ _ t (by simp; omega),World.cell?_alloc_lt _ _ t (by simp; omega),World.cell?_alloc_lt _ _ t (by simp; omega),World.cell?_alloc_lt _ _ t (by simp; omega),World.cell?_alloc_lt _ _ t htl]; exact ht0)
    (by rw [World.frozen?_alloc_old _ _ t (by simp; omega),World.frozen?_alloc_old _ _ t (by simp; omega),World.frozen?_alloc_old _ _ t (by simp; omega),World.frozen?_alloc_old _ _ t (by simp; omega),World.frozen?_alloc_old _ _ t (Nat.ne_of_lt htl)]; exact hf0)
  go_enter Tryz.func104,Tryz.ntmps104
  go_wp2
  refine wp_loop_rounds 2 ?_
  rw [rounds_succ]
  go_wp2
  rw [rounds_succ]
  go_wp2
  go_ret
  exact ⟨rfl,_,_,_,_,_,rfl⟩
end Go.Proofs.YtcceeahmcecbnaaGreatDoor
namespace Go.Proofs.YtcceeahmcecbnaaGreatDoor
open Go.Sx Go.RowKit
abbrev zch:FuncId:=12
abbrev zax:FuncId:=13
abbrev zas:FuncId:=19
abbrev zey:FuncId:=49
abbrev zgo:FuncId:=103
abbrev zoV:FuncId:=104
abbrev za5:FuncId:=151
def zqn (x:Option Addr) (Z:ByteArray) (aa:World) (K:Value->World->Prop):Prop:=
 ∀ M,Ext aa M->FnP Tryz.prog zbk #[(.string Z),(.string (⟨#[32]⟩:ByteArray))] M fun X B=>Ext M B/\∃ t y N,X=(.slice t y N)/\∃ (w:Option Addr->Bool->World->Prop),(t≠none/\(0:Int)<=0/\(0:Int)<(y:Int)/\(∀ q,Ext B q->FnP Tryz.prog za5 #[(.pointer x)] q fun O c=>Ext q c/\∃ f,O=f/\∃ g,cell c (pIdx t 0 1) 0=some (.string g)/\(∀ a,Ext c a->Run Tryz.prog (.lookup 254 f (.string g) true) a fun z m=>Ext a m/\∃ C D E F,z=(.tuple #[(.agg #[(.int .i64 C),(.bool D),E]),(.bool F)])/\∀ G,Ext m G->New G 252 [(.int .i64 0),(.bool false),.nilFunc] fun I P=>zao P I [(.int .i64 C),(.bool D),E] [] fun n=>w I F n)/\∀ a,Ext c a->New a 252 [(.int .i64 0),(.bool false),.nilFunc] fun J m=>∀ b,Ext m b->Run Tryz.prog (.lookup 254 f (.string g) true) b fun r e=>Ext b e/\∃ h i j k,r=(.tuple #[(.agg #[(.int .i64 h),(.bool i),j]),(.bool k)])/\zao e J [(.int .i64 h),(.bool i),j] [] fun n=>w J k n)/\(∃ u,cell B (pIdx t 0 1) 0=some (.string u)/\(∀ c,Ext B c->FnP Tryz.prog za5 #[(.pointer x)] c fun R o=>Ext c o/\∃ g,R=g/\(∀ a,Ext o a->Run Tryz.prog (.lookup 254 g (.string u) true) a fun z m=>Ext a m/\∃ C D E F,z=(.tuple #[(.agg #[(.int .i64 C),(.bool D),E]),(.bool F)])/\∀ G,Ext m G->New G 252 [(.int .i64 0),(.bool false),.nilFunc] fun I P=>zao P I [(.int .i64 C),(.bool D),E] [] fun n=>w I F n)/\∀ a,Ext o a->New a 252 [(.int .i64 0),(.bool false),.nilFunc] fun J m=>∀ b,Ext m b->Run Tryz.prog (.lookup 254 g (.string u) true) b fun r e=>Ext b e/\∃ h i j k,r=(.tuple #[(.agg #[(.int .i64 h),(.bool i),j]),(.bool k)])/\zao e J [(.int .i64 h),(.bool i),j] [] fun n=>w J k n)/\∀ c,Ext B c->New c 252 [(.int .i64 0),(.bool false),.nilFunc] fun W o=>∀ d,Ext o d->FnP Tryz.prog za5 #[(.pointer x)] d fun A a=>Ext d a/\∃ l,A=l/\∀ b,Ext a b->Run Tryz.prog (.lookup 254 l (.string u) true) b fun r e=>Ext b e/\∃ h i j k,r=(.tuple #[(.agg #[(.int .i64 h),(.bool i),j]),(.bool k)])/\zao e W [(.int .i64 h),(.bool i),j] [] fun n=>w W k n)/\∀ q,Ext B q->New q 252 [(.int .i64 0),(.bool false),.nilFunc] fun L c=>(∀ o,Ext c o->FnP Tryz.prog za5 #[(.pointer x)] o fun Y d=>Ext o d/\∃ T,Y=T/\∃ l,cell d (pIdx t 0 1) 0=some (.string l)/\∀ b,Ext d b->Run Tryz.prog (.lookup 254 T (.string l) true) b fun r e=>Ext b e/\∃ h i j k,r=(.tuple #[(.agg #[(.int .i64 h),(.bool i),j]),(.bool k)])/\zao e L [(.int .i64 h),(.bool i),j] [] fun n=>w L k n)/\∃ f,cell c (pIdx t 0 1) 0=some (.string f)/\∀ d,Ext c d->FnP Tryz.prog za5 #[(.pointer x)] d fun A a=>Ext d a/\∃ l,A=l/\∀ b,Ext a b->Run Tryz.prog (.lookup 254 l (.string f) true) b fun r e=>Ext b e/\∃ h i j k,r=(.tuple #[(.agg #[(.int .i64 h),(.bool i),j]),(.bool k)])/\zao e L [(.int .i64 h),(.bool i),j] [] fun n=>w L k n)/\∀ (s:Option Addr) (S:Bool) (p:World),w s S p->(((S=false)->∀ q,Ext p q->Run Tryz.prog (.makeInterface 24 (.int .i64 1)) q fun O c=>Ext q c/\∃ f,O=f/\∀ d,Ext c d->K (.tuple #[(.string (⟨#[]⟩:ByteArray)),f]) d))/\((S=true)->s≠none/\∃ u,cell p (pAdd s 0) 0=some (.int .i64 u)/\((((y:Int)≠u)->∀ c,Ext p c->Run Tryz.prog (.makeInterface 24 (.int .i64 3)) c fun R o=>Ext c o/\∃ g,R=g/\Value.oneCell' g=true/\∀ a,Ext o a->Run Tryz.prog (.makeInterface 257 (.agg #[(.int .i64 (y:Int)),g])) a fun z m=>Ext a m/\∃ v,z=v/\∀ e,Ext m e->K (.tuple #[(.string (⟨#[]⟩:ByteArray)),v]) e))/\(((y:Int)=u)->s≠none/\∃ H,cell p (pAdd s 1) 0=some (.bool H)/\((H=true)->x≠none)/\((H=true)->x≠none)/\(((H=true)->∃ f,cell p (pAdd x 1) 0=some (.pointer f)/\(((f=none)->∀ d,Ext p d->Run Tryz.prog (.makeInterface 24 (.int .i64 9)) d fun A a=>Ext d a/\∃ l,A=l/\∀ b,Ext a b->K (.tuple #[(.string (⟨#[]⟩:ByteArray)),l]) b))/\((f≠none)->s≠none/\∃ g,cell p (pAdd s 2) 0=some g/\∀ a,Ext p a->zI0 Tryz.prog g [(.slice t y N)] a fun z m=>∃ v U,z=(.tuple #[(.string v),U])/\∀ V,Ext m V->K (.tuple #[(.string v),U]) V)))/\((H=false)->s≠none/\∃ f,cell p (pAdd s 2) 0=some f/\∀ d,Ext p d->zI0 Tryz.prog f [(.slice t y N)] d fun A a=>∃ l v,A=(.tuple #[(.string l),v])/\∀ e,Ext a e->K (.tuple #[(.string l),v]) e)))
theorem zpO (a:Option Addr) (b:ByteArray) (c:World) (d:Value->World->Prop) (h:zqn a b c d):FnP Tryz.prog zgo #[(.pointer a),(.string b)] c d:=
 zab (Eq.mp (by kernel_rfl:_=Runs Tryz.prog d ({N:=52,pub:=[7],muts:=[2000000,1000000,21,29,22,24,81]}:Cfg) Tryz.f103 (Tryz.f103.body.getD .skip) [.sc (.ptr a),.sc (.str b)] c) h) Tryz.func103 (by kernel_rfl) (fun a w=>Tryz.call103 a w) (by kernel_rfl) (by kernel_rfl) rfl rfl
def zqm (y:Option Addr) (z:ByteArray) (A:World) (q:Value->World->Prop):Prop:=
 ∀ f,Ext A f->FnP Tryz.prog zgo #[(.pointer y),(.string z)] f fun r s=>∃ g h,r=(.tuple #[(.string g),h])/\∀ i,Ext s i->New i 24 [(.int .i64 0)] fun o t=>∀ b,Ext t b->Run Tryz.prog (.makeInterface 196 (.pointer o)) b fun u p=>Ext b p/\∃ j,u=j/\∀ k,Ext p k->FnP Tryz.prog zoV #[h,j] k fun v a=>∃ c,v=(.bool c)/\(((c=true)->∃ l,cell a o 0=some (.int .i64 l)/\∀ d,Ext a d->FnP Tryz.prog zbw #[(.int .i64 l)] d fun w x=>Ext d x/\∃ e,w=(.string e)/\zdl (⟨#[101,114,114,32]⟩:ByteArray) e/\∀ m,Ext a m->q (.string ((⟨#[101,114,114,32]⟩:ByteArray)++e)) m))/\((c=false)->∀ n,Ext a n->q (.string g) n)
theorem zpN (a:Option Addr) (b:ByteArray) (c:World) (d:Value->World->Prop) (h:zqm a b c d):FnP Tryz.prog zey #[(.pointer a),(.string b)] c d:=
 zab (Eq.mp (by kernel_rfl:_=Runs Tryz.prog d ({N:=21,pub:=[7],muts:=[21,29,22,24,81,103,104]}:Cfg) Tryz.f49 (Tryz.f49.body.getD .skip) [.sc (.ptr a),.sc (.str b)] c) h) Tryz.func49 (by kernel_rfl) (fun a w=>Tryz.call49 a w) (by kernel_rfl) (by kernel_rfl) rfl rfl
def zwn (z:Option Addr) (d H:Nat) (A:World) (B:Value->World->Prop):Prop:=
 ((100<(d:Int))->∀ b,Ext A b->B (.tuple #[(.slice none 0 0),(.int .i64 2)]) b)/\(((d:Int)<=100)->∀ b,Ext A b->FnP Tryz.prog zjx #[] b fun C v=>Ext b v/\∃ m,C=(.pointer m)/\∃ (l:Option Addr->Nat->Nat->Int->World->Prop) (y:Option Addr->Nat->Nat->Int->World->Nat),l none 0 0 0 v/\∀ (e:Option Addr) (f:Nat) (g:Nat) (a:Int) (c:World),l e f g a c->(((a<(d:Int))->z≠none/\(0:Int)<=a/\(a:Int)<(d:Int)/\∃ n,cell c (pIdx z a 1) 0=some (.string n)/\∀ o,Ext c o->FnP Tryz.prog zey #[(.pointer m),(.string n)] o fun D E=>∃ p,D=(.string p)/\∀ h,Ext E h->Run Tryz.prog (.buildSlice 22 1 [(0,(.string p))]) h fun F w=>Ext h w/\∃ q r s,F=(.slice q r s)/\∀ t,Ext w t->Run Tryz.prog (.append #[22,22] 22 [(.slice e f g),(.slice q r s)]) t fun G x=>∃ i j k,G=(.slice i j k)/\InR .i64 (a+1)/\(l i j k (a+1) x/\y i j k (a+1) x<y e f g a c)))/\(((d:Int)<=a)->∀ u,Ext c u->B (.tuple #[(.slice e f g),(.int .i64 0)]) u))
theorem zvw (a:Option Addr) (b c:Nat) (d:World) (e:Value->World->Prop) (h:zwn a b c d e):FnP Tryz.prog zch #[(.slice a b c)] d e:=
 zab (Eq.mp (by kernel_rfl:_=Runs Tryz.prog e ({N:=26,muts:=[21,29,22,24,81,49]}:Cfg) Tryz.f12 (Tryz.f12.body.getD .skip) [.sc (.slc a b c)] d) h) Tryz.func12 (by kernel_rfl) (fun a w=>Tryz.call12 a w) (by kernel_rfl) (by kernel_rfl) rfl rfl
def zeM  (w:World) (Q:Value->World->Prop):Prop :=
  ∀ w0,Ext w w0 ->
  Run Tryz.prog (.buildSlice 22 6 [(0,(.string (⟨#[104,111,115,116,32,97,32,99,112,117,61,50,32,45]⟩:ByteArray))),(1,(.string (⟨#[111,112,101,110]⟩:ByteArray))),(2,(.string (⟨#[115,117,98,109,105,116,32,97,110,110,32,48,32,99,112,117,61,49,32,45,32,99,112,117,62,61,49]⟩:ByteArray))),(3,(.string (⟨#[112,108,97,110]⟩:ByteArray))),(4,(.string (⟨#[103,111,111,100,32,49]⟩:ByteArray))),(5,(.string (⟨#[115,104,111,119,32,49]⟩:ByteArray)))]) w0 fun v1 w1 =>
   Ext w0 w1 /\
   ∃ t2:Option Addr,∃ tl3:Nat,∃ tc4:Nat,v1=(.slice t2 tl3 tc4) /\
   ∀ w5,Ext w1 w5 ->
   FnP Tryz.prog zch #[(.slice t2 tl3 tc4)] w5 fun v6 w6 =>
    ∃ t7:Option Addr,∃ tl8:Nat,∃ tc9:Nat,∃ t10:Int,v6=(.tuple #[(.slice t7 tl8 tc9),(.int .i64 t10)]) /\
    (((t10=0) ->
     ∀ w11,Ext w6 w11 ->
     Run Tryz.prog (.buildSlice 22 6 [(0,(.string (⟨#[111,107]⟩:ByteArray))),(1,(.string (⟨#[111,107]⟩:ByteArray))),(2,(.string (⟨#[49]⟩:ByteArray))),(3,(.string (⟨#[49,64,97]⟩:ByteArray))),(4,(.string (⟨#[111,107]⟩:ByteArray))),(5,(.string (⟨#[100,111,110,101]⟩:ByteArray)))]) w11 fun v12 w12 =>
      Ext w11 w12 /\
      ∃ t13:Option Addr,∃ tl14:Nat,∃ tc15:Nat,v12=(.slice t13 tl14 tc15) /\
      ∀ w16,Ext w12 w16 ->
      FnP Tryz.prog zax #[(.slice t7 tl8 tc9),(.slice t13 tl14 tc15)] w16 fun v17 w17 =>
       Ext w16 w17 /\
       ∃ t18:Bool,v17=(.bool t18) /\
       ∀ w19,Ext w12 w19 ->
       Q (.bool t18) w19)) /\
    ((t10≠0) ->
     ∀ w11,Ext w6 w11 ->
     Q (.bool false) w11)
theorem zje  (w:World) (Q:Value->World->Prop) (h:zeM  w Q):FnP Tryz.prog zas #[] w Q:=by
  have e_:zeM  w Q=Runs Tryz.prog Q ({ N:=15,wrap:=[],pub:=[],muts:=[21,29,22,24,81,12],joins:=[] }:Cfg) Tryz.f19 (Tryz.f19.body.getD .skip) [] w:=by kernel_rfl
  rw [e_] at h
  exact zab h Tryz.func19 (by kernel_rfl) (fun args w=>Tryz.call19 args w) (by kernel_rfl) (by kernel_rfl) rfl rfl
def ze2 (m:Option Addr) (c p:Nat) (n:Option Addr) (g q:Nat) (o:World) (h:Value->World->Prop):Prop:=
 (((c:Int)≠(g:Int))->∀ i,Ext o i->h (.bool false) i)/\(((c:Int)=(g:Int))->∃ (f:Int->World->Prop) (l:Int->World->Nat),f 0 o/\∀ (a:Int) (b:World),f a b->(((a<(c:Int))->m≠none/\(0:Int)<=a/\(a:Int)<(c:Int)/\∃ d,cell b (pIdx m a 1) 0=some (.string d)/\n≠none/\(0:Int)<=a/\(a:Int)<(g:Int)/\∃ e,cell b (pIdx n a 1) 0=some (.string e)/\((d≠e)->∀ j,Ext b j->h (.bool false) j)/\((d=e)->InR .i64 (a+1)/\(f (a+1) b/\l (a+1) b<l a b))))/\(((c:Int)<=a)->∀ k,Ext b k->h (.bool true) k))
theorem zeZ (a:Option Addr) (b c:Nat) (d:Option Addr) (e f:Nat) (g:World) (i:Value->World->Prop) (h:ze2 a b c d e f g i):FnP Tryz.prog zax #[(.slice a b c),(.slice d e f)] g i:=
 zab (Eq.mp (by kernel_rfl:_=Runs Tryz.prog i ({N:=26}:Cfg) Tryz.f13 (Tryz.f13.body.getD .skip) [.sc (.slc a b c),.sc (.slc d e f)] g) h) Tryz.func13 (by kernel_rfl) (fun a w=>Tryz.call13 a w) (by kernel_rfl) (by kernel_rfl) rfl rfl
end Go.Proofs.YtcceeahmcecbnaaGreatDoor
