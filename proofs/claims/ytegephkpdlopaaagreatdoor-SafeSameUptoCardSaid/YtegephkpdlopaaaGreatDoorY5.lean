/- The framework, the program's texts and what is shown of them: part 5. -/
import Derived.Test.YtegephkpdlopaaaGreatDoorY4
import Derived.Test.YtegephkpdlopaaaGreatDoorRows
import Derived.Shelf.Strings.OnBuilder
import Derived.Shelf.Strconv.Itoa0
import Derived.Shelf.Strconv.Itoa1
import Derived.Shelf.LaysM
import Derived.Shelf.Strconv.Itoa2
import Derived.Shelf.Strconv.Itoa3
import Derived.Shelf.Strconv.Itoa4
import Derived.Shelf.LaysC
import Derived.Shelf.Strconv.AtoiAll
import Derived.Shelf.Strconv.ParseIntPublic10
import Derived.Shelf.Strings.Cut
import Derived.Shelf.Strings.Split
import Derived.Shelf.Strings.IndexAny
import Derived.Shelf.Strings.IndexAnyAll
import Derived.Test.YtegephkpdlopaaaGreatDoorProg
import Derived.Lib.ParseIntBCases
import Derived.Lib.IndexLaws
import Derived.Lib.Join
import Derived.Lib.Split
import Derived.Lib.CountLaws
import Derived.Lib.CutLaws
import Derived.Laws.Slices
import Derived.Lib.ItoaLen
set_option linter.unusedVariables false
set_option linter.unusedSimpArgs false
set_option maxRecDepth 100000
namespace Go.Proofs.YtegephkpdlopaaaGreatDoor
open Go.Sx Go.RowKit
abbrev F_farm_New:FuncId:=19
abbrev F_farm_Farm_Hosts:FuncId:=20
abbrev F_farm_Farm_Now:FuncId:=27
abbrev F_farm_Farm_Jobs:FuncId:=29
abbrev F_farm_Farm_Tick:FuncId:=32
abbrev F_slices_ContainsFunc_api_Host_api_Host:FuncId:=39
abbrev F_farm_New_1:FuncId:=40
abbrev F_farm_ownHosts:FuncId:=42
abbrev F_farm_Farm_at:FuncId:=56
abbrev F_farm_Farm_ready:FuncId:=58
abbrev F_farm_Farm_leave:FuncId:=63
abbrev F_farm_Farm_lost:FuncId:=65
abbrev F_slices_IndexFunc_api_Host_api_Host:FuncId:=69
abbrev F_farm_Farm_ready_1:FuncId:=81
abbrev F_farm_Farm_lost_1:FuncId:=95
def wp_farm_Farm_at (f:Option Addr) (id:Int) (w:World) (Q:Value->World->Prop):Prop :=
 ((1 <= id) ->
 f ≠ none) /\
 ((1 <= id) ->
 f ≠ none) /\
 ((id < 1) ->
 ∀ w0,Ext w w0 ->
 Q (.pointer none) w0) /\
 ((1 <= id) ->
 ∃ t0:Option Addr,∃ tl1:Nat,∃ tc2:Nat,cell w (pAdd f 6) 0 = some (.slice t0 tl1 tc2) /\
 (((tl1:Int) < id) ->
 ∀ w3,Ext w w3 ->
 Q (.pointer none) w3) /\
 ((id <= (tl1:Int)) ->
 f ≠ none /\
 f ≠ none /\
 ∃ t3:Option Addr,∃ tl4:Nat,∃ tc5:Nat,cell w (pAdd f 6) 0 = some (.slice t3 tl4 tc5) /\
 InR .i64 (id - 1) /\
 t3 ≠ none /\
 (0:Int) <= (id - 1) /\
 ((id - 1):Int) < (tl4:Int) /\
 ∀ w6,Ext w w6 ->
 Q (.pointer (pIdx t3 (id - 1) 16)) w6))
theorem ok_farm_Farm_at (f:Option Addr) (id:Int) (w:World) (Q:Value->World->Prop) (h:wp_farm_Farm_at f id w Q):FnP Tryz.prog F_farm_Farm_at #[(.pointer f),(.int .i64 id)] w Q:=by
  have e_:wp_farm_Farm_at f id w Q = Runs Tryz.prog Q ({ N:=23,wrap:=[],pub:=[],muts:=[],joins:=[] }:Cfg) Tryz.f56 (Tryz.f56.body.getD .skip) [.sc (.ptr f),.sc (.int .i64 id)] w:=by kernel_rfl
  rw [e_] at h
  exact runs_fn h Tryz.func56 (by kernel_rfl) (fun args w=>Tryz.call56 args w) (by kernel_rfl) (by kernel_rfl) rfl rfl
def wp_farm_Farm_Tick (f:Option Addr) (n:Int) (w:World) (Q:Value->World->Prop):Prop :=
 ((((0 <= n)/\(n <= 1000000000)) ->
 f ≠ none)) /\
 ((((0 <= n)/\(n <= 1000000000)) ->
 f ≠ none)) /\
 (((n < 0)\/(1000000000 < n)) ->
 ∀ w0,Ext w w0 ->
 Q (.int .i64 4) w0) /\
 (((0 <= n)/\(n <= 1000000000)) ->
 ∃ t0:Int,cell w (pAdd f 5) 0 = some (.int .i64 t0) /\
 InR .i64 (t0 + n) /\
 ((1099511627776 < (t0 + n)) ->
 ∀ w1,Ext w w1 ->
 Q (.int .i64 4) w1) /\
 (((t0 + n) <= 1099511627776) ->
 f ≠ none /\
 f ≠ none /\
 ∃ t1:Int,cell w (pAdd f 5) 0 = some (.int .i64 t1) /\
 InR .i64 (t1 + n) /\
 f ≠ none /\
 f ≠ none /\
 Store w (pAdd f 5) [(.int .i64 (t1 + n))] [] fun w2 =>
 ∀ w3,Ext w2 w3 ->
 Q (.int .i64 0) w3))
theorem ok_farm_Farm_Tick (f:Option Addr) (n:Int) (w:World) (Q:Value->World->Prop) (h:wp_farm_Farm_Tick f n w Q):FnP Tryz.prog F_farm_Farm_Tick #[(.pointer f),(.int .i64 n)] w Q:=by
  have e_:wp_farm_Farm_Tick f n w Q = Runs Tryz.prog Q ({ N:=28,wrap:=[],pub:=[],muts:=[],joins:=[] }:Cfg) Tryz.f32 (Tryz.f32.body.getD .skip) [.sc (.ptr f),.sc (.int .i64 n)] w:=by kernel_rfl
  rw [e_] at h
  exact runs_fn h Tryz.func32 (by kernel_rfl) (fun args w=>Tryz.call32 args w) (by kernel_rfl) (by kernel_rfl) rfl rfl
def wp_farm_Farm_Now (f:Option Addr) (w:World) (Q:Value->World->Prop):Prop :=
 f ≠ none /\
 f ≠ none /\
 ∃ t0:Int,cell w (pAdd f 5) 0 = some (.int .i64 t0) /\
 ∀ w1,Ext w w1 ->
 Q (.int .i64 t0) w1
theorem ok_farm_Farm_Now (f:Option Addr) (w:World) (Q:Value->World->Prop) (h:wp_farm_Farm_Now f w Q):FnP Tryz.prog F_farm_Farm_Now #[(.pointer f)] w Q:=by
  have e_:wp_farm_Farm_Now f w Q = Runs Tryz.prog Q ({ N:=7,wrap:=[],pub:=[],muts:=[],joins:=[] }:Cfg) Tryz.f27 (Tryz.f27.body.getD .skip) [.sc (.ptr f)] w:=by kernel_rfl
  rw [e_] at h
  exact runs_fn h Tryz.func27 (by kernel_rfl) (fun args w=>Tryz.call27 args w) (by kernel_rfl) (by kernel_rfl) rfl rfl
def wp_farm_Farm_ready (f:Option Addr) (s:Option Addr) (w:World) (Q:Value->World->Prop):Prop :=
 ∀ w0,Ext w w0 ->
 New w0 44 [(.pointer f)] fun p1 w1 =>
 s ≠ none /\
 s ≠ none /\
 ∃ t2:Int,cell w1 (pAdd s 11) 0 = some (.int .i64 t2) /\
 ((t2 = 1) ->
 s ≠ none) /\
 ((t2 = 1) ->
 s ≠ none) /\
 (((t2 = 1) ->
 ∃ t3:Int,cell w1 (pAdd s 14) 0 = some (.int .i64 t3) /\
 ∃ t4:Option Addr,cell w1 p1 0 = some (.pointer t4) /\
 t4 ≠ none /\
 t4 ≠ none /\
 ∃ t5:Int,cell w1 (pAdd t4 5) 0 = some (.int .i64 t5) /\
 ((t3 <= t5) ->
 s ≠ none) /\
 ((t3 <= t5) ->
 s ≠ none) /\
 ((t3 <= t5) ->
 (pAdd s 0) ≠ none) /\
 (((t3 <= t5) ->
 ∃ t6:Option Addr,∃ tl7:Nat,∃ tc8:Nat,cell w1 (pAdd (pAdd s 0) 10) 0 = some (.slice t6 tl7 tc8) /\
 ∀ w9,Ext w1 w9 ->
 FnP Tryz.prog F_slices_ContainsFunc_int_int #[(.slice t6 tl7 tc8),(.func (.func 81) #[] #[(.pointer p1)])] w9 fun v10 w10 =>
 Ext w9 w10 /\
 ∃ t11:Bool,v10 = (.bool t11) /\
 ∀ w12,Ext w1 w12 ->
 Q (.bool (!t11)) w12)) /\
 ((t5 < t3) ->
 ∀ w6,Ext w1 w6 ->
 Q (.bool false) w6))) /\
 ((t2 ≠ 1) ->
 ∀ w3,Ext w1 w3 ->
 Q (.bool false) w3)
theorem ok_farm_Farm_ready (f:Option Addr) (s:Option Addr) (w:World) (Q:Value->World->Prop) (h:wp_farm_Farm_ready f s w Q):FnP Tryz.prog F_farm_Farm_ready #[(.pointer f),(.pointer s)] w Q:=by
  have e_:wp_farm_Farm_ready f s w Q = Runs Tryz.prog Q ({ N:=31,wrap:=[],pub:=[2],muts:=[],joins:=[] }:Cfg) Tryz.f58 (Tryz.f58.body.getD .skip) [.sc (.ptr f),.sc (.ptr s)] w:=by kernel_rfl
  rw [e_] at h
  exact runs_fn h Tryz.func58 (by kernel_rfl) (fun args w=>Tryz.call58 args w) (by kernel_rfl) (by kernel_rfl) rfl rfl
def wp_farm_Farm_ready_1 (id:Int) (c0:Option Addr) (w:World) (Q:Value->World->Prop):Prop :=
 ∃ t0:Option Addr,cell w c0 0 = some (.pointer t0) /\
 ∀ w1,Ext w w1 ->
 FnP Tryz.prog F_farm_Farm_at #[(.pointer t0),(.int .i64 id)] w1 fun v2 w2 =>
 Ext w1 w2 /\
 ∃ t3:Option Addr,v2 = (.pointer t3) /\
 t3 ≠ none /\
 t3 ≠ none /\
 ∃ t4:Int,cell w2 (pAdd t3 11) 0 = some (.int .i64 t4) /\
 ∀ w5,Ext w2 w5 ->
 Q (.bool (decide (t4 ≠ 3))) w5
theorem ok_farm_Farm_ready_1 (id:Int) (c0:Option Addr) (w:World) (Q:Value->World->Prop) (h:wp_farm_Farm_ready_1 id c0 w Q):FnP Tryz.prog F_farm_Farm_ready_1 #[(.int .i64 id),(.pointer c0)] w Q:=by
  have e_:wp_farm_Farm_ready_1 id c0 w Q = Runs Tryz.prog Q ({ N:=11,wrap:=[],pub:=[],muts:=[],joins:=[] }:Cfg) Tryz.f81 (Tryz.f81.body.getD .skip) [.sc (.int .i64 id),.sc (.ptr c0)] w:=by kernel_rfl
  rw [e_] at h
  exact runs_fn h Tryz.func81 (by kernel_rfl) (fun args w=>Tryz.call81 args w) (by kernel_rfl) (by kernel_rfl) rfl rfl
def wp_farm_Farm_lost (f:Option Addr) (w:World) (Q:Value->World->Prop):Prop :=
 ∀ w0,Ext w w0 ->
 New w0 44 [(.pointer f)] fun p1 w1 =>
 ∃ t2:Option Addr,cell w1 p1 0 = some (.pointer t2) /\
 t2 ≠ none /\
 t2 ≠ none /\
 ∃ t3:Option Addr,∃ tl4:Nat,∃ tc5:Nat,cell w1 (pAdd t2 6) 0 = some (.slice t3 tl4 tc5) /\
 ∃ (I6:Int->World->Prop) (M6:Int->World->Nat),I6 0 w1 /\
 ∀ (k7:Int) (w8:World),I6 k7 w8 ->
 (((k7 < (tl4:Int)) ->
 ∃ t9:Option Addr,cell w8 p1 0 = some (.pointer t9) /\
 t9 ≠ none /\
 t9 ≠ none /\
 ∃ t10:Option Addr,∃ tl11:Nat,∃ tc12:Nat,cell w8 (pAdd t9 6) 0 = some (.slice t10 tl11 tc12) /\
 t10 ≠ none /\
 (0:Int) <= k7 /\
 (k7:Int) < (tl11:Int) /\
 (pIdx t10 k7 16) ≠ none /\
 (pIdx t10 k7 16) ≠ none /\
 ∃ t13:Int,cell w8 (pAdd (pIdx t10 k7 16) 11) 0 = some (.int .i64 t13) /\
 ((t13 = 1) ->
 (pIdx t10 k7 16) ≠ none) /\
 ((t13 = 1) ->
 (pIdx t10 k7 16) ≠ none) /\
 ((t13 = 1) ->
 (pAdd (pIdx t10 k7 16) 0) ≠ none) /\
 (((t13 = 1) ->
 ∃ t14:Option Addr,∃ tl15:Nat,∃ tc16:Nat,cell w8 (pAdd (pAdd (pIdx t10 k7 16) 0) 10) 0 = some (.slice t14 tl15 tc16) /\
 ∀ w17,Ext w8 w17 ->
 FnP Tryz.prog F_slices_ContainsFunc_int_int #[(.slice t14 tl15 tc16),(.func (.func 95) #[] #[(.pointer p1)])] w17 fun v18 w18 =>
 Ext w17 w18 /\
 ∃ t19:Bool,v18 = (.bool t19) /\
 (((t19 = true) ->
 (pIdx t10 k7 16) ≠ none /\
 (pIdx t10 k7 16) ≠ none /\
 Store w8 (pAdd (pIdx t10 k7 16) 11) [(.int .i64 5)] [] fun w20 =>
 InR .i64 (k7 + 1) /\
 (I6 (k7 + 1) w20/\M6 (k7 + 1) w20 < M6 k7 w8))) /\
 ((t19 = false) ->
 InR .i64 (k7 + 1) /\
 (I6 (k7 + 1) w8/\M6 (k7 + 1) w8 < M6 k7 w8)))) /\
 ((t13 ≠ 1) ->
 InR .i64 (k7 + 1) /\
 (I6 (k7 + 1) w8/\M6 (k7 + 1) w8 < M6 k7 w8)))) /\
 (((tl4:Int) <= k7) ->
 ∀ w9,Ext w8 w9 ->
 Q (.tuple #[]) w9)
theorem ok_farm_Farm_lost (f:Option Addr) (w:World) (Q:Value->World->Prop) (h:wp_farm_Farm_lost f w Q):FnP Tryz.prog F_farm_Farm_lost #[(.pointer f)] w Q:=by
  have e_:wp_farm_Farm_lost f w Q = Runs Tryz.prog Q ({ N:=36,wrap:=[],pub:=[1],muts:=[],joins:=[] }:Cfg) Tryz.f65 (Tryz.f65.body.getD .skip) [.sc (.ptr f)] w:=by kernel_rfl
  rw [e_] at h
  exact runs_fn h Tryz.func65 (by kernel_rfl) (fun args w=>Tryz.call65 args w) (by kernel_rfl) (by kernel_rfl) rfl rfl
def wp_farm_Farm_lost_1 (id:Int) (c0:Option Addr) (w:World) (Q:Value->World->Prop):Prop :=
 ∃ t0:Option Addr,cell w c0 0 = some (.pointer t0) /\
 ∀ w1,Ext w w1 ->
 FnP Tryz.prog F_farm_Farm_at #[(.pointer t0),(.int .i64 id)] w1 fun v2 w2 =>
 Ext w1 w2 /\
 ∃ t3:Option Addr,v2 = (.pointer t3) /\
 t3 ≠ none /\
 t3 ≠ none /\
 ∃ t4:Int,cell w2 (pAdd t3 11) 0 = some (.int .i64 t4) /\
 ∀ w5,Ext w2 w5 ->
 Q (.bool ((decide (t4 = 4)) || (decide (t4 = 5)))) w5
theorem ok_farm_Farm_lost_1 (id:Int) (c0:Option Addr) (w:World) (Q:Value->World->Prop) (h:wp_farm_Farm_lost_1 id c0 w Q):FnP Tryz.prog F_farm_Farm_lost_1 #[(.int .i64 id),(.pointer c0)] w Q:=by
  have e_:wp_farm_Farm_lost_1 id c0 w Q = Runs Tryz.prog Q ({ N:=17,wrap:=[],pub:=[],muts:=[],joins:=[] }:Cfg) Tryz.f95 (Tryz.f95.body.getD .skip) [.sc (.int .i64 id),.sc (.ptr c0)] w:=by kernel_rfl
  rw [e_] at h
  exact runs_fn h Tryz.func95 (by kernel_rfl) (fun args w=>Tryz.call95 args w) (by kernel_rfl) (by kernel_rfl) rfl rfl
def wp_farm_Farm_leave (f:Option Addr) (s:Option Addr) (w:World) (Q:Value->World->Prop):Prop :=
 f ≠ none /\
 f ≠ none /\
 ∃ t0:Option Addr,∃ tl1:Nat,∃ tc2:Nat,cell w (pAdd f 0) 0 = some (.slice t0 tl1 tc2) /\
 s ≠ none /\
 s ≠ none /\
 ∃ t3:Int,cell w (pAdd s 12) 0 = some (.int .i64 t3) /\
 s ≠ none /\
 s ≠ none /\
 (pAdd s 0) ≠ none /\
 (pAdd (pAdd s 0) 2) ≠ none /\
 ∃ t4:Int,cell w (pAdd (pAdd s 0) 2) 0 = some (.int .i64 t4) /\
 ∃ t5:Int,cell w (pAdd (pAdd s 0) 2) 1 = some (.int .i64 t5) /\
 ∃ t6:Int,cell w (pAdd (pAdd s 0) 2) 2 = some (.int .i64 t6) /\
 ∀ w7,Ext w w7 ->
 FnP Tryz.prog F_host_Give #[(.slice t0 tl1 tc2),(.int .i64 t3),(.agg #[(.int .i64 t4),(.int .i64 t5),(.int .i64 t6)])] w7 fun v8 w8 =>
 Ext w7 w8 /\
 ∃ t9:Option Addr,∃ tl10:Nat,∃ tc11:Nat,∃ t12:Int,v8 = (.tuple #[(.slice t9 tl10 tc11),(.int .i64 t12)]) /\
 f ≠ none /\
 f ≠ none /\
 Store w8 (pAdd f 0) [(.slice t9 tl10 tc11)] [] fun w13 =>
 s ≠ none /\
 s ≠ none /\
 Store w13 (pAdd s 12) [(.int .i64 0)] [] fun w14 =>
 s ≠ none /\
 s ≠ none /\
 Store w14 (pAdd s 13) [(.int .i64 0)] [] fun w15 =>
 ∀ w16,Ext w15 w16 ->
 Q (.tuple #[]) w16
theorem ok_farm_Farm_leave (f:Option Addr) (s:Option Addr) (w:World) (Q:Value->World->Prop) (h:wp_farm_Farm_leave f s w Q):FnP Tryz.prog F_farm_Farm_leave #[(.pointer f),(.pointer s)] w Q:=by
  have e_:wp_farm_Farm_leave f s w Q = Runs Tryz.prog Q ({ N:=30,wrap:=[],pub:=[],muts:=[],joins:=[] }:Cfg) Tryz.f63 (Tryz.f63.body.getD .skip) [.sc (.ptr f),.sc (.ptr s)] w:=by kernel_rfl
  rw [e_] at h
  exact runs_fn h Tryz.func63 (by kernel_rfl) (fun args w=>Tryz.call63 args w) (by kernel_rfl) (by kernel_rfl) rfl rfl
def wp_farm_Farm_Jobs (f:Option Addr) (w:World) (Q:Value->World->Prop):Prop :=
 f ≠ none /\
 f ≠ none /\
 ∃ t0:Option Addr,∃ tl1:Nat,∃ tc2:Nat,cell w (pAdd f 6) 0 = some (.slice t0 tl1 tc2) /\
 ∃ (I3:Option Addr->Nat->Nat->Int->World->Prop) (M3:Option Addr->Nat->Nat->Int->World->Nat),I3 none 0 0 0 w /\
 ∀ (out4:Option Addr) (outl4:Nat) (outc4:Nat) (k5:Int) (w6:World),I3 out4 outl4 outc4 k5 w6 ->
 (((k5 < (tl1:Int)) ->
 t0 ≠ none /\
 (0:Int) <= k5 /\
 (k5:Int) < (tl1:Int) /\
 (pIdx t0 k5 16) ≠ none /\
 ∃ t7:ByteArray,cell w6 (pIdx t0 k5 16) 0 = some (.string t7) /\
 ∃ t8:Int,cell w6 (pIdx t0 k5 16) 1 = some (.int .i64 t8) /\
 ∃ t9:Int,cell w6 (pIdx t0 k5 16) 2 = some (.int .i64 t9) /\
 ∃ t10:Int,cell w6 (pIdx t0 k5 16) 3 = some (.int .i64 t10) /\
 ∃ t11:Int,cell w6 (pIdx t0 k5 16) 4 = some (.int .i64 t11) /\
 ∃ t12:Int,cell w6 (pIdx t0 k5 16) 5 = some (.int .i64 t12) /\
 ∃ t13:ByteArray,cell w6 (pIdx t0 k5 16) 6 = some (.string t13) /\
 ∃ t14:ByteArray,cell w6 (pIdx t0 k5 16) 7 = some (.string t14) /\
 ∃ t15:Int,cell w6 (pIdx t0 k5 16) 8 = some (.int .i64 t15) /\
 ∃ t16:Option Addr,∃ tl17:Nat,∃ tc18:Nat,cell w6 (pIdx t0 k5 16) 9 = some (.slice t16 tl17 tc18) /\
 ∃ t19:Option Addr,∃ tl20:Nat,∃ tc21:Nat,cell w6 (pIdx t0 k5 16) 10 = some (.slice t19 tl20 tc21) /\
 ∃ t22:Int,cell w6 (pIdx t0 k5 16) 11 = some (.int .i64 t22) /\
 ∃ t23:Int,cell w6 (pIdx t0 k5 16) 12 = some (.int .i64 t23) /\
 ∃ t24:Int,cell w6 (pIdx t0 k5 16) 13 = some (.int .i64 t24) /\
 ∃ t25:Int,cell w6 (pIdx t0 k5 16) 14 = some (.int .i64 t25) /\
 ∃ t26:Int,cell w6 (pIdx t0 k5 16) 15 = some (.int .i64 t26) /\
 ∀ b27:Nat,w6.heap.size <= b27->∀ w28,ExtB [] [b27] w6 w28 ->
 FnP Tryz.prog F_farm_own #[(.agg #[(.string t7),(.int .i64 t8),(.int .i64 t9),(.int .i64 t10),(.int .i64 t11),(.int .i64 t12),(.string t13),(.string t14),(.int .i64 t15),(.slice t16 tl17 tc18),(.slice t19 tl20 tc21),(.int .i64 t22),(.int .i64 t23),(.int .i64 t24),(.int .i64 t25),(.int .i64 t26)])] w28 fun v29 w29 =>
 Ext w28 w29 /\
 ∃ t_030:ByteArray,∃ t_131:Int,∃ t_232:Int,∃ t_333:Int,∃ t_434:Int,∃ t_535:Int,∃ t_636:ByteArray,∃ t_737:ByteArray,∃ t_838:Int,∃ t_939:Option Addr,∃ t_9l40:Nat,∃ t_9c41:Nat,∃ t_1042:Option Addr,∃ t_10l43:Nat,∃ t_10c44:Nat,∃ t_1145:Int,∃ t_1246:Int,∃ t_1347:Int,∃ t_1448:Int,∃ t_1549:Int,v29 = (.agg #[(.string t_030),(.int .i64 t_131),(.int .i64 t_232),(.int .i64 t_333),(.int .i64 t_434),(.int .i64 t_535),(.string t_636),(.string t_737),(.int .i64 t_838),(.slice t_939 t_9l40 t_9c41),(.slice t_1042 t_10l43 t_10c44),(.int .i64 t_1145),(.int .i64 t_1246),(.int .i64 t_1347),(.int .i64 t_1448),(.int .i64 t_1549)]) /\
 ∀ w50,ExtB [] [b27] w29 w50 ->
 Run Tryz.prog (.buildSlice 71 1 [(0,(.agg #[(.string t_030),(.int .i64 t_131),(.int .i64 t_232),(.int .i64 t_333),(.int .i64 t_434),(.int .i64 t_535),(.string t_636),(.string t_737),(.int .i64 t_838),(.slice t_939 t_9l40 t_9c41),(.slice t_1042 t_10l43 t_10c44),(.int .i64 t_1145),(.int .i64 t_1246),(.int .i64 t_1347),(.int .i64 t_1448),(.int .i64 t_1549)]))]) w50 fun v51 w51 =>
 Ext w50 w51 /\
 ∃ t52:Option Addr,∃ tl53:Nat,∃ tc54:Nat,v51 = (.slice t52 tl53 tc54) /\
 ∀ w55,ExtB [] [b27] w51 w55 ->
 Run Tryz.prog (.append #[71,71] 71 [(.slice out4 outl4 outc4),(.slice t52 tl53 tc54)]) w55 fun v56 w56 =>
 Kept [b27] w55 w56 /\
 ∃ t57:Option Addr,∃ tl58:Nat,∃ tc59:Nat,v56 = (.slice t57 tl58 tc59) /\
 InR .i64 (k5 + 1) /\
 (I3 t57 tl58 tc59 (k5 + 1) w56/\M3 t57 tl58 tc59 (k5 + 1) w56 < M3 out4 outl4 outc4 k5 w6))) /\
 (((tl1:Int) <= k5) ->
 ∀ w7,Ext w6 w7 ->
 Q (.slice out4 outl4 outc4) w7)
theorem ok_farm_Farm_Jobs (f:Option Addr) (w:World) (Q:Value->World->Prop) (h:wp_farm_Farm_Jobs f w Q):FnP Tryz.prog F_farm_Farm_Jobs #[(.pointer f)] w Q:=by
  have e_:wp_farm_Farm_Jobs f w Q = Runs Tryz.prog Q ({ N:=22,wrap:=[],pub:=[],muts:=[],joins:=[] }:Cfg) Tryz.f29 (Tryz.f29.body.getD .skip) [.sc (.ptr f)] w:=by kernel_rfl
  rw [e_] at h
  exact runs_fn h Tryz.func29 (by kernel_rfl) (fun args w=>Tryz.call29 args w) (by kernel_rfl) (by kernel_rfl) rfl rfl
def wp_farm_Farm_Hosts (f:Option Addr) (w:World) (Q:Value->World->Prop):Prop :=
 f ≠ none /\
 f ≠ none /\
 ∃ t0:Option Addr,∃ tl1:Nat,∃ tc2:Nat,cell w (pAdd f 0) 0 = some (.slice t0 tl1 tc2) /\
 ∀ w3,Ext w w3 ->
 FnP Tryz.prog F_farm_ownHosts #[(.slice t0 tl1 tc2)] w3 fun v4 w4 =>
 Ext w3 w4 /\
 ∃ t5:Option Addr,∃ tl6:Nat,∃ tc7:Nat,v4 = (.slice t5 tl6 tc7) /\
 ∀ w8,Ext w4 w8 ->
 Q (.slice t5 tl6 tc7) w8
theorem ok_farm_Farm_Hosts (f:Option Addr) (w:World) (Q:Value->World->Prop) (h:wp_farm_Farm_Hosts f w Q):FnP Tryz.prog F_farm_Farm_Hosts #[(.pointer f)] w Q:=by
  have e_:wp_farm_Farm_Hosts f w Q = Runs Tryz.prog Q ({ N:=8,wrap:=[],pub:=[],muts:=[],joins:=[] }:Cfg) Tryz.f20 (Tryz.f20.body.getD .skip) [.sc (.ptr f)] w:=by kernel_rfl
  rw [e_] at h
  exact runs_fn h Tryz.func20 (by kernel_rfl) (fun args w=>Tryz.call20 args w) (by kernel_rfl) (by kernel_rfl) rfl rfl
def wp_farm_ownHosts (l:Option Addr) (ll:Nat) (lc:Nat) (w:World) (Q:Value->World->Prop):Prop :=
 ∀ w0,Ext w w0 ->
 FnP Tryz.prog F_slices_Clone_api_Host_api_Host #[(.slice l ll lc)] w0 fun v1 w1 =>
 Ext w0 w1 /\
 ∃ t2:Option Addr,∃ tl3:Nat,∃ tc4:Nat,v1 = (.slice t2 tl3 tc4) /\
 ∃ (I5:Int->World->Prop) (M5:Int->World->Nat),I5 0 w1 /\
 ∀ (k6:Int) (w7:World),I5 k6 w7 ->
 (((k6 < (tl3:Int)) ->
 t2 ≠ none /\
 (0:Int) <= k6 /\
 (k6:Int) < (tl3:Int) /\
 (pIdx t2 k6 8) ≠ none /\
 ∃ t8:Option Addr,∃ tl9:Nat,∃ tc10:Nat,cell w7 (pAdd (pIdx t2 k6 8) 1) 0 = some (.slice t8 tl9 tc10) /\
 ∀ w11,Ext w7 w11 ->
 FnP Tryz.prog F_slices_Clone_api_Label_api_Label #[(.slice t8 tl9 tc10)] w11 fun v12 w12 =>
 Ext w11 w12 /\
 ∃ t13:Option Addr,∃ tl14:Nat,∃ tc15:Nat,v12 = (.slice t13 tl14 tc15) /\
 t2 ≠ none /\
 (0:Int) <= k6 /\
 (k6:Int) < (tl3:Int) /\
 (pIdx t2 k6 8) ≠ none /\
 Store w12 (pAdd (pIdx t2 k6 8) 1) [(.slice t13 tl14 tc15)] [] fun w16 =>
 InR .i64 (k6 + 1) /\
 (I5 (k6 + 1) w16/\M5 (k6 + 1) w16 < M5 k6 w7))) /\
 (((tl3:Int) <= k6) ->
 ∀ w8,Ext w7 w8 ->
 Q (.slice t2 tl3 tc4) w8)
theorem ok_farm_ownHosts (l:Option Addr) (ll:Nat) (lc:Nat) (w:World) (Q:Value->World->Prop) (h:wp_farm_ownHosts l ll lc w Q):FnP Tryz.prog F_farm_ownHosts #[(.slice l ll lc)] w Q:=by
  have e_:wp_farm_ownHosts l ll lc w Q = Runs Tryz.prog Q ({ N:=23,wrap:=[],pub:=[],muts:=[],joins:=[] }:Cfg) Tryz.f42 (Tryz.f42.body.getD .skip) [.sc (.slc l ll lc)] w:=by kernel_rfl
  rw [e_] at h
  exact runs_fn h Tryz.func42 (by kernel_rfl) (fun args w=>Tryz.call42 args w) (by kernel_rfl) (by kernel_rfl) rfl rfl
def wp_farm_New (x_0:Option Addr) (x_0l:Nat) (x_0c:Nat) (x_1:Int) (x_2:Int) (x_3:Int) (x_4:Int) (w:World) (Q:Value->World->Prop):Prop :=
 ∀ b0:Nat,w.heap.size <= b0->∀ w1,Ext w w1 ->
 FnP Tryz.prog F_host_Check #[(.slice x_0 x_0l x_0c)] w1 fun v2 w2 =>
 Ext w1 w2 /\
 ∃ t3:Int,v2 = (.int .i64 t3) /\
 ((t3 ≠ 0) ->
 ∀ w4,Ext w w4 ->
 Q (.tuple #[(.pointer none),(.int .i64 t3)]) w4) /\
 ((t3 = 0) ->
 ∀ w4,Ext w w4 ->
 FnP Tryz.prog F_slices_ContainsFunc_api_Host_api_Host #[(.slice x_0 x_0l x_0c),(.func (.func 40) #[] #[])] w4 fun v5 w5 =>
 Ext w4 w5 /\
 ∃ t6:Bool,v5 = (.bool t6) /\
 ((t6 = true) ->
 ∀ w7,Ext w w7 ->
 Q (.tuple #[(.pointer none),(.int .i64 9)]) w7) /\
 ((t6 = false) ->
 ∀ w7,Ext w w7 ->
 FnP Tryz.prog F_retry_Check #[(.agg #[(.int .i64 x_1),(.int .i64 x_2),(.int .i64 x_3),(.int .i64 x_4)])] w7 fun v8 w8 =>
 Ext w7 w8 /\
 ∃ t9:Int,v8 = (.int .i64 t9) /\
 ((t9 ≠ 0) ->
 ∀ w10,Ext w w10 ->
 Q (.tuple #[(.pointer none),(.int .i64 t9)]) w10) /\
 ((t9 = 0) ->
 ∀ w10,ExtB [] [b0] w w10 ->
 FnP Tryz.prog F_farm_ownHosts #[(.slice x_0 x_0l x_0c)] w10 fun v11 w11 =>
 Ext w10 w11 /\
 ∃ t12:Option Addr,∃ tl13:Nat,∃ tc14:Nat,v11 = (.slice t12 tl13 tc14) /\
 ∀ w15,ExtB [] [b0] w11 w15 ->
 New w15 90 [(.slice t12 tl13 tc14),(.int .i64 x_1),(.int .i64 x_2),(.int .i64 x_3),(.int .i64 x_4),(.int .i64 0),(.slice none 0 0)] fun p16 w16 =>
 ∀ w17,Ext w16 w17 ->
 Q (.tuple #[(.pointer p16),(.int .i64 0)]) w17)))
theorem ok_farm_New (x_0:Option Addr) (x_0l:Nat) (x_0c:Nat) (x_1:Int) (x_2:Int) (x_3:Int) (x_4:Int) (w:World) (Q:Value->World->Prop) (h:wp_farm_New x_0 x_0l x_0c x_1 x_2 x_3 x_4 w Q):FnP Tryz.prog F_farm_New #[(.agg #[(.slice x_0 x_0l x_0c),(.int .i64 x_1),(.int .i64 x_2),(.int .i64 x_3),(.int .i64 x_4)])] w Q:=by
  have e_:wp_farm_New x_0 x_0l x_0c x_1 x_2 x_3 x_4 w Q = Runs Tryz.prog Q ({ N:=28,wrap:=[],pub:=[27],muts:=[],joins:=[] }:Cfg) Tryz.f19 (Tryz.f19.body.getD .skip) [.agg [.slc x_0 x_0l x_0c,.int .i64 x_1,.int .i64 x_2,.int .i64 x_3,.int .i64 x_4]] w:=by kernel_rfl
  rw [e_] at h
  exact runs_fn h Tryz.func19 (by kernel_rfl) (fun args w=>Tryz.call19 args w) (by kernel_rfl) (by kernel_rfl) rfl rfl
def wp_farm_New_1 (h_v_0:ByteArray) (h_v_1:Option Addr) (h_v_1l:Nat) (h_v_1c:Nat) (h_v_2:Int) (h_v_3:Int) (h_v_4:Int) (h_v_5:Int) (h_v_6:Int) (h_v_7:Int) (w:World) (Q:Value->World->Prop):Prop :=
 ∀ b0:Nat,w.heap.size <= b0->∀ w1,Ext w w1 ->
 Run Tryz.prog (.eq .neq 34 false false (.agg #[(.int .i64 h_v_5),(.int .i64 h_v_6),(.int .i64 h_v_7)]) (.agg #[(.int .i64 0),(.int .i64 0),(.int .i64 0)])) w1 fun v2 w2 =>
 Ext w1 w2 /\
 ∃ t3:Bool,v2 = (.bool t3) /\
 ∀ w4,Ext w w4 ->
 Q (.bool t3) w4
theorem ok_farm_New_1 (h_v_0:ByteArray) (h_v_1:Option Addr) (h_v_1l:Nat) (h_v_1c:Nat) (h_v_2:Int) (h_v_3:Int) (h_v_4:Int) (h_v_5:Int) (h_v_6:Int) (h_v_7:Int) (w:World) (Q:Value->World->Prop) (h:wp_farm_New_1 h_v_0 h_v_1 h_v_1l h_v_1c h_v_2 h_v_3 h_v_4 h_v_5 h_v_6 h_v_7 w Q):FnP Tryz.prog F_farm_New_1 #[(.agg #[(.string h_v_0),(.slice h_v_1 h_v_1l h_v_1c),(.int .i64 h_v_2),(.int .i64 h_v_3),(.int .i64 h_v_4),(.int .i64 h_v_5),(.int .i64 h_v_6),(.int .i64 h_v_7)])] w Q:=by
  have e_:wp_farm_New_1 h_v_0 h_v_1 h_v_1l h_v_1c h_v_2 h_v_3 h_v_4 h_v_5 h_v_6 h_v_7 w Q = Runs Tryz.prog Q ({ N:=7,wrap:=[],pub:=[],muts:=[],joins:=[] }:Cfg) Tryz.f40 (Tryz.f40.body.getD .skip) [.agg [.str h_v_0,.slc h_v_1 h_v_1l h_v_1c,.int .i64 h_v_2,.int .i64 h_v_3,.int .i64 h_v_4,.int .i64 h_v_5,.int .i64 h_v_6,.int .i64 h_v_7]] w:=by kernel_rfl
  rw [e_] at h
  exact runs_fn h Tryz.func40 (by kernel_rfl) (fun args w=>Tryz.call40 args w) (by kernel_rfl) (by kernel_rfl) rfl rfl
def wp_slices_ContainsFunc_api_Host_api_Host (s:Option Addr) (sl:Nat) (sc:Nat) (f:Value) (w:World) (Q:Value->World->Prop):Prop :=
 ∀ w0,Ext w w0 ->
 FnP Tryz.prog F_slices_IndexFunc_api_Host_api_Host #[(.slice s sl sc),f] w0 fun v1 w1 =>
 Ext w0 w1 /\
 ∃ t2:Int,v1 = (.int .i64 t2) /\
 ∀ w3,Ext w w3 ->
 Q (.bool (decide (0 <= t2))) w3
theorem ok_slices_ContainsFunc_api_Host_api_Host (s:Option Addr) (sl:Nat) (sc:Nat) (f:Value) (w:World) (Q:Value->World->Prop) (h:wp_slices_ContainsFunc_api_Host_api_Host s sl sc f w Q):FnP Tryz.prog F_slices_ContainsFunc_api_Host_api_Host #[(.slice s sl sc),f] w Q:=by
  have e_:wp_slices_ContainsFunc_api_Host_api_Host s sl sc f w Q = Runs Tryz.prog Q ({ N:=9,wrap:=[],pub:=[],muts:=[],joins:=[] }:Cfg) Tryz.f39 (Tryz.f39.body.getD .skip) [.sc (.slc s sl sc),.sc (.val f)] w:=by kernel_rfl
  rw [e_] at h
  exact runs_fn h Tryz.func39 (by kernel_rfl) (fun args w=>Tryz.call39 args w) (by kernel_rfl) (by kernel_rfl) rfl rfl
def wp_slices_IndexFunc_api_Host_api_Host (s:Option Addr) (sl:Nat) (sc:Nat) (f:Value) (w:World) (Q:Value->World->Prop):Prop :=
 ∃ (I0:Int->World->Prop) (M0:Int->World->Nat),I0 0 w /\
 ∀ (k1:Int) (w2:World),I0 k1 w2 ->
 (((k1 < (sl:Int)) ->
 s ≠ none /\
 (0:Int) <= k1 /\
 (k1:Int) < (sl:Int) /\
 (pIdx s k1 8) ≠ none /\
 ∃ t3:ByteArray,cell w2 (pIdx s k1 8) 0 = some (.string t3) /\
 ∃ t4:Option Addr,∃ tl5:Nat,∃ tc6:Nat,cell w2 (pIdx s k1 8) 1 = some (.slice t4 tl5 tc6) /\
 ∃ t7:Int,cell w2 (pIdx s k1 8) 2 = some (.int .i64 t7) /\
 ∃ t8:Int,cell w2 (pIdx s k1 8) 3 = some (.int .i64 t8) /\
 ∃ t9:Int,cell w2 (pIdx s k1 8) 4 = some (.int .i64 t9) /\
 ∃ t10:Int,cell w2 (pIdx s k1 8) 5 = some (.int .i64 t10) /\
 ∃ t11:Int,cell w2 (pIdx s k1 8) 6 = some (.int .i64 t11) /\
 ∃ t12:Int,cell w2 (pIdx s k1 8) 7 = some (.int .i64 t12) /\
 ∀ w13,Ext w2 w13 ->
 FnVP Tryz.prog f [(.agg #[(.string t3),(.slice t4 tl5 tc6),(.int .i64 t7),(.int .i64 t8),(.int .i64 t9),(.int .i64 t10),(.int .i64 t11),(.int .i64 t12)])] w13 fun v14 w14 =>
 Ext w13 w14 /\
 ∃ t15:Bool,v14 = (.bool t15) /\
 ((t15 = true) ->
 ∀ w16,Ext w2 w16 ->
 Q (.int .i64 k1) w16) /\
 ((t15 = false) ->
 InR .i64 (k1 + 1) /\
 (I0 (k1 + 1) w2/\M0 (k1 + 1) w2 < M0 k1 w2)))) /\
 (((sl:Int) <= k1) ->
 ∀ w3,Ext w2 w3 ->
 Q (.int .i64 (-1)) w3)
theorem ok_slices_IndexFunc_api_Host_api_Host (s:Option Addr) (sl:Nat) (sc:Nat) (f:Value) (w:World) (Q:Value->World->Prop) (h:wp_slices_IndexFunc_api_Host_api_Host s sl sc f w Q):FnP Tryz.prog F_slices_IndexFunc_api_Host_api_Host #[(.slice s sl sc),f] w Q:=by
  have e_:wp_slices_IndexFunc_api_Host_api_Host s sl sc f w Q = Runs Tryz.prog Q ({ N:=19,wrap:=[],pub:=[],muts:=[],joins:=[] }:Cfg) Tryz.f69 (Tryz.f69.body.getD .skip) [.sc (.slc s sl sc),.sc (.val f)] w:=by kernel_rfl
  rw [e_] at h
  exact runs_fn h Tryz.func69 (by kernel_rfl) (fun args w=>Tryz.call69 args w) (by kernel_rfl) (by kernel_rfl) rfl rfl
end Go.Proofs.YtegephkpdlopaaaGreatDoor
set_option linter.unusedVariables false
set_option linter.unusedSimpArgs false
set_option maxRecDepth 100000
namespace Go.Proofs.YtegephkpdlopaaaGreatDoor
open Go.Sx Go.RowKit
abbrev F_farm_Farm_Do:FuncId:=11
abbrev F_farm_Farm_Submit:FuncId:=31
abbrev F_farm_Farm_Plan:FuncId:=33
abbrev F_farm_Farm_Report:FuncId:=34
abbrev F_farm_Farm_Cancel:FuncId:=35
def wp_farm_Farm_Submit (f:Option Addr) (j_0:ByteArray) (j_1:Int) (j_2:Int) (j_3:Int) (j_4:Int) (j_5:Int) (j_6:ByteArray) (j_7:ByteArray) (j_8:Int) (j_9:Option Addr) (j_9l:Nat) (j_9c:Nat) (j_10:Option Addr) (j_10l:Nat) (j_10c:Nat) (w:World) (Q:Value->World->Prop):Prop :=
 ∀ b0:Nat,w.heap.size <= b0->∀ w1,Ext w w1 ->
 FnP Tryz.prog F_job_Check #[(.agg #[(.string j_0),(.int .i64 j_1),(.int .i64 j_2),(.int .i64 j_3),(.int .i64 j_4),(.int .i64 j_5),(.string j_6),(.string j_7),(.int .i64 j_8),(.slice j_9 j_9l j_9c),(.slice j_10 j_10l j_10c)])] w1 fun v2 w2 =>
 Ext w1 w2 /\
 ∃ t3:Int,v2 = (.int .i64 t3) /\
 ((t3 ≠ 0) ->
 ∀ w4,Ext w w4 ->
 Q (.tuple #[(.int .i64 0),(.int .i64 t3)]) w4) /\
 ((t3 = 0) ->
 f ≠ none /\
 f ≠ none /\
 ∃ t4:Option Addr,∃ tl5:Nat,∃ tc6:Nat,cell w (pAdd f 6) 0 = some (.slice t4 tl5 tc6) /\
 (((tl5:Int) = 60) ->
 ∀ w7,Ext w w7 ->
 Q (.tuple #[(.int .i64 0),(.int .i64 7)]) w7) /\
 (((tl5:Int) ≠ 60) ->
 ∃ (I7:Int->World->Prop) (M7:Int->World->Nat),I7 0 w /\
 ∀ (k8:Int) (w9:World),I7 k8 w9 ->
 (((k8 < (j_10l:Int)) ->
 j_10 ≠ none /\
 (0:Int) <= k8 /\
 (k8:Int) < (j_10l:Int) /\
 ∃ t10:Int,cell w9 (pIdx j_10 k8 1) 0 = some (.int .i64 t10) /\
 ∀ w11,ExtB [] [b0] w9 w11 ->
 FnP Tryz.prog F_farm_Farm_at #[(.pointer f),(.int .i64 t10)] w11 fun v12 w12 =>
 Ext w11 w12 /\
 ∃ t13:Option Addr,v12 = (.pointer t13) /\
 ((t13 = none) ->
 ∀ w14,Ext w12 w14 ->
 Q (.tuple #[(.int .i64 0),(.int .i64 5)]) w14) /\
 ((t13 ≠ none) ->
 InR .i64 (k8 + 1) /\
 (I7 (k8 + 1) w12/\M7 (k8 + 1) w12 < M7 k8 w9)))) /\
 (((j_10l:Int) <= k8) ->
 ∃ (I10:Int->World->Prop) (M10:Int->World->Nat),I10 0 w9 /\
 ∀ (k11:Int) (w12:World),I10 k11 w12 ->
 (((k11 < (j_10l:Int)) ->
 j_10 ≠ none /\
 (0:Int) <= k11 /\
 (k11:Int) < (j_10l:Int) /\
 ∃ t13:Int,cell w12 (pIdx j_10 k11 1) 0 = some (.int .i64 t13) /\
 ∀ w14,ExtB [] [b0] w12 w14 ->
 FnP Tryz.prog F_farm_Farm_at #[(.pointer f),(.int .i64 t13)] w14 fun v15 w15 =>
 Ext w14 w15 /\
 ∃ t16:Option Addr,v15 = (.pointer t16) /\
 t16 ≠ none /\
 t16 ≠ none /\
 ∃ t17:Int,cell w15 (pAdd t16 11) 0 = some (.int .i64 t17) /\
 (((t17 = 4)\/(t17 = 5)) ->
 ∀ w18,Ext w15 w18 ->
 Q (.tuple #[(.int .i64 0),(.int .i64 9)]) w18) /\
 (((t17 ≠ 4)/\(t17 ≠ 5)) ->
 InR .i64 (k11 + 1) /\
 (I10 (k11 + 1) w15/\M10 (k11 + 1) w15 < M10 k11 w12)))) /\
 (((j_10l:Int) <= k11) ->
 f ≠ none /\
 f ≠ none /\
 ∃ t13:Option Addr,∃ tl14:Nat,∃ tc15:Nat,cell w12 (pAdd f 6) 0 = some (.slice t13 tl14 tc15) /\
 ∀ w16,ExtB [] [b0] w12 w16 ->
 FnP Tryz.prog F_farm_own #[(.agg #[(.string j_0),(.int .i64 j_1),(.int .i64 j_2),(.int .i64 j_3),(.int .i64 j_4),(.int .i64 j_5),(.string j_6),(.string j_7),(.int .i64 j_8),(.slice j_9 j_9l j_9c),(.slice j_10 j_10l j_10c),(.int .i64 1),(.int .i64 0),(.int .i64 0),(.int .i64 0),(.int .i64 0)])] w16 fun v17 w17 =>
 Ext w16 w17 /\
 ∃ t_018:ByteArray,∃ t_119:Int,∃ t_220:Int,∃ t_321:Int,∃ t_422:Int,∃ t_523:Int,∃ t_624:ByteArray,∃ t_725:ByteArray,∃ t_826:Int,∃ t_927:Option Addr,∃ t_9l28:Nat,∃ t_9c29:Nat,∃ t_1030:Option Addr,∃ t_10l31:Nat,∃ t_10c32:Nat,∃ t_1133:Int,∃ t_1234:Int,∃ t_1335:Int,∃ t_1436:Int,∃ t_1537:Int,v17 = (.agg #[(.string t_018),(.int .i64 t_119),(.int .i64 t_220),(.int .i64 t_321),(.int .i64 t_422),(.int .i64 t_523),(.string t_624),(.string t_725),(.int .i64 t_826),(.slice t_927 t_9l28 t_9c29),(.slice t_1030 t_10l31 t_10c32),(.int .i64 t_1133),(.int .i64 t_1234),(.int .i64 t_1335),(.int .i64 t_1436),(.int .i64 t_1537)]) /\
 ∀ w38,ExtB [] [b0] w17 w38 ->
 Run Tryz.prog (.buildSlice 71 1 [(0,(.agg #[(.string t_018),(.int .i64 t_119),(.int .i64 t_220),(.int .i64 t_321),(.int .i64 t_422),(.int .i64 t_523),(.string t_624),(.string t_725),(.int .i64 t_826),(.slice t_927 t_9l28 t_9c29),(.slice t_1030 t_10l31 t_10c32),(.int .i64 t_1133),(.int .i64 t_1234),(.int .i64 t_1335),(.int .i64 t_1436),(.int .i64 t_1537)]))]) w38 fun v39 w39 =>
 Ext w38 w39 /\
 ∃ t40:Option Addr,∃ tl41:Nat,∃ tc42:Nat,v39 = (.slice t40 tl41 tc42) /\
 ∀ w43,ExtB [] [b0] w39 w43 ->
 Run Tryz.prog (.append #[71,71] 71 [(.slice t13 tl14 tc15),(.slice t40 tl41 tc42)]) w43 fun v44 w44 =>
 Kept [b0] w43 w44 /\
 ∃ t45:Option Addr,∃ tl46:Nat,∃ tc47:Nat,v44 = (.slice t45 tl46 tc47) /\
 f ≠ none /\
 f ≠ none /\
 Store w44 (pAdd f 6) [(.slice t45 tl46 tc47)] [b0] fun w48 =>
 f ≠ none /\
 f ≠ none /\
 ∃ t49:Option Addr,∃ tl50:Nat,∃ tc51:Nat,cell w48 (pAdd f 6) 0 = some (.slice t49 tl50 tc51) /\
 ∀ w52,Ext w48 w52 ->
 Q (.tuple #[(.int .i64 (tl50:Int)),(.int .i64 0)]) w52))))
theorem ok_farm_Farm_Submit (f:Option Addr) (j_0:ByteArray) (j_1:Int) (j_2:Int) (j_3:Int) (j_4:Int) (j_5:Int) (j_6:ByteArray) (j_7:ByteArray) (j_8:Int) (j_9:Option Addr) (j_9l:Nat) (j_9c:Nat) (j_10:Option Addr) (j_10l:Nat) (j_10c:Nat) (w:World) (Q:Value->World->Prop) (h:wp_farm_Farm_Submit f j_0 j_1 j_2 j_3 j_4 j_5 j_6 j_7 j_8 j_9 j_9l j_9c j_10 j_10l j_10c w Q):FnP Tryz.prog F_farm_Farm_Submit #[(.pointer f),(.agg #[(.string j_0),(.int .i64 j_1),(.int .i64 j_2),(.int .i64 j_3),(.int .i64 j_4),(.int .i64 j_5),(.string j_6),(.string j_7),(.int .i64 j_8),(.slice j_9 j_9l j_9c),(.slice j_10 j_10l j_10c)])] w Q:=by
  have e_:wp_farm_Farm_Submit f j_0 j_1 j_2 j_3 j_4 j_5 j_6 j_7 j_8 j_9 j_9l j_9c j_10 j_10l j_10c w Q = Runs Tryz.prog Q ({ N:=72,wrap:=[],pub:=[],muts:=[],joins:=[] }:Cfg) Tryz.f31 (Tryz.f31.body.getD .skip) [.sc (.ptr f),.agg [.str j_0,.int .i64 j_1,.int .i64 j_2,.int .i64 j_3,.int .i64 j_4,.int .i64 j_5,.str j_6,.str j_7,.int .i64 j_8,.slc j_9 j_9l j_9c,.slc j_10 j_10l j_10c]] w:=by kernel_rfl
  rw [e_] at h
  exact runs_fn h Tryz.func31 (by kernel_rfl) (fun args w=>Tryz.call31 args w) (by kernel_rfl) (by kernel_rfl) rfl rfl
def wp_farm_Farm_Report (f:Option Addr) (id:Int) (ok:Bool) (w:World) (Q:Value->World->Prop):Prop :=
 ∀ w0,Ext w w0 ->
 FnP Tryz.prog F_farm_Farm_at #[(.pointer f),(.int .i64 id)] w0 fun v1 w1 =>
 Ext w0 w1 /\
 ∃ t2:Option Addr,v1 = (.pointer t2) /\
 ((t2 = none) ->
 ∀ w3,Ext w1 w3 ->
 Q (.int .i64 5) w3) /\
 ((t2 ≠ none) ->
 t2 ≠ none /\
 t2 ≠ none /\
 ∃ t3:Int,cell w1 (pAdd t2 11) 0 = some (.int .i64 t3) /\
 ((t3 ≠ 2) ->
 ∀ w4,Ext w1 w4 ->
 Q (.int .i64 9) w4) /\
 ((t3 = 2) ->
 ∀ w4,Ext w1 w4 ->
 FnP Tryz.prog F_farm_Farm_leave #[(.pointer f),(.pointer t2)] w4 fun v5 w5 =>
 v5 = (.tuple #[]) /\
 (((ok = true) ->
 t2 ≠ none /\
 t2 ≠ none /\
 Store w5 (pAdd t2 11) [(.int .i64 3)] [] fun w6 =>
 ∀ w7,Ext w6 w7 ->
 Q (.int .i64 0) w7)) /\
 ((ok = false) ->
 t2 ≠ none /\
 t2 ≠ none /\
 ∃ t6:Int,cell w5 (pAdd t2 15) 0 = some (.int .i64 t6) /\
 InR .i64 (t6 + 1) /\
 t2 ≠ none /\
 t2 ≠ none /\
 Store w5 (pAdd t2 15) [(.int .i64 (t6 + 1))] [] fun w7 =>
 f ≠ none /\
 f ≠ none /\
 (pAdd f 1) ≠ none /\
 ∃ t8:Int,cell w7 (pAdd f 1) 0 = some (.int .i64 t8) /\
 ∃ t9:Int,cell w7 (pAdd f 1) 1 = some (.int .i64 t9) /\
 ∃ t10:Int,cell w7 (pAdd f 1) 2 = some (.int .i64 t10) /\
 ∃ t11:Int,cell w7 (pAdd f 1) 3 = some (.int .i64 t11) /\
 t2 ≠ none /\
 t2 ≠ none /\
 ∃ t12:Int,cell w7 (pAdd t2 15) 0 = some (.int .i64 t12) /\
 ∀ w13,Ext w7 w13 ->
 FnP Tryz.prog F_retry_Delay #[(.agg #[(.int .i64 t8),(.int .i64 t9),(.int .i64 t10),(.int .i64 t11)]),(.int .i64 t12)] w13 fun v14 w14 =>
 Ext w13 w14 /\
 ∃ t15:Int,∃ t16:Int,v14 = (.tuple #[(.int .i64 t15),(.int .i64 t16)]) /\
 (((t16 ≠ 0) ->
 t2 ≠ none /\
 t2 ≠ none /\
 Store w7 (pAdd t2 11) [(.int .i64 4)] [] fun w17 =>
 ∀ w18,Ext w17 w18 ->
 FnP Tryz.prog F_farm_Farm_lost #[(.pointer f)] w18 fun v19 w19 =>
 v19 = (.tuple #[]) /\
 ∀ w20,Ext w19 w20 ->
 Q (.int .i64 0) w20)) /\
 ((t16 = 0) ->
 f ≠ none /\
 f ≠ none /\
 ∃ t17:Int,cell w7 (pAdd f 5) 0 = some (.int .i64 t17) /\
 InR .i64 (t17 + t15) /\
 t2 ≠ none /\
 t2 ≠ none /\
 Store w7 (pAdd t2 11) [(.int .i64 1)] [] fun w18 =>
 t2 ≠ none /\
 t2 ≠ none /\
 Store w18 (pAdd t2 14) [(.int .i64 (t17 + t15))] [] fun w19 =>
 ∀ w20,Ext w19 w20 ->
 Q (.int .i64 0) w20))))
theorem ok_farm_Farm_Report (f:Option Addr) (id:Int) (ok:Bool) (w:World) (Q:Value->World->Prop) (h:wp_farm_Farm_Report f id ok w Q):FnP Tryz.prog F_farm_Farm_Report #[(.pointer f),(.int .i64 id),(.bool ok)] w Q:=by
  have e_:wp_farm_Farm_Report f id ok w Q = Runs Tryz.prog Q ({ N:=67,wrap:=[],pub:=[],muts:=[63,65],joins:=[] }:Cfg) Tryz.f34 (Tryz.f34.body.getD .skip) [.sc (.ptr f),.sc (.int .i64 id),.sc (.bool (.atom true ok))] w:=by kernel_rfl
  rw [e_] at h
  exact runs_fn h Tryz.func34 (by kernel_rfl) (fun args w=>Tryz.call34 args w) (by kernel_rfl) (by kernel_rfl) rfl rfl
def wp_farm_Farm_Cancel (f:Option Addr) (id:Int) (w:World) (Q:Value->World->Prop):Prop :=
 ∀ w0,Ext w w0 ->
 FnP Tryz.prog F_farm_Farm_at #[(.pointer f),(.int .i64 id)] w0 fun v1 w1 =>
 Ext w0 w1 /\
 ∃ t2:Option Addr,v1 = (.pointer t2) /\
 ((t2 = none) ->
 ∀ w3,Ext w1 w3 ->
 Q (.int .i64 5) w3) /\
 ((t2 ≠ none) ->
 t2 ≠ none /\
 t2 ≠ none /\
 ∃ t3:Int,cell w1 (pAdd t2 11) 0 = some (.int .i64 t3) /\
 ((t3 ≠ 1) ->
 t2 ≠ none) /\
 ((t3 ≠ 1) ->
 t2 ≠ none) /\
 (((t3 ≠ 1) ->
 ∃ t4:Int,cell w1 (pAdd t2 11) 0 = some (.int .i64 t4) /\
 ((t4 ≠ 2) ->
 ∀ w5,Ext w1 w5 ->
 Q (.int .i64 9) w5) /\
 ((t4 = 2) ->
 t2 ≠ none /\
 t2 ≠ none /\
 ∃ t5:Int,cell w1 (pAdd t2 11) 0 = some (.int .i64 t5) /\
 (((t5 = 2) ->
 ∀ w6,Ext w1 w6 ->
 FnP Tryz.prog F_farm_Farm_leave #[(.pointer f),(.pointer t2)] w6 fun v7 w7 =>
 v7 = (.tuple #[]) /\
 t2 ≠ none /\
 t2 ≠ none /\
 Store w7 (pAdd t2 11) [(.int .i64 5)] [] fun w8 =>
 ∀ w9,Ext w8 w9 ->
 FnP Tryz.prog F_farm_Farm_lost #[(.pointer f)] w9 fun v10 w10 =>
 v10 = (.tuple #[]) /\
 ∀ w11,Ext w10 w11 ->
 Q (.int .i64 0) w11)) /\
 ((t5 ≠ 2) ->
 t2 ≠ none /\
 t2 ≠ none /\
 Store w1 (pAdd t2 11) [(.int .i64 5)] [] fun w6 =>
 ∀ w7,Ext w6 w7 ->
 FnP Tryz.prog F_farm_Farm_lost #[(.pointer f)] w7 fun v8 w8 =>
 v8 = (.tuple #[]) /\
 ∀ w9,Ext w8 w9 ->
 Q (.int .i64 0) w9)))) /\
 ((t3 = 1) ->
 t2 ≠ none /\
 t2 ≠ none /\
 ∃ t4:Int,cell w1 (pAdd t2 11) 0 = some (.int .i64 t4) /\
 (((t4 = 2) ->
 ∀ w5,Ext w1 w5 ->
 FnP Tryz.prog F_farm_Farm_leave #[(.pointer f),(.pointer t2)] w5 fun v6 w6 =>
 v6 = (.tuple #[]) /\
 t2 ≠ none /\
 t2 ≠ none /\
 Store w6 (pAdd t2 11) [(.int .i64 5)] [] fun w7 =>
 ∀ w8,Ext w7 w8 ->
 FnP Tryz.prog F_farm_Farm_lost #[(.pointer f)] w8 fun v9 w9 =>
 v9 = (.tuple #[]) /\
 ∀ w10,Ext w9 w10 ->
 Q (.int .i64 0) w10)) /\
 ((t4 ≠ 2) ->
 t2 ≠ none /\
 t2 ≠ none /\
 Store w1 (pAdd t2 11) [(.int .i64 5)] [] fun w5 =>
 ∀ w6,Ext w5 w6 ->
 FnP Tryz.prog F_farm_Farm_lost #[(.pointer f)] w6 fun v7 w7 =>
 v7 = (.tuple #[]) /\
 ∀ w8,Ext w7 w8 ->
 Q (.int .i64 0) w8)))
theorem ok_farm_Farm_Cancel (f:Option Addr) (id:Int) (w:World) (Q:Value->World->Prop) (h:wp_farm_Farm_Cancel f id w Q):FnP Tryz.prog F_farm_Farm_Cancel #[(.pointer f),(.int .i64 id)] w Q:=by
  have e_:wp_farm_Farm_Cancel f id w Q = Runs Tryz.prog Q ({ N:=38,wrap:=[],pub:=[],muts:=[63,65],joins:=[] }:Cfg) Tryz.f35 (Tryz.f35.body.getD .skip) [.sc (.ptr f),.sc (.int .i64 id)] w:=by kernel_rfl
  rw [e_] at h
  exact runs_fn h Tryz.func35 (by kernel_rfl) (fun args w=>Tryz.call35 args w) (by kernel_rfl) (by kernel_rfl) rfl rfl
def wp_farm_Farm_Plan (f:Option Addr) (w:World) (Q:Value->World->Prop):Prop :=
 ∀ w0,Ext w w0 ->
 FnP Tryz.prog F_queue_New #[] w0 fun v1 w1 =>
 Ext w0 w1 /\
 ∃ t2:Option Addr,v1 = (.pointer t2) /\
 f ≠ none /\
 f ≠ none /\
 ∃ t3:Option Addr,∃ tl4:Nat,∃ tc5:Nat,cell w1 (pAdd f 6) 0 = some (.slice t3 tl4 tc5) /\
 ∃ (I6:Int->World->Prop) (M6:Int->World->Nat),I6 0 w1 /\
 ∀ (k7:Int) (w8:World),I6 k7 w8 ->
 (((k7 < (tl4:Int)) ->
 f ≠ none /\
 f ≠ none /\
 ∃ t9:Option Addr,∃ tl10:Nat,∃ tc11:Nat,cell w8 (pAdd f 6) 0 = some (.slice t9 tl10 tc11) /\
 t9 ≠ none /\
 (0:Int) <= k7 /\
 (k7:Int) < (tl10:Int) /\
 ∀ w12,Ext w8 w12 ->
 FnP Tryz.prog F_farm_Farm_ready #[(.pointer f),(.pointer (pIdx t9 k7 16))] w12 fun v13 w13 =>
 Ext w12 w13 /\
 ∃ t14:Bool,v13 = (.bool t14) /\
 (((t14 = true) ->
 (pIdx t9 k7 16) ≠ none /\
 (pIdx t9 k7 16) ≠ none /\
 (pAdd (pIdx t9 k7 16) 0) ≠ none /\
 ∃ t15:Int,cell w8 (pAdd (pAdd (pIdx t9 k7 16) 0) 1) 0 = some (.int .i64 t15) /\
 InR .i64 (k7 + 1) /\
 ∀ w16,Ext w8 w16 ->
 FnP Tryz.prog F_queue_Queue_Put #[(.pointer t2),(.int .i64 t15),(.int .i64 (k7 + 1))] w16 fun v17 w17 =>
 ∃ t18:Int,v17 = (.int .i64 t18) /\
 InR .i64 (k7 + 1) /\
 (I6 (k7 + 1) w17/\M6 (k7 + 1) w17 < M6 k7 w8))) /\
 ((t14 = false) ->
 InR .i64 (k7 + 1) /\
 (I6 (k7 + 1) w8/\M6 (k7 + 1) w8 < M6 k7 w8)))) /\
 (((tl4:Int) <= k7) ->
 ∀ w9,Ext w8 w9 ->
 FnP Tryz.prog F_queue_Queue_Take #[(.pointer t2)] w9 fun v10 w10 =>
 ∃ t_011:Int,∃ t_112:Int,∃ t13:Bool,v10 = (.tuple #[(.agg #[(.int .i64 t_011),(.int .i64 t_112)]),(.bool t13)]) /\
 ∀ w14,Ext w10 w14 ->
 New w14 119 [(.int .i64 0),(.int .i64 0)] fun p15 w15 =>
 Store w15 p15 [(.int .i64 t_011),(.int .i64 t_112)] [] fun w16 =>
 ∃ (I17:Option Addr->Nat->Nat->Option Addr->Bool->World->Prop) (M17:Option Addr->Nat->Nat->Option Addr->Bool->World->Nat),I17 none 0 0 p15 t13 w16 /\
 ∀ (out18:Option Addr) (outl18:Nat) (outc18:Nat) (x19:Option Addr) (is20:Bool) (w21:World),I17 out18 outl18 outc18 x19 is20 w21 ->
 (((is20 = true) ->
 x19 ≠ none /\
 ∃ t22:Int,cell w21 (pAdd x19 1) 0 = some (.int .i64 t22) /\
 ∀ w23,Ext w21 w23 ->
 FnP Tryz.prog F_farm_Farm_at #[(.pointer f),(.int .i64 t22)] w23 fun v24 w24 =>
 Ext w23 w24 /\
 ∃ t25:Option Addr,v24 = (.pointer t25) /\
 f ≠ none /\
 f ≠ none /\
 ∃ t26:Option Addr,∃ tl27:Nat,∃ tc28:Nat,cell w24 (pAdd f 0) 0 = some (.slice t26 tl27 tc28) /\
 t25 ≠ none /\
 t25 ≠ none /\
 (pAdd t25 0) ≠ none /\
 (pAdd (pAdd t25 0) 5) ≠ none /\
 ∃ t29:Int,cell w24 (pAdd (pAdd t25 0) 5) 0 = some (.int .i64 t29) /\
 ∃ t30:ByteArray,cell w24 (pAdd (pAdd t25 0) 5) 1 = some (.string t30) /\
 ∃ t31:ByteArray,cell w24 (pAdd (pAdd t25 0) 5) 2 = some (.string t31) /\
 ∃ t32:Int,cell w24 (pAdd (pAdd t25 0) 5) 3 = some (.int .i64 t32) /\
 ∃ t33:Option Addr,∃ tl34:Nat,∃ tc35:Nat,cell w24 (pAdd (pAdd t25 0) 5) 4 = some (.slice t33 tl34 tc35) /\
 t25 ≠ none /\
 t25 ≠ none /\
 (pAdd t25 0) ≠ none /\
 (pAdd (pAdd t25 0) 2) ≠ none /\
 ∃ t36:Int,cell w24 (pAdd (pAdd t25 0) 2) 0 = some (.int .i64 t36) /\
 ∃ t37:Int,cell w24 (pAdd (pAdd t25 0) 2) 1 = some (.int .i64 t37) /\
 ∃ t38:Int,cell w24 (pAdd (pAdd t25 0) 2) 2 = some (.int .i64 t38) /\
 ∀ w39,Ext w24 w39 ->
 FnP Tryz.prog F_host_Best #[(.slice t26 tl27 tc28),(.agg #[(.int .i64 t29),(.string t30),(.string t31),(.int .i64 t32),(.slice t33 tl34 tc35)]),(.agg #[(.int .i64 t36),(.int .i64 t37),(.int .i64 t38)])] w39 fun v40 w40 =>
 Ext w39 w40 /\
 ∃ t41:Int,∃ t42:Int,v40 = (.tuple #[(.int .i64 t41),(.int .i64 t42)]) /\
 (((t42 ≠ 0) ->
 x19 ≠ none /\
 ∃ t43:Int,cell w24 x19 0 = some (.int .i64 t43) /\
 ∃ t44:Int,cell w24 x19 1 = some (.int .i64 t44) /\
 ∀ w45,Ext w24 w45 ->
 New w45 119 [(.int .i64 0),(.int .i64 0)] fun p46 w46 =>
 Store w46 p46 [(.int .i64 t43),(.int .i64 t44)] [] fun w47 =>
 ∀ w48,Ext w47 w48 ->
 FnP Tryz.prog F_queue_Queue_Take #[(.pointer t2)] w48 fun v49 w49 =>
 ∃ t_050:Int,∃ t_151:Int,∃ t52:Bool,v49 = (.tuple #[(.agg #[(.int .i64 t_050),(.int .i64 t_151)]),(.bool t52)]) /\
 Store w49 p46 [(.int .i64 t_050),(.int .i64 t_151)] [] fun w53 =>
 (I17 out18 outl18 outc18 p46 t52 w53/\M17 out18 outl18 outc18 p46 t52 w53 < M17 out18 outl18 outc18 x19 is20 w21))) /\
 ((t42 = 0) ->
 f ≠ none /\
 f ≠ none /\
 ∃ t43:Option Addr,∃ tl44:Nat,∃ tc45:Nat,cell w24 (pAdd f 0) 0 = some (.slice t43 tl44 tc45) /\
 t25 ≠ none /\
 t25 ≠ none /\
 (pAdd t25 0) ≠ none /\
 (pAdd (pAdd t25 0) 2) ≠ none /\
 ∃ t46:Int,cell w24 (pAdd (pAdd t25 0) 2) 0 = some (.int .i64 t46) /\
 ∃ t47:Int,cell w24 (pAdd (pAdd t25 0) 2) 1 = some (.int .i64 t47) /\
 ∃ t48:Int,cell w24 (pAdd (pAdd t25 0) 2) 2 = some (.int .i64 t48) /\
 ∀ w49,Ext w24 w49 ->
 FnP Tryz.prog F_host_Take #[(.slice t43 tl44 tc45),(.int .i64 t41),(.agg #[(.int .i64 t46),(.int .i64 t47),(.int .i64 t48)])] w49 fun v50 w50 =>
 Ext w49 w50 /\
 ∃ t51:Option Addr,∃ tl52:Nat,∃ tc53:Nat,∃ t54:Int,v50 = (.tuple #[(.slice t51 tl52 tc53),(.int .i64 t54)]) /\
 f ≠ none /\
 f ≠ none /\
 Store w50 (pAdd f 0) [(.slice t51 tl52 tc53)] [] fun w55 =>
 f ≠ none /\
 f ≠ none /\
 ∃ t56:Int,cell w55 (pAdd f 5) 0 = some (.int .i64 t56) /\
 t25 ≠ none /\
 t25 ≠ none /\
 Store w55 (pAdd t25 11) [(.int .i64 2)] [] fun w57 =>
 t25 ≠ none /\
 t25 ≠ none /\
 Store w57 (pAdd t25 12) [(.int .i64 t41)] [] fun w58 =>
 t25 ≠ none /\
 t25 ≠ none /\
 Store w58 (pAdd t25 13) [(.int .i64 t56)] [] fun w59 =>
 x19 ≠ none /\
 ∃ t60:Int,cell w59 (pAdd x19 1) 0 = some (.int .i64 t60) /\
 ∀ w61,Ext w59 w61 ->
 Run Tryz.prog (.buildSlice 77 1 [(0,(.agg #[(.int .i64 t60),(.int .i64 t41)]))]) w61 fun v62 w62 =>
 Ext w61 w62 /\
 ∃ t63:Option Addr,∃ tl64:Nat,∃ tc65:Nat,v62 = (.slice t63 tl64 tc65) /\
 ∀ w66,Ext w62 w66 ->
 Run Tryz.prog (.append #[77,77] 77 [(.slice out18 outl18 outc18),(.slice t63 tl64 tc65)]) w66 fun v67 w67 =>
 ∃ t68:Option Addr,∃ tl69:Nat,∃ tc70:Nat,v67 = (.slice t68 tl69 tc70) /\
 x19 ≠ none /\
 ∃ t71:Int,cell w67 x19 0 = some (.int .i64 t71) /\
 ∃ t72:Int,cell w67 x19 1 = some (.int .i64 t72) /\
 ∀ w73,Ext w67 w73 ->
 New w73 119 [(.int .i64 0),(.int .i64 0)] fun p74 w74 =>
 Store w74 p74 [(.int .i64 t71),(.int .i64 t72)] [] fun w75 =>
 ∀ w76,Ext w75 w76 ->
 FnP Tryz.prog F_queue_Queue_Take #[(.pointer t2)] w76 fun v77 w77 =>
 ∃ t_078:Int,∃ t_179:Int,∃ t80:Bool,v77 = (.tuple #[(.agg #[(.int .i64 t_078),(.int .i64 t_179)]),(.bool t80)]) /\
 Store w77 p74 [(.int .i64 t_078),(.int .i64 t_179)] [] fun w81 =>
 (I17 t68 tl69 tc70 p74 t80 w81/\M17 t68 tl69 tc70 p74 t80 w81 < M17 out18 outl18 outc18 x19 is20 w21)))) /\
 ((is20 = false) ->
 ∀ w22,Ext w21 w22 ->
 Q (.tuple #[(.slice out18 outl18 outc18),(.int .i64 0)]) w22))
theorem ok_farm_Farm_Plan (f:Option Addr) (w:World) (Q:Value->World->Prop) (h:wp_farm_Farm_Plan f w Q):FnP Tryz.prog F_farm_Farm_Plan #[(.pointer f)] w Q:=by
  have e_:wp_farm_Farm_Plan f w Q = Runs Tryz.prog Q ({ N:=116,wrap:=[],pub:=[8],muts:=[59,60],joins:=[] }:Cfg) Tryz.f33 (Tryz.f33.body.getD .skip) [.sc (.ptr f)] w:=by kernel_rfl
  rw [e_] at h
  exact runs_fn h Tryz.func33 (by kernel_rfl) (fun args w=>Tryz.call33 args w) (by kernel_rfl) (by kernel_rfl) rfl rfl
def wp_farm_Farm_Do (f:Option Addr) (x_0:Int) (x_1:ByteArray) (x_2:Int) (x_3:Int) (x_4:Int) (x_5:Int) (x_6:Int) (x_7:ByteArray) (x_8:ByteArray) (x_9:Int) (x_10:Option Addr) (x_10l:Nat) (x_10c:Nat) (x_11:Option Addr) (x_11l:Nat) (x_11c:Nat) (x_12:Int) (x_13:Int) (x_14:Bool) (w:World) (Q:Value->World->Prop):Prop :=
 ∀ b0:Nat,w.heap.size <= b0->∀ w1,Ext w w1 ->
 FnP Tryz.prog F_event_Check #[(.agg #[(.int .i64 x_0),(.string x_1),(.int .i64 x_2),(.int .i64 x_3),(.int .i64 x_4),(.int .i64 x_5),(.int .i64 x_6),(.string x_7),(.string x_8),(.int .i64 x_9),(.slice x_10 x_10l x_10c),(.slice x_11 x_11l x_11c),(.int .i64 x_12),(.int .i64 x_13),(.bool x_14)])] w1 fun v2 w2 =>
 Ext w1 w2 /\
 ∃ t3:Int,v2 = (.int .i64 t3) /\
 ((t3 ≠ 0) ->
 ∀ w4,Ext w w4 ->
 Q (.int .i64 t3) w4) /\
 ((t3 = 0) ->
 (((x_0 = 1) ->
 ∀ w4,ExtB [] [b0] w w4 ->
 FnP Tryz.prog F_farm_Farm_Submit #[(.pointer f),(.agg #[(.string x_1),(.int .i64 x_2),(.int .i64 x_3),(.int .i64 x_4),(.int .i64 x_5),(.int .i64 x_6),(.string x_7),(.string x_8),(.int .i64 x_9),(.slice x_10 x_10l x_10c),(.slice x_11 x_11l x_11c)])] w4 fun v5 w5 =>
 Kept [b0] w4 w5 /\
 ∃ t6:Int,∃ t7:Int,v5 = (.tuple #[(.int .i64 t6),(.int .i64 t7)]) /\
 ∀ w8,Ext w5 w8 ->
 Q (.int .i64 t7) w8)) /\
 ((x_0 ≠ 1) ->
 (((x_0 = 2) ->
 ∀ w4,ExtB [] [b0] w w4 ->
 FnP Tryz.prog F_farm_Farm_Tick #[(.pointer f),(.int .i64 x_12)] w4 fun v5 w5 =>
 Kept [b0] w4 w5 /\
 ∃ t6:Int,v5 = (.int .i64 t6) /\
 ∀ w7,Ext w5 w7 ->
 Q (.int .i64 t6) w7)) /\
 ((x_0 ≠ 2) ->
 (((x_0 = 3) ->
 ∀ w4,ExtB [] [b0] w w4 ->
 FnP Tryz.prog F_farm_Farm_Plan #[(.pointer f)] w4 fun v5 w5 =>
 Kept [b0] w4 w5 /\
 ∃ t6:Option Addr,∃ tl7:Nat,∃ tc8:Nat,∃ t9:Int,v5 = (.tuple #[(.slice t6 tl7 tc8),(.int .i64 t9)]) /\
 ∀ w10,Ext w5 w10 ->
 Q (.int .i64 t9) w10)) /\
 ((x_0 ≠ 3) ->
 (((x_0 = 4) ->
 ∀ w4,ExtB [] [b0] w w4 ->
 FnP Tryz.prog F_farm_Farm_Report #[(.pointer f),(.int .i64 x_13),(.bool x_14)] w4 fun v5 w5 =>
 Kept [b0] w4 w5 /\
 ∃ t6:Int,v5 = (.int .i64 t6) /\
 ∀ w7,Ext w5 w7 ->
 Q (.int .i64 t6) w7)) /\
 ((x_0 ≠ 4) ->
 ∀ w4,ExtB [] [b0] w w4 ->
 FnP Tryz.prog F_farm_Farm_Cancel #[(.pointer f),(.int .i64 x_13)] w4 fun v5 w5 =>
 Kept [b0] w4 w5 /\
 ∃ t6:Int,v5 = (.int .i64 t6) /\
 ∀ w7,Ext w5 w7 ->
 Q (.int .i64 t6) w7)))))
theorem ok_farm_Farm_Do (f:Option Addr) (x_0:Int) (x_1:ByteArray) (x_2:Int) (x_3:Int) (x_4:Int) (x_5:Int) (x_6:Int) (x_7:ByteArray) (x_8:ByteArray) (x_9:Int) (x_10:Option Addr) (x_10l:Nat) (x_10c:Nat) (x_11:Option Addr) (x_11l:Nat) (x_11c:Nat) (x_12:Int) (x_13:Int) (x_14:Bool) (w:World) (Q:Value->World->Prop) (h:wp_farm_Farm_Do f x_0 x_1 x_2 x_3 x_4 x_5 x_6 x_7 x_8 x_9 x_10 x_10l x_10c x_11 x_11l x_11c x_12 x_13 x_14 w Q):FnP Tryz.prog F_farm_Farm_Do #[(.pointer f),(.agg #[(.int .i64 x_0),(.string x_1),(.int .i64 x_2),(.int .i64 x_3),(.int .i64 x_4),(.int .i64 x_5),(.int .i64 x_6),(.string x_7),(.string x_8),(.int .i64 x_9),(.slice x_10 x_10l x_10c),(.slice x_11 x_11l x_11c),(.int .i64 x_12),(.int .i64 x_13),(.bool x_14)])] w Q:=by
  have e_:wp_farm_Farm_Do f x_0 x_1 x_2 x_3 x_4 x_5 x_6 x_7 x_8 x_9 x_10 x_10l x_10c x_11 x_11l x_11c x_12 x_13 x_14 w Q = Runs Tryz.prog Q ({ N:=49,wrap:=[],pub:=[],muts:=[31,32,33,34,35],joins:=[] }:Cfg) Tryz.f11 (Tryz.f11.body.getD .skip) [.sc (.ptr f),.agg [.int .i64 x_0,.str x_1,.int .i64 x_2,.int .i64 x_3,.int .i64 x_4,.int .i64 x_5,.int .i64 x_6,.str x_7,.str x_8,.int .i64 x_9,.slc x_10 x_10l x_10c,.slc x_11 x_11l x_11c,.int .i64 x_12,.int .i64 x_13,.bool (.atom true x_14)]] w:=by kernel_rfl
  rw [e_] at h
  exact runs_fn h Tryz.func11 (by kernel_rfl) (fun args w=>Tryz.call11 args w) (by kernel_rfl) (by kernel_rfl) rfl rfl
end Go.Proofs.YtegephkpdlopaaaGreatDoor
set_option linter.unusedVariables false
set_option linter.unusedSimpArgs false
set_option maxRecDepth 100000
namespace Go.Proofs.YtegephkpdlopaaaGreatDoor
open Go.Sx Go.RowKit
abbrev F_shiftbellkeep_sameFarm:FuncId:=10
abbrev F_shiftbellkeep_played:FuncId:=16
abbrev F_shiftbellkeep_bare:FuncId:=18
abbrev F_shiftbellkeep_sameStates:FuncId:=28
abbrev F_slices_EqualFunc_api_State_api_State_api_State_api_State:FuncId:=49
abbrev F_shiftbellkeep_sameStates_1:FuncId:=50
def wp_shiftbellkeep_bare  (w:World) (Q:Value->World->Prop):Prop :=
 ∀ b0:Nat,w.heap.size <= b0->∀ w1,Ext w w1 ->
 Q (.agg #[(.slice none 0 0),(.int .i64 1),(.int .i64 1),(.int .i64 1),(.int .i64 0)]) w1
theorem ok_shiftbellkeep_bare  (w:World) (Q:Value->World->Prop) (h:wp_shiftbellkeep_bare  w Q):FnP Tryz.prog F_shiftbellkeep_bare #[] w Q:=by
  have e_:wp_shiftbellkeep_bare  w Q = Runs Tryz.prog Q ({ N:=3,wrap:=[],pub:=[],muts:=[],joins:=[] }:Cfg) Tryz.f18 (Tryz.f18.body.getD .skip) [] w:=by kernel_rfl
  rw [e_] at h
  exact runs_fn h Tryz.func18 (by kernel_rfl) (fun args w=>Tryz.call18 args w) (by kernel_rfl) (by kernel_rfl) rfl rfl
-- no function shiftbell/shiftbellkeep.farms
def wp_shiftbellkeep_played (x_0:Option Addr) (x_0l:Nat) (x_0c:Nat) (x_1:Int) (x_2:Int) (x_3:Int) (x_4:Int) (l:Option Addr) (ll:Nat) (lc:Nat) (w:World) (Q:Value->World->Prop):Prop :=
 ∀ b0:Nat,w.heap.size <= b0->∀ w1,ExtB [] [b0] w w1 ->
 FnP Tryz.prog F_farm_New #[(.agg #[(.slice x_0 x_0l x_0c),(.int .i64 x_1),(.int .i64 x_2),(.int .i64 x_3),(.int .i64 x_4)])] w1 fun v2 w2 =>
 Ext w1 w2 /\
 ∃ t3:Option Addr,∃ t4:Int,v2 = (.tuple #[(.pointer t3),(.int .i64 t4)]) /\
 ((t4 ≠ 0) ->
 ∀ w5,Ext w2 w5 ->
 Q (.pointer none) w5) /\
 ((t4 = 0) ->
 ∃ (I5:Int->World->Prop) (M5:Int->World->Nat),I5 0 w2 /\
 ∀ (k6:Int) (w7:World),I5 k6 w7 ->
 (((k6 < (ll:Int)) ->
 l ≠ none /\
 (0:Int) <= k6 /\
 (k6:Int) < (ll:Int) /\
 (pIdx l k6 15) ≠ none /\
 ∃ t8:Int,cell w7 (pIdx l k6 15) 0 = some (.int .i64 t8) /\
 ∃ t9:ByteArray,cell w7 (pIdx l k6 15) 1 = some (.string t9) /\
 ∃ t10:Int,cell w7 (pIdx l k6 15) 2 = some (.int .i64 t10) /\
 ∃ t11:Int,cell w7 (pIdx l k6 15) 3 = some (.int .i64 t11) /\
 ∃ t12:Int,cell w7 (pIdx l k6 15) 4 = some (.int .i64 t12) /\
 ∃ t13:Int,cell w7 (pIdx l k6 15) 5 = some (.int .i64 t13) /\
 ∃ t14:Int,cell w7 (pIdx l k6 15) 6 = some (.int .i64 t14) /\
 ∃ t15:ByteArray,cell w7 (pIdx l k6 15) 7 = some (.string t15) /\
 ∃ t16:ByteArray,cell w7 (pIdx l k6 15) 8 = some (.string t16) /\
 ∃ t17:Int,cell w7 (pIdx l k6 15) 9 = some (.int .i64 t17) /\
 ∃ t18:Option Addr,∃ tl19:Nat,∃ tc20:Nat,cell w7 (pIdx l k6 15) 10 = some (.slice t18 tl19 tc20) /\
 ∃ t21:Option Addr,∃ tl22:Nat,∃ tc23:Nat,cell w7 (pIdx l k6 15) 11 = some (.slice t21 tl22 tc23) /\
 ∃ t24:Int,cell w7 (pIdx l k6 15) 12 = some (.int .i64 t24) /\
 ∃ t25:Int,cell w7 (pIdx l k6 15) 13 = some (.int .i64 t25) /\
 ∃ t26:Bool,cell w7 (pIdx l k6 15) 14 = some (.bool t26) /\
 ∀ b27:Nat,w7.heap.size <= b27->∀ w28,ExtB [] [b0,b27] w7 w28 ->
 FnP Tryz.prog F_farm_Farm_Do #[(.pointer t3),(.agg #[(.int .i64 t8),(.string t9),(.int .i64 t10),(.int .i64 t11),(.int .i64 t12),(.int .i64 t13),(.int .i64 t14),(.string t15),(.string t16),(.int .i64 t17),(.slice t18 tl19 tc20),(.slice t21 tl22 tc23),(.int .i64 t24),(.int .i64 t25),(.bool t26)])] w28 fun v29 w29 =>
 Kept [b0,b27] w28 w29 /\
 ∃ t30:Int,v29 = (.int .i64 t30) /\
 InR .i64 (k6 + 1) /\
 (I5 (k6 + 1) w29/\M5 (k6 + 1) w29 < M5 k6 w7))) /\
 (((ll:Int) <= k6) ->
 ∀ w8,Ext w7 w8 ->
 Q (.pointer t3) w8))
theorem ok_shiftbellkeep_played (x_0:Option Addr) (x_0l:Nat) (x_0c:Nat) (x_1:Int) (x_2:Int) (x_3:Int) (x_4:Int) (l:Option Addr) (ll:Nat) (lc:Nat) (w:World) (Q:Value->World->Prop) (h:wp_shiftbellkeep_played x_0 x_0l x_0c x_1 x_2 x_3 x_4 l ll lc w Q):FnP Tryz.prog F_shiftbellkeep_played #[(.agg #[(.slice x_0 x_0l x_0c),(.int .i64 x_1),(.int .i64 x_2),(.int .i64 x_3),(.int .i64 x_4)]),(.slice l ll lc)] w Q:=by
  have e_:wp_shiftbellkeep_played x_0 x_0l x_0c x_1 x_2 x_3 x_4 l ll lc w Q = Runs Tryz.prog Q ({ N:=27,wrap:=[],pub:=[],muts:=[31,32,33,11],joins:=[] }:Cfg) Tryz.f16 (Tryz.f16.body.getD .skip) [.agg [.slc x_0 x_0l x_0c,.int .i64 x_1,.int .i64 x_2,.int .i64 x_3,.int .i64 x_4],.sc (.slc l ll lc)] w:=by kernel_rfl
  rw [e_] at h
  exact runs_fn h Tryz.func16 (by kernel_rfl) (fun args w=>Tryz.call16 args w) (by kernel_rfl) (by kernel_rfl) rfl rfl
def wp_shiftbellkeep_sameStates (a:Option Addr) (al:Nat) (ac:Nat) (b:Option Addr) (bl:Nat) (bc:Nat) (w:World) (Q:Value->World->Prop):Prop :=
 ∀ w0,Ext w w0 ->
 FnP Tryz.prog F_slices_EqualFunc_api_State_api_State_api_State_api_State #[(.slice a al ac),(.slice b bl bc),(.func (.func 50) #[] #[])] w0 fun v1 w1 =>
 Ext w0 w1 /\
 ∃ t2:Bool,v1 = (.bool t2) /\
 ∀ w3,Ext w w3 ->
 Q (.bool t2) w3
theorem ok_shiftbellkeep_sameStates (a:Option Addr) (al:Nat) (ac:Nat) (b:Option Addr) (bl:Nat) (bc:Nat) (w:World) (Q:Value->World->Prop) (h:wp_shiftbellkeep_sameStates a al ac b bl bc w Q):FnP Tryz.prog F_shiftbellkeep_sameStates #[(.slice a al ac),(.slice b bl bc)] w Q:=by
  have e_:wp_shiftbellkeep_sameStates a al ac b bl bc w Q = Runs Tryz.prog Q ({ N:=8,wrap:=[],pub:=[],muts:=[],joins:=[] }:Cfg) Tryz.f28 (Tryz.f28.body.getD .skip) [.sc (.slc a al ac),.sc (.slc b bl bc)] w:=by kernel_rfl
  rw [e_] at h
  exact runs_fn h Tryz.func28 (by kernel_rfl) (fun args w=>Tryz.call28 args w) (by kernel_rfl) (by kernel_rfl) rfl rfl
def wp_shiftbellkeep_sameStates_1 (x_0:ByteArray) (x_1:Int) (x_2:Int) (x_3:Int) (x_4:Int) (x_5:Int) (x_6:ByteArray) (x_7:ByteArray) (x_8:Int) (x_9:Option Addr) (x_9l:Nat) (x_9c:Nat) (x_10:Option Addr) (x_10l:Nat) (x_10c:Nat) (x_11:Int) (x_12:Int) (x_13:Int) (x_14:Int) (x_15:Int) (y_0:ByteArray) (y_1:Int) (y_2:Int) (y_3:Int) (y_4:Int) (y_5:Int) (y_6:ByteArray) (y_7:ByteArray) (y_8:Int) (y_9:Option Addr) (y_9l:Nat) (y_9c:Nat) (y_10:Option Addr) (y_10l:Nat) (y_10c:Nat) (y_11:Int) (y_12:Int) (y_13:Int) (y_14:Int) (y_15:Int) (w:World) (Q:Value->World->Prop):Prop :=
 ∀ b0:Nat,w.heap.size <= b0->∀ b1:Nat,w.heap.size <= b1->∀ w2,Ext w w2 ->
 FnP Tryz.prog F_shiftbellkeep_sameJob #[(.agg #[(.string x_0),(.int .i64 x_1),(.int .i64 x_2),(.int .i64 x_3),(.int .i64 x_4),(.int .i64 x_5),(.string x_6),(.string x_7),(.int .i64 x_8),(.slice x_9 x_9l x_9c),(.slice x_10 x_10l x_10c)]),(.agg #[(.string y_0),(.int .i64 y_1),(.int .i64 y_2),(.int .i64 y_3),(.int .i64 y_4),(.int .i64 y_5),(.string y_6),(.string y_7),(.int .i64 y_8),(.slice y_9 y_9l y_9c),(.slice y_10 y_10l y_10c)])] w2 fun v3 w3 =>
 Ext w2 w3 /\
 ∃ t4:Bool,v3 = (.bool t4) /\
 ∀ w5,Ext w w5 ->
 Q (.bool (((((t4 && (decide (x_11 = y_11))) && (decide (x_12 = y_12))) && (decide (x_13 = y_13))) && (decide (x_14 = y_14))) && (decide (x_15 = y_15)))) w5
theorem ok_shiftbellkeep_sameStates_1 (x_0:ByteArray) (x_1:Int) (x_2:Int) (x_3:Int) (x_4:Int) (x_5:Int) (x_6:ByteArray) (x_7:ByteArray) (x_8:Int) (x_9:Option Addr) (x_9l:Nat) (x_9c:Nat) (x_10:Option Addr) (x_10l:Nat) (x_10c:Nat) (x_11:Int) (x_12:Int) (x_13:Int) (x_14:Int) (x_15:Int) (y_0:ByteArray) (y_1:Int) (y_2:Int) (y_3:Int) (y_4:Int) (y_5:Int) (y_6:ByteArray) (y_7:ByteArray) (y_8:Int) (y_9:Option Addr) (y_9l:Nat) (y_9c:Nat) (y_10:Option Addr) (y_10l:Nat) (y_10c:Nat) (y_11:Int) (y_12:Int) (y_13:Int) (y_14:Int) (y_15:Int) (w:World) (Q:Value->World->Prop) (h:wp_shiftbellkeep_sameStates_1 x_0 x_1 x_2 x_3 x_4 x_5 x_6 x_7 x_8 x_9 x_9l x_9c x_10 x_10l x_10c x_11 x_12 x_13 x_14 x_15 y_0 y_1 y_2 y_3 y_4 y_5 y_6 y_7 y_8 y_9 y_9l y_9c y_10 y_10l y_10c y_11 y_12 y_13 y_14 y_15 w Q):FnP Tryz.prog F_shiftbellkeep_sameStates_1 #[(.agg #[(.string x_0),(.int .i64 x_1),(.int .i64 x_2),(.int .i64 x_3),(.int .i64 x_4),(.int .i64 x_5),(.string x_6),(.string x_7),(.int .i64 x_8),(.slice x_9 x_9l x_9c),(.slice x_10 x_10l x_10c),(.int .i64 x_11),(.int .i64 x_12),(.int .i64 x_13),(.int .i64 x_14),(.int .i64 x_15)]),(.agg #[(.string y_0),(.int .i64 y_1),(.int .i64 y_2),(.int .i64 y_3),(.int .i64 y_4),(.int .i64 y_5),(.string y_6),(.string y_7),(.int .i64 y_8),(.slice y_9 y_9l y_9c),(.slice y_10 y_10l y_10c),(.int .i64 y_11),(.int .i64 y_12),(.int .i64 y_13),(.int .i64 y_14),(.int .i64 y_15)])] w Q:=by
  have e_:wp_shiftbellkeep_sameStates_1 x_0 x_1 x_2 x_3 x_4 x_5 x_6 x_7 x_8 x_9 x_9l x_9c x_10 x_10l x_10c x_11 x_12 x_13 x_14 x_15 y_0 y_1 y_2 y_3 y_4 y_5 y_6 y_7 y_8 y_9 y_9l y_9c y_10 y_10l y_10c y_11 y_12 y_13 y_14 y_15 w Q = Runs Tryz.prog Q ({ N:=45,wrap:=[],pub:=[],muts:=[],joins:=[] }:Cfg) Tryz.f50 (Tryz.f50.body.getD .skip) [.agg [.str x_0,.int .i64 x_1,.int .i64 x_2,.int .i64 x_3,.int .i64 x_4,.int .i64 x_5,.str x_6,.str x_7,.int .i64 x_8,.slc x_9 x_9l x_9c,.slc x_10 x_10l x_10c,.int .i64 x_11,.int .i64 x_12,.int .i64 x_13,.int .i64 x_14,.int .i64 x_15],.agg [.str y_0,.int .i64 y_1,.int .i64 y_2,.int .i64 y_3,.int .i64 y_4,.int .i64 y_5,.str y_6,.str y_7,.int .i64 y_8,.slc y_9 y_9l y_9c,.slc y_10 y_10l y_10c,.int .i64 y_11,.int .i64 y_12,.int .i64 y_13,.int .i64 y_14,.int .i64 y_15]] w:=by kernel_rfl
  rw [e_] at h
  exact runs_fn h Tryz.func50 (by kernel_rfl) (fun args w=>Tryz.call50 args w) (by kernel_rfl) (by kernel_rfl) rfl rfl
def wp_slices_EqualFunc_api_State_api_State_api_State_api_State (s1:Option Addr) (s1l:Nat) (s1c:Nat) (s2:Option Addr) (s2l:Nat) (s2c:Nat) (eq:Value) (w:World) (Q:Value->World->Prop):Prop :=
 (((s1l:Int) ≠ (s2l:Int)) ->
 ∀ w0,Ext w w0 ->
 Q (.bool false) w0) /\
 (((s1l:Int) = (s2l:Int)) ->
 ∃ (I0:Int->World->Prop) (M0:Int->World->Nat),I0 0 w /\
 ∀ (k1:Int) (w2:World),I0 k1 w2 ->
 (((k1 < (s1l:Int)) ->
 s1 ≠ none /\
 (0:Int) <= k1 /\
 (k1:Int) < (s1l:Int) /\
 (pIdx s1 k1 16) ≠ none /\
 ∃ t3:ByteArray,cell w2 (pIdx s1 k1 16) 0 = some (.string t3) /\
 ∃ t4:Int,cell w2 (pIdx s1 k1 16) 1 = some (.int .i64 t4) /\
 ∃ t5:Int,cell w2 (pIdx s1 k1 16) 2 = some (.int .i64 t5) /\
 ∃ t6:Int,cell w2 (pIdx s1 k1 16) 3 = some (.int .i64 t6) /\
 ∃ t7:Int,cell w2 (pIdx s1 k1 16) 4 = some (.int .i64 t7) /\
 ∃ t8:Int,cell w2 (pIdx s1 k1 16) 5 = some (.int .i64 t8) /\
 ∃ t9:ByteArray,cell w2 (pIdx s1 k1 16) 6 = some (.string t9) /\
 ∃ t10:ByteArray,cell w2 (pIdx s1 k1 16) 7 = some (.string t10) /\
 ∃ t11:Int,cell w2 (pIdx s1 k1 16) 8 = some (.int .i64 t11) /\
 ∃ t12:Option Addr,∃ tl13:Nat,∃ tc14:Nat,cell w2 (pIdx s1 k1 16) 9 = some (.slice t12 tl13 tc14) /\
 ∃ t15:Option Addr,∃ tl16:Nat,∃ tc17:Nat,cell w2 (pIdx s1 k1 16) 10 = some (.slice t15 tl16 tc17) /\
 ∃ t18:Int,cell w2 (pIdx s1 k1 16) 11 = some (.int .i64 t18) /\
 ∃ t19:Int,cell w2 (pIdx s1 k1 16) 12 = some (.int .i64 t19) /\
 ∃ t20:Int,cell w2 (pIdx s1 k1 16) 13 = some (.int .i64 t20) /\
 ∃ t21:Int,cell w2 (pIdx s1 k1 16) 14 = some (.int .i64 t21) /\
 ∃ t22:Int,cell w2 (pIdx s1 k1 16) 15 = some (.int .i64 t22) /\
 ∀ b23:Nat,w2.heap.size <= b23->s2 ≠ none /\
 (0:Int) <= k1 /\
 (k1:Int) < (s2l:Int) /\
 (pIdx s2 k1 16) ≠ none /\
 ∃ t24:ByteArray,cell w2 (pIdx s2 k1 16) 0 = some (.string t24) /\
 ∃ t25:Int,cell w2 (pIdx s2 k1 16) 1 = some (.int .i64 t25) /\
 ∃ t26:Int,cell w2 (pIdx s2 k1 16) 2 = some (.int .i64 t26) /\
 ∃ t27:Int,cell w2 (pIdx s2 k1 16) 3 = some (.int .i64 t27) /\
 ∃ t28:Int,cell w2 (pIdx s2 k1 16) 4 = some (.int .i64 t28) /\
 ∃ t29:Int,cell w2 (pIdx s2 k1 16) 5 = some (.int .i64 t29) /\
 ∃ t30:ByteArray,cell w2 (pIdx s2 k1 16) 6 = some (.string t30) /\
 ∃ t31:ByteArray,cell w2 (pIdx s2 k1 16) 7 = some (.string t31) /\
 ∃ t32:Int,cell w2 (pIdx s2 k1 16) 8 = some (.int .i64 t32) /\
 ∃ t33:Option Addr,∃ tl34:Nat,∃ tc35:Nat,cell w2 (pIdx s2 k1 16) 9 = some (.slice t33 tl34 tc35) /\
 ∃ t36:Option Addr,∃ tl37:Nat,∃ tc38:Nat,cell w2 (pIdx s2 k1 16) 10 = some (.slice t36 tl37 tc38) /\
 ∃ t39:Int,cell w2 (pIdx s2 k1 16) 11 = some (.int .i64 t39) /\
 ∃ t40:Int,cell w2 (pIdx s2 k1 16) 12 = some (.int .i64 t40) /\
 ∃ t41:Int,cell w2 (pIdx s2 k1 16) 13 = some (.int .i64 t41) /\
 ∃ t42:Int,cell w2 (pIdx s2 k1 16) 14 = some (.int .i64 t42) /\
 ∃ t43:Int,cell w2 (pIdx s2 k1 16) 15 = some (.int .i64 t43) /\
 ∀ b44:Nat,w2.heap.size <= b44->∀ w45,Ext w2 w45 ->
 FnVP Tryz.prog eq [(.agg #[(.string t3),(.int .i64 t4),(.int .i64 t5),(.int .i64 t6),(.int .i64 t7),(.int .i64 t8),(.string t9),(.string t10),(.int .i64 t11),(.slice t12 tl13 tc14),(.slice t15 tl16 tc17),(.int .i64 t18),(.int .i64 t19),(.int .i64 t20),(.int .i64 t21),(.int .i64 t22)]),(.agg #[(.string t24),(.int .i64 t25),(.int .i64 t26),(.int .i64 t27),(.int .i64 t28),(.int .i64 t29),(.string t30),(.string t31),(.int .i64 t32),(.slice t33 tl34 tc35),(.slice t36 tl37 tc38),(.int .i64 t39),(.int .i64 t40),(.int .i64 t41),(.int .i64 t42),(.int .i64 t43)])] w45 fun v46 w46 =>
 Ext w45 w46 /\
 ∃ t47:Bool,v46 = (.bool t47) /\
 ((t47 = false) ->
 ∀ w48,Ext w2 w48 ->
 Q (.bool false) w48) /\
 ((t47 = true) ->
 InR .i64 (k1 + 1) /\
 (I0 (k1 + 1) w2/\M0 (k1 + 1) w2 < M0 k1 w2)))) /\
 (((s1l:Int) <= k1) ->
 ∀ w3,Ext w2 w3 ->
 Q (.bool true) w3))
theorem ok_slices_EqualFunc_api_State_api_State_api_State_api_State (s1:Option Addr) (s1l:Nat) (s1c:Nat) (s2:Option Addr) (s2l:Nat) (s2c:Nat) (eq:Value) (w:World) (Q:Value->World->Prop) (h:wp_slices_EqualFunc_api_State_api_State_api_State_api_State s1 s1l s1c s2 s2l s2c eq w Q):FnP Tryz.prog F_slices_EqualFunc_api_State_api_State_api_State_api_State #[(.slice s1 s1l s1c),(.slice s2 s2l s2c),eq] w Q:=by
  have e_:wp_slices_EqualFunc_api_State_api_State_api_State_api_State s1 s1l s1c s2 s2l s2c eq w Q = Runs Tryz.prog Q ({ N:=32,wrap:=[],pub:=[],muts:=[],joins:=[] }:Cfg) Tryz.f49 (Tryz.f49.body.getD .skip) [.sc (.slc s1 s1l s1c),.sc (.slc s2 s2l s2c),.sc (.val eq)] w:=by kernel_rfl
  rw [e_] at h
  exact runs_fn h Tryz.func49 (by kernel_rfl) (fun args w=>Tryz.call49 args w) (by kernel_rfl) (by kernel_rfl) rfl rfl
def wp_shiftbellkeep_sameFarm (f:Option Addr) (g:Option Addr) (w:World) (Q:Value->World->Prop):Prop :=
 ∀ w0,Ext w w0 ->
 FnP Tryz.prog F_farm_Farm_Now #[(.pointer f)] w0 fun v1 w1 =>
 Ext w0 w1 /\
 ∃ t2:Int,v1 = (.int .i64 t2) /\
 ∀ w3,Ext w w3 ->
 FnP Tryz.prog F_farm_Farm_Now #[(.pointer g)] w3 fun v4 w4 =>
 Ext w3 w4 /\
 ∃ t5:Int,v4 = (.int .i64 t5) /\
 (((t2 = t5) ->
 ∀ w6,Ext w w6 ->
 FnP Tryz.prog F_farm_Farm_Jobs #[(.pointer f)] w6 fun v7 w7 =>
 Ext w6 w7 /\
 ∃ t8:Option Addr,∃ tl9:Nat,∃ tc10:Nat,v7 = (.slice t8 tl9 tc10) /\
 ∀ w11,Ext w7 w11 ->
 FnP Tryz.prog F_farm_Farm_Jobs #[(.pointer g)] w11 fun v12 w12 =>
 Ext w11 w12 /\
 ∃ t13:Option Addr,∃ tl14:Nat,∃ tc15:Nat,v12 = (.slice t13 tl14 tc15) /\
 ∀ w16,Ext w12 w16 ->
 FnP Tryz.prog F_shiftbellkeep_sameStates #[(.slice t8 tl9 tc10),(.slice t13 tl14 tc15)] w16 fun v17 w17 =>
 Ext w16 w17 /\
 ∃ t18:Bool,v17 = (.bool t18) /\
 (((t18 = true) ->
 ∀ w19,Ext w12 w19 ->
 FnP Tryz.prog F_farm_Farm_Hosts #[(.pointer f)] w19 fun v20 w20 =>
 Ext w19 w20 /\
 ∃ t21:Option Addr,∃ tl22:Nat,∃ tc23:Nat,v20 = (.slice t21 tl22 tc23) /\
 ∀ w24,Ext w20 w24 ->
 FnP Tryz.prog F_farm_Farm_Hosts #[(.pointer g)] w24 fun v25 w25 =>
 Ext w24 w25 /\
 ∃ t26:Option Addr,∃ tl27:Nat,∃ tc28:Nat,v25 = (.slice t26 tl27 tc28) /\
 ∀ w29,Ext w25 w29 ->
 FnP Tryz.prog F_shiftbellkeep_sameHosts #[(.slice t21 tl22 tc23),(.slice t26 tl27 tc28)] w29 fun v30 w30 =>
 Ext w29 w30 /\
 ∃ t31:Bool,v30 = (.bool t31) /\
 ∀ w32,Ext w25 w32 ->
 Q (.bool t31) w32)) /\
 ((t18 = false) ->
 ∀ w19,Ext w12 w19 ->
 Q (.bool false) w19))) /\
 ((t2 ≠ t5) ->
 ∀ w6,Ext w w6 ->
 Q (.bool false) w6)
theorem ok_shiftbellkeep_sameFarm (f:Option Addr) (g:Option Addr) (w:World) (Q:Value->World->Prop) (h:wp_shiftbellkeep_sameFarm f g w Q):FnP Tryz.prog F_shiftbellkeep_sameFarm #[(.pointer f),(.pointer g)] w Q:=by
  have e_:wp_shiftbellkeep_sameFarm f g w Q = Runs Tryz.prog Q ({ N:=24,wrap:=[],pub:=[],muts:=[],joins:=[] }:Cfg) Tryz.f10 (Tryz.f10.body.getD .skip) [.sc (.ptr f),.sc (.ptr g)] w:=by kernel_rfl
  rw [e_] at h
  exact runs_fn h Tryz.func10 (by kernel_rfl) (fun args w=>Tryz.call10 args w) (by kernel_rfl) (by kernel_rfl) rfl rfl
end Go.Proofs.YtegephkpdlopaaaGreatDoor
set_option linter.unusedVariables false
set_option linter.unusedSimpArgs false
set_option maxRecDepth 100000
namespace Go.Proofs.YtegephkpdlopaaaGreatDoor
open Go.Sx Go.RowKit
abbrev F_shiftbellkeep_SafeSame:FuncId:=5
abbrev F_shiftbellkeep_safes:FuncId:=6
abbrev F_safe_New:FuncId:=7
abbrev F_safe_Safe_Do:FuncId:=8
abbrev F_safe_Safe_Farm:FuncId:=9
abbrev F_safe_Safe_Bytes:FuncId:=12
abbrev F_safe_Safe_Sync:FuncId:=13
abbrev F_safe_Safe_Crash:FuncId:=14
abbrev F_safe_Replay:FuncId:=15
def wp_safe_Replay (x_0:Option Addr) (x_0l:Nat) (x_0c:Nat) (x_1:Int) (x_2:Int) (x_3:Int) (x_4:Int) (l:Option Addr) (ll:Nat) (lc:Nat) (w:World) (Q:Value->World->Prop):Prop :=
 ∀ b0:Nat,w.heap.size <= b0->∀ w1,ExtB [] [b0] w w1 ->
 FnP Tryz.prog F_farm_New #[(.agg #[(.slice x_0 x_0l x_0c),(.int .i64 x_1),(.int .i64 x_2),(.int .i64 x_3),(.int .i64 x_4)])] w1 fun v2 w2 =>
 Ext w1 w2 /\
 ∃ t3:Option Addr,∃ t4:Int,v2 = (.tuple #[(.pointer t3),(.int .i64 t4)]) /\
 ((t4 ≠ 0) ->
 ∀ w5,Ext w2 w5 ->
 Q (.tuple #[(.pointer none),(.int .i64 t4)]) w5) /\
 ((t4 = 0) ->
 ∃ (I5:Int->World->Prop) (M5:Int->World->Nat),I5 0 w2 /\
 ∀ (k6:Int) (w7:World),I5 k6 w7 ->
 (((k6 < (ll:Int)) ->
 l ≠ none /\
 (0:Int) <= k6 /\
 (k6:Int) < (ll:Int) /\
 (pIdx l k6 15) ≠ none /\
 ∃ t8:Int,cell w7 (pIdx l k6 15) 0 = some (.int .i64 t8) /\
 ∃ t9:ByteArray,cell w7 (pIdx l k6 15) 1 = some (.string t9) /\
 ∃ t10:Int,cell w7 (pIdx l k6 15) 2 = some (.int .i64 t10) /\
 ∃ t11:Int,cell w7 (pIdx l k6 15) 3 = some (.int .i64 t11) /\
 ∃ t12:Int,cell w7 (pIdx l k6 15) 4 = some (.int .i64 t12) /\
 ∃ t13:Int,cell w7 (pIdx l k6 15) 5 = some (.int .i64 t13) /\
 ∃ t14:Int,cell w7 (pIdx l k6 15) 6 = some (.int .i64 t14) /\
 ∃ t15:ByteArray,cell w7 (pIdx l k6 15) 7 = some (.string t15) /\
 ∃ t16:ByteArray,cell w7 (pIdx l k6 15) 8 = some (.string t16) /\
 ∃ t17:Int,cell w7 (pIdx l k6 15) 9 = some (.int .i64 t17) /\
 ∃ t18:Option Addr,∃ tl19:Nat,∃ tc20:Nat,cell w7 (pIdx l k6 15) 10 = some (.slice t18 tl19 tc20) /\
 ∃ t21:Option Addr,∃ tl22:Nat,∃ tc23:Nat,cell w7 (pIdx l k6 15) 11 = some (.slice t21 tl22 tc23) /\
 ∃ t24:Int,cell w7 (pIdx l k6 15) 12 = some (.int .i64 t24) /\
 ∃ t25:Int,cell w7 (pIdx l k6 15) 13 = some (.int .i64 t25) /\
 ∃ t26:Bool,cell w7 (pIdx l k6 15) 14 = some (.bool t26) /\
 ∀ b27:Nat,w7.heap.size <= b27->∀ w28,ExtB [] [b0,b27] w7 w28 ->
 FnP Tryz.prog F_farm_Farm_Do #[(.pointer t3),(.agg #[(.int .i64 t8),(.string t9),(.int .i64 t10),(.int .i64 t11),(.int .i64 t12),(.int .i64 t13),(.int .i64 t14),(.string t15),(.string t16),(.int .i64 t17),(.slice t18 tl19 tc20),(.slice t21 tl22 tc23),(.int .i64 t24),(.int .i64 t25),(.bool t26)])] w28 fun v29 w29 =>
 Kept [b0,b27] w28 w29 /\
 ∃ t30:Int,v29 = (.int .i64 t30) /\
 InR .i64 (k6 + 1) /\
 (I5 (k6 + 1) w29/\M5 (k6 + 1) w29 < M5 k6 w7))) /\
 (((ll:Int) <= k6) ->
 ∀ w8,Ext w7 w8 ->
 Q (.tuple #[(.pointer t3),(.int .i64 0)]) w8))
theorem ok_safe_Replay (x_0:Option Addr) (x_0l:Nat) (x_0c:Nat) (x_1:Int) (x_2:Int) (x_3:Int) (x_4:Int) (l:Option Addr) (ll:Nat) (lc:Nat) (w:World) (Q:Value->World->Prop) (h:wp_safe_Replay x_0 x_0l x_0c x_1 x_2 x_3 x_4 l ll lc w Q):FnP Tryz.prog F_safe_Replay #[(.agg #[(.slice x_0 x_0l x_0c),(.int .i64 x_1),(.int .i64 x_2),(.int .i64 x_3),(.int .i64 x_4)]),(.slice l ll lc)] w Q:=by
  have e_:wp_safe_Replay x_0 x_0l x_0c x_1 x_2 x_3 x_4 l ll lc w Q = Runs Tryz.prog Q ({ N:=29,wrap:=[],pub:=[],muts:=[31,32,33,11,8,13,14,24,36,37],joins:=[] }:Cfg) Tryz.f15 (Tryz.f15.body.getD .skip) [.agg [.slc x_0 x_0l x_0c,.int .i64 x_1,.int .i64 x_2,.int .i64 x_3,.int .i64 x_4],.sc (.slc l ll lc)] w:=by kernel_rfl
  rw [e_] at h
  exact runs_fn h Tryz.func15 (by kernel_rfl) (fun args w=>Tryz.call15 args w) (by kernel_rfl) (by kernel_rfl) rfl rfl
def wp_safe_New (x_0:Option Addr) (x_0l:Nat) (x_0c:Nat) (x_1:Int) (x_2:Int) (x_3:Int) (x_4:Int) (w:World) (Q:Value->World->Prop):Prop :=
 ∀ b0:Nat,w.heap.size <= b0->∀ w1,ExtB [] [b0] w w1 ->
 FnP Tryz.prog F_farm_New #[(.agg #[(.slice x_0 x_0l x_0c),(.int .i64 x_1),(.int .i64 x_2),(.int .i64 x_3),(.int .i64 x_4)])] w1 fun v2 w2 =>
 Ext w1 w2 /\
 ∃ t3:Option Addr,∃ t4:Int,v2 = (.tuple #[(.pointer t3),(.int .i64 t4)]) /\
 ((t4 ≠ 0) ->
 ∀ w5,Ext w2 w5 ->
 Q (.tuple #[(.pointer none),(.int .i64 t4)]) w5) /\
 ((t4 = 0) ->
 ∀ w5,ExtB [] [b0] w2 w5 ->
 FnP Tryz.prog F_farm_Farm_Hosts #[(.pointer t3)] w5 fun v6 w6 =>
 Ext w5 w6 /\
 ∃ t7:Option Addr,∃ tl8:Nat,∃ tc9:Nat,v6 = (.slice t7 tl8 tc9) /\
 ∀ w10,ExtB [] [b0] w6 w10 ->
 FnP Tryz.prog F_journal_New #[] w10 fun v11 w11 =>
 Ext w10 w11 /\
 ∃ t12:Option Addr,v11 = (.pointer t12) /\
 ∀ w13,ExtB [] [b0] w11 w13 ->
 New w13 63 [(.slice t7 tl8 tc9),(.int .i64 x_1),(.int .i64 x_2),(.int .i64 x_3),(.int .i64 x_4),(.pointer t3),(.pointer t12)] fun p14 w14 =>
 ∀ w15,Ext w14 w15 ->
 Q (.tuple #[(.pointer p14),(.int .i64 0)]) w15)
theorem ok_safe_New (x_0:Option Addr) (x_0l:Nat) (x_0c:Nat) (x_1:Int) (x_2:Int) (x_3:Int) (x_4:Int) (w:World) (Q:Value->World->Prop) (h:wp_safe_New x_0 x_0l x_0c x_1 x_2 x_3 x_4 w Q):FnP Tryz.prog F_safe_New #[(.agg #[(.slice x_0 x_0l x_0c),(.int .i64 x_1),(.int .i64 x_2),(.int .i64 x_3),(.int .i64 x_4)])] w Q:=by
  have e_:wp_safe_New x_0 x_0l x_0c x_1 x_2 x_3 x_4 w Q = Runs Tryz.prog Q ({ N:=23,wrap:=[],pub:=[22],muts:=[31,32,33,11,8,13,14,24,36,37],joins:=[] }:Cfg) Tryz.f7 (Tryz.f7.body.getD .skip) [.agg [.slc x_0 x_0l x_0c,.int .i64 x_1,.int .i64 x_2,.int .i64 x_3,.int .i64 x_4]] w:=by kernel_rfl
  rw [e_] at h
  exact runs_fn h Tryz.func7 (by kernel_rfl) (fun args w=>Tryz.call7 args w) (by kernel_rfl) (by kernel_rfl) rfl rfl
def wp_safe_Safe_Do (s:Option Addr) (x_0:Int) (x_1:ByteArray) (x_2:Int) (x_3:Int) (x_4:Int) (x_5:Int) (x_6:Int) (x_7:ByteArray) (x_8:ByteArray) (x_9:Int) (x_10:Option Addr) (x_10l:Nat) (x_10c:Nat) (x_11:Option Addr) (x_11l:Nat) (x_11c:Nat) (x_12:Int) (x_13:Int) (x_14:Bool) (w:World) (Q:Value->World->Prop):Prop :=
 ∀ b0:Nat,w.heap.size <= b0->∀ w1,Ext w w1 ->
 FnP Tryz.prog F_event_Check #[(.agg #[(.int .i64 x_0),(.string x_1),(.int .i64 x_2),(.int .i64 x_3),(.int .i64 x_4),(.int .i64 x_5),(.int .i64 x_6),(.string x_7),(.string x_8),(.int .i64 x_9),(.slice x_10 x_10l x_10c),(.slice x_11 x_11l x_11c),(.int .i64 x_12),(.int .i64 x_13),(.bool x_14)])] w1 fun v2 w2 =>
 Ext w1 w2 /\
 ∃ t3:Int,v2 = (.int .i64 t3) /\
 ((t3 ≠ 0) ->
 ∀ w4,Ext w w4 ->
 Q (.int .i64 t3) w4) /\
 ((t3 = 0) ->
 ∀ w4,ExtB [] [b0] w w4 ->
 FnP Tryz.prog F_journal_Frame #[(.agg #[(.int .i64 x_0),(.string x_1),(.int .i64 x_2),(.int .i64 x_3),(.int .i64 x_4),(.int .i64 x_5),(.int .i64 x_6),(.string x_7),(.string x_8),(.int .i64 x_9),(.slice x_10 x_10l x_10c),(.slice x_11 x_11l x_11c),(.int .i64 x_12),(.int .i64 x_13),(.bool x_14)])] w4 fun v5 w5 =>
 Ext w4 w5 /\
 ∃ t6:Option Addr,∃ tl7:Nat,∃ tc8:Nat,∃ t9:Int,v5 = (.tuple #[(.slice t6 tl7 tc8),(.int .i64 t9)]) /\
 s ≠ none /\
 s ≠ none /\
 ∃ t10:Option Addr,cell w5 (pAdd s 6) 0 = some (.pointer t10) /\
 ∀ w11,ExtB [] [b0] w5 w11 ->
 FnP Tryz.prog F_journal_Disk_Write #[(.pointer t10),(.slice t6 tl7 tc8)] w11 fun v12 w12 =>
 Kept [b0] w11 w12 /\
 ∃ t13:Int,v12 = (.int .i64 t13) /\
 ((t13 ≠ 0) ->
 ∀ w14,Ext w12 w14 ->
 Q (.int .i64 t13) w14) /\
 ((t13 = 0) ->
 s ≠ none /\
 s ≠ none /\
 ∃ t14:Option Addr,cell w12 (pAdd s 5) 0 = some (.pointer t14) /\
 ∀ w15,ExtB [] [b0] w12 w15 ->
 FnP Tryz.prog F_farm_Farm_Do #[(.pointer t14),(.agg #[(.int .i64 x_0),(.string x_1),(.int .i64 x_2),(.int .i64 x_3),(.int .i64 x_4),(.int .i64 x_5),(.int .i64 x_6),(.string x_7),(.string x_8),(.int .i64 x_9),(.slice x_10 x_10l x_10c),(.slice x_11 x_11l x_11c),(.int .i64 x_12),(.int .i64 x_13),(.bool x_14)])] w15 fun v16 w16 =>
 Kept [b0] w15 w16 /\
 ∃ t17:Int,v16 = (.int .i64 t17) /\
 ∀ w18,Ext w16 w18 ->
 Q (.int .i64 t17) w18))
theorem ok_safe_Safe_Do (s:Option Addr) (x_0:Int) (x_1:ByteArray) (x_2:Int) (x_3:Int) (x_4:Int) (x_5:Int) (x_6:Int) (x_7:ByteArray) (x_8:ByteArray) (x_9:Int) (x_10:Option Addr) (x_10l:Nat) (x_10c:Nat) (x_11:Option Addr) (x_11l:Nat) (x_11c:Nat) (x_12:Int) (x_13:Int) (x_14:Bool) (w:World) (Q:Value->World->Prop) (h:wp_safe_Safe_Do s x_0 x_1 x_2 x_3 x_4 x_5 x_6 x_7 x_8 x_9 x_10 x_10l x_10c x_11 x_11l x_11c x_12 x_13 x_14 w Q):FnP Tryz.prog F_safe_Safe_Do #[(.pointer s),(.agg #[(.int .i64 x_0),(.string x_1),(.int .i64 x_2),(.int .i64 x_3),(.int .i64 x_4),(.int .i64 x_5),(.int .i64 x_6),(.string x_7),(.string x_8),(.int .i64 x_9),(.slice x_10 x_10l x_10c),(.slice x_11 x_11l x_11c),(.int .i64 x_12),(.int .i64 x_13),(.bool x_14)])] w Q:=by
  have e_:wp_safe_Safe_Do s x_0 x_1 x_2 x_3 x_4 x_5 x_6 x_7 x_8 x_9 x_10 x_10l x_10c x_11 x_11l x_11c x_12 x_13 x_14 w Q = Runs Tryz.prog Q ({ N:=34,wrap:=[],pub:=[],muts:=[31,32,33,11,8,13,14,24,36,37],joins:=[] }:Cfg) Tryz.f8 (Tryz.f8.body.getD .skip) [.sc (.ptr s),.agg [.int .i64 x_0,.str x_1,.int .i64 x_2,.int .i64 x_3,.int .i64 x_4,.int .i64 x_5,.int .i64 x_6,.str x_7,.str x_8,.int .i64 x_9,.slc x_10 x_10l x_10c,.slc x_11 x_11l x_11c,.int .i64 x_12,.int .i64 x_13,.bool (.atom true x_14)]] w:=by kernel_rfl
  rw [e_] at h
  exact runs_fn h Tryz.func8 (by kernel_rfl) (fun args w=>Tryz.call8 args w) (by kernel_rfl) (by kernel_rfl) rfl rfl
def wp_safe_Safe_Sync (s:Option Addr) (w:World) (Q:Value->World->Prop):Prop :=
 s ≠ none /\
 s ≠ none /\
 ∃ t0:Option Addr,cell w (pAdd s 6) 0 = some (.pointer t0) /\
 ∀ w1,Ext w w1 ->
 FnP Tryz.prog F_journal_Disk_Sync #[(.pointer t0)] w1 fun v2 w2 =>
 v2 = (.tuple #[]) /\
 ∀ w3,Ext w2 w3 ->
 Q (.tuple #[]) w3
theorem ok_safe_Safe_Sync (s:Option Addr) (w:World) (Q:Value->World->Prop) (h:wp_safe_Safe_Sync s w Q):FnP Tryz.prog F_safe_Safe_Sync #[(.pointer s)] w Q:=by
  have e_:wp_safe_Safe_Sync s w Q = Runs Tryz.prog Q ({ N:=7,wrap:=[],pub:=[],muts:=[31,32,33,11,8,13,14,24,36,37],joins:=[] }:Cfg) Tryz.f13 (Tryz.f13.body.getD .skip) [.sc (.ptr s)] w:=by kernel_rfl
  rw [e_] at h
  exact runs_fn h Tryz.func13 (by kernel_rfl) (fun args w=>Tryz.call13 args w) (by kernel_rfl) (by kernel_rfl) rfl rfl
def wp_safe_Safe_Crash (s:Option Addr) (keep:Int) (w:World) (Q:Value->World->Prop):Prop :=
 s ≠ none /\
 s ≠ none /\
 ∃ t0:Option Addr,cell w (pAdd s 6) 0 = some (.pointer t0) /\
 ∀ w1,Ext w w1 ->
 FnP Tryz.prog F_journal_Disk_Crash #[(.pointer t0),(.int .i64 keep)] w1 fun v2 w2 =>
 ∃ t3:Int,v2 = (.int .i64 t3) /\
 ((t3 ≠ 0) ->
 ∀ w4,Ext w2 w4 ->
 Q (.int .i64 t3) w4) /\
 ((t3 = 0) ->
 s ≠ none /\
 s ≠ none /\
 ∃ t4:Option Addr,cell w2 (pAdd s 6) 0 = some (.pointer t4) /\
 ∀ w5,Ext w2 w5 ->
 FnP Tryz.prog F_journal_Disk_Bytes #[(.pointer t4)] w5 fun v6 w6 =>
 Ext w5 w6 /\
 ∃ t7:Option Addr,∃ tl8:Nat,∃ tc9:Nat,v6 = (.slice t7 tl8 tc9) /\
 ∀ w10,Ext w6 w10 ->
 FnP Tryz.prog F_journal_Cut #[(.slice t7 tl8 tc9)] w10 fun v11 w11 =>
 Ext w10 w11 /\
 ∃ t12:Option Addr,∃ tl13:Nat,∃ tc14:Nat,∃ t15:Int,v11 = (.tuple #[(.slice t12 tl13 tc14),(.int .i64 t15)]) /\
 ∀ w16,Ext w11 w16 ->
 FnP Tryz.prog F_journal_New #[] w16 fun v17 w17 =>
 Ext w16 w17 /\
 ∃ t18:Option Addr,v17 = (.pointer t18) /\
 s ≠ none /\
 s ≠ none /\
 Store w17 (pAdd s 6) [(.pointer t18)] [] fun w19 =>
 s ≠ none /\
 s ≠ none /\
 ∃ t20:Option Addr,cell w19 (pAdd s 6) 0 = some (.pointer t20) /\
 (0:Int) <= 0 /\
 (0:Int) <= t15 /\
 (t15:Int) <= (tc9:Int) /\
 ∀ w21,Ext w19 w21 ->
 FnP Tryz.prog F_journal_Disk_Write #[(.pointer t20),(.slice (pCut t7 tc9 0 1) (t15 - 0).toNat (tc9 - (0:Int).toNat))] w21 fun v22 w22 =>
 ∃ t23:Int,v22 = (.int .i64 t23) /\
 s ≠ none /\
 s ≠ none /\
 ∃ t24:Option Addr,cell w22 (pAdd s 6) 0 = some (.pointer t24) /\
 ∀ w25,Ext w22 w25 ->
 FnP Tryz.prog F_journal_Disk_Sync #[(.pointer t24)] w25 fun v26 w26 =>
 v26 = (.tuple #[]) /\
 s ≠ none /\
 s ≠ none /\
 (pAdd s 0) ≠ none /\
 ∃ t27:Option Addr,∃ tl28:Nat,∃ tc29:Nat,cell w26 (pAdd s 0) 0 = some (.slice t27 tl28 tc29) /\
 ∃ t30:Int,cell w26 (pAdd s 0) 1 = some (.int .i64 t30) /\
 ∃ t31:Int,cell w26 (pAdd s 0) 2 = some (.int .i64 t31) /\
 ∃ t32:Int,cell w26 (pAdd s 0) 3 = some (.int .i64 t32) /\
 ∃ t33:Int,cell w26 (pAdd s 0) 4 = some (.int .i64 t33) /\
 ∀ w34,Ext w26 w34 ->
 FnP Tryz.prog F_safe_Replay #[(.agg #[(.slice t27 tl28 tc29),(.int .i64 t30),(.int .i64 t31),(.int .i64 t32),(.int .i64 t33)]),(.slice t12 tl13 tc14)] w34 fun v35 w35 =>
 Ext w34 w35 /\
 ∃ t36:Option Addr,∃ t37:Int,v35 = (.tuple #[(.pointer t36),(.int .i64 t37)]) /\
 s ≠ none /\
 s ≠ none /\
 Store w35 (pAdd s 5) [(.pointer t36)] [] fun w38 =>
 ∀ w39,Ext w38 w39 ->
 Q (.int .i64 0) w39)
theorem ok_safe_Safe_Crash (s:Option Addr) (keep:Int) (w:World) (Q:Value->World->Prop) (h:wp_safe_Safe_Crash s keep w Q):FnP Tryz.prog F_safe_Safe_Crash #[(.pointer s),(.int .i64 keep)] w Q:=by
  have e_:wp_safe_Safe_Crash s keep w Q = Runs Tryz.prog Q ({ N:=57,wrap:=[],pub:=[],muts:=[31,32,33,11,8,13,14,24,36,37],joins:=[] }:Cfg) Tryz.f14 (Tryz.f14.body.getD .skip) [.sc (.ptr s),.sc (.int .i64 keep)] w:=by kernel_rfl
  rw [e_] at h
  exact runs_fn h Tryz.func14 (by kernel_rfl) (fun args w=>Tryz.call14 args w) (by kernel_rfl) (by kernel_rfl) rfl rfl
def wp_safe_Safe_Farm (s:Option Addr) (w:World) (Q:Value->World->Prop):Prop :=
 s ≠ none /\
 s ≠ none /\
 ∃ t0:Option Addr,cell w (pAdd s 6) 0 = some (.pointer t0) /\
 ∀ w1,Ext w w1 ->
 FnP Tryz.prog F_journal_Disk_Bytes #[(.pointer t0)] w1 fun v2 w2 =>
 Ext w1 w2 /\
 ∃ t3:Option Addr,∃ tl4:Nat,∃ tc5:Nat,v2 = (.slice t3 tl4 tc5) /\
 ∀ w6,Ext w2 w6 ->
 FnP Tryz.prog F_journal_Cut #[(.slice t3 tl4 tc5)] w6 fun v7 w7 =>
 Ext w6 w7 /\
 ∃ t8:Option Addr,∃ tl9:Nat,∃ tc10:Nat,∃ t11:Int,v7 = (.tuple #[(.slice t8 tl9 tc10),(.int .i64 t11)]) /\
 s ≠ none /\
 s ≠ none /\
 (pAdd s 0) ≠ none /\
 ∃ t12:Option Addr,∃ tl13:Nat,∃ tc14:Nat,cell w7 (pAdd s 0) 0 = some (.slice t12 tl13 tc14) /\
 ∃ t15:Int,cell w7 (pAdd s 0) 1 = some (.int .i64 t15) /\
 ∃ t16:Int,cell w7 (pAdd s 0) 2 = some (.int .i64 t16) /\
 ∃ t17:Int,cell w7 (pAdd s 0) 3 = some (.int .i64 t17) /\
 ∃ t18:Int,cell w7 (pAdd s 0) 4 = some (.int .i64 t18) /\
 ∀ w19,Ext w7 w19 ->
 FnP Tryz.prog F_safe_Replay #[(.agg #[(.slice t12 tl13 tc14),(.int .i64 t15),(.int .i64 t16),(.int .i64 t17),(.int .i64 t18)]),(.slice t8 tl9 tc10)] w19 fun v20 w20 =>
 Ext w19 w20 /\
 ∃ t21:Option Addr,∃ t22:Int,v20 = (.tuple #[(.pointer t21),(.int .i64 t22)]) /\
 ∀ w23,Ext w20 w23 ->
 Q (.pointer t21) w23
theorem ok_safe_Safe_Farm (s:Option Addr) (w:World) (Q:Value->World->Prop) (h:wp_safe_Safe_Farm s w Q):FnP Tryz.prog F_safe_Safe_Farm #[(.pointer s)] w Q:=by
  have e_:wp_safe_Safe_Farm s w Q = Runs Tryz.prog Q ({ N:=26,wrap:=[],pub:=[],muts:=[31,32,33,11,8,13,14,24,36,37],joins:=[] }:Cfg) Tryz.f9 (Tryz.f9.body.getD .skip) [.sc (.ptr s)] w:=by kernel_rfl
  rw [e_] at h
  exact runs_fn h Tryz.func9 (by kernel_rfl) (fun args w=>Tryz.call9 args w) (by kernel_rfl) (by kernel_rfl) rfl rfl
def wp_safe_Safe_Bytes (s:Option Addr) (w:World) (Q:Value->World->Prop):Prop :=
 s ≠ none /\
 s ≠ none /\
 ∃ t0:Option Addr,cell w (pAdd s 6) 0 = some (.pointer t0) /\
 ∀ w1,Ext w w1 ->
 FnP Tryz.prog F_journal_Disk_Bytes #[(.pointer t0)] w1 fun v2 w2 =>
 Ext w1 w2 /\
 ∃ t3:Option Addr,∃ tl4:Nat,∃ tc5:Nat,v2 = (.slice t3 tl4 tc5) /\
 ∀ w6,Ext w2 w6 ->
 Q (.slice t3 tl4 tc5) w6
theorem ok_safe_Safe_Bytes (s:Option Addr) (w:World) (Q:Value->World->Prop) (h:wp_safe_Safe_Bytes s w Q):FnP Tryz.prog F_safe_Safe_Bytes #[(.pointer s)] w Q:=by
  have e_:wp_safe_Safe_Bytes s w Q = Runs Tryz.prog Q ({ N:=8,wrap:=[],pub:=[],muts:=[31,32,33,11,8,13,14,24,36,37],joins:=[] }:Cfg) Tryz.f12 (Tryz.f12.body.getD .skip) [.sc (.ptr s)] w:=by kernel_rfl
  rw [e_] at h
  exact runs_fn h Tryz.func12 (by kernel_rfl) (fun args w=>Tryz.call12 args w) (by kernel_rfl) (by kernel_rfl) rfl rfl
def wp_shiftbellkeep_safes  (w:World) (Q:Value->World->Prop):Prop :=
 ∀ w0,Ext w w0 ->
 FnP Tryz.prog F_shiftbellkeep_bare #[] w0 fun v1 w1 =>
 Ext w0 w1 /\
 ∃ t_02:Option Addr,∃ t_0l3:Nat,∃ t_0c4:Nat,∃ t_15:Int,∃ t_26:Int,∃ t_37:Int,∃ t_48:Int,v1 = (.agg #[(.slice t_02 t_0l3 t_0c4),(.int .i64 t_15),(.int .i64 t_26),(.int .i64 t_37),(.int .i64 t_48)]) /\
 ∀ w9,Ext w1 w9 ->
 FnP Tryz.prog F_safe_New #[(.agg #[(.slice t_02 t_0l3 t_0c4),(.int .i64 t_15),(.int .i64 t_26),(.int .i64 t_37),(.int .i64 t_48)])] w9 fun v10 w10 =>
 Ext w9 w10 /\
 ∃ t11:Option Addr,∃ t12:Int,v10 = (.tuple #[(.pointer t11),(.int .i64 t12)]) /\
 ((((t12 = 0)/\(t11 ≠ none)) ->
 ∀ w13,Ext w10 w13 ->
 FnP Tryz.prog F_safe_Safe_Do #[(.pointer t11),(.agg #[(.int .i64 3),(.string (⟨#[]⟩:ByteArray)),(.int .i64 0),(.int .i64 0),(.int .i64 0),(.int .i64 0),(.int .i64 0),(.string (⟨#[]⟩:ByteArray)),(.string (⟨#[]⟩:ByteArray)),(.int .i64 0),(.slice none 0 0),(.slice none 0 0),(.int .i64 0),(.int .i64 0),(.bool false)])] w13 fun v14 w14 =>
 ∃ t15:Int,v14 = (.int .i64 t15) /\
 (((t15 = 0) ->
 ∀ w16,Ext w14 w16 ->
 FnP Tryz.prog F_safe_Safe_Bytes #[(.pointer t11)] w16 fun v17 w17 =>
 Ext w16 w17 /\
 ∃ t18:Option Addr,∃ tl19:Nat,∃ tc20:Nat,v17 = (.slice t18 tl19 tc20) /\
 ∀ w21,Ext w17 w21 ->
 Q (.bool (decide ((tl19:Int) = 11))) w21)) /\
 ((t15 ≠ 0) ->
 ∀ w16,Ext w14 w16 ->
 Q (.bool false) w16))) /\
 (((t12 ≠ 0)\/(t11 = none)) ->
 ∀ w13,Ext w10 w13 ->
 Q (.bool false) w13)
theorem ok_shiftbellkeep_safes  (w:World) (Q:Value->World->Prop) (h:wp_shiftbellkeep_safes  w Q):FnP Tryz.prog F_shiftbellkeep_safes #[] w Q:=by
  have e_:wp_shiftbellkeep_safes  w Q = Runs Tryz.prog Q ({ N:=26,wrap:=[],pub:=[],muts:=[31,32,33,11,8,13,14,24,36,37],joins:=[] }:Cfg) Tryz.f6 (Tryz.f6.body.getD .skip) [] w:=by kernel_rfl
  rw [e_] at h
  exact runs_fn h Tryz.func6 (by kernel_rfl) (fun args w=>Tryz.call6 args w) (by kernel_rfl) (by kernel_rfl) rfl rfl
def wp_shiftbellkeep_SafeSame (x_0:Option Addr) (x_0l:Nat) (x_0c:Nat) (x_1:Int) (x_2:Int) (x_3:Int) (x_4:Int) (l:Option Addr) (ll:Nat) (lc:Nat) (at_v:Int) (w:World) (Q:Value->World->Prop):Prop :=
 ∀ b0:Nat,w.heap.size <= b0->∀ w1,Ext w w1 ->
 FnP Tryz.prog F_shiftbellkeep_safes #[] w1 fun v2 w2 =>
 Ext w1 w2 /\
 ∃ t3:Bool,v2 = (.bool t3) /\
 ((t3 = false) ->
 ∀ w4,Ext w w4 ->
 Q (.bool false) w4) /\
 ((t3 = true) ->
 ∀ w4,ExtB [] [b0] w w4 ->
 FnP Tryz.prog F_safe_New #[(.agg #[(.slice x_0 x_0l x_0c),(.int .i64 x_1),(.int .i64 x_2),(.int .i64 x_3),(.int .i64 x_4)])] w4 fun v5 w5 =>
 Ext w4 w5 /\
 ∃ t6:Option Addr,∃ t7:Int,v5 = (.tuple #[(.pointer t6),(.int .i64 t7)]) /\
 ((((t7 ≠ 0)\/(t6 = none))\/(24 < (ll:Int))) ->
 ∀ w8,Ext w5 w8 ->
 Q (.bool ((t6.isNone && (decide (t7 ≠ 0))) || ((!t6.isNone) && (decide (24 < (ll:Int)))))) w8) /\
 ((((t7 = 0)/\(t6 ≠ none))/\((ll:Int) <= 24)) ->
 ∀ w8,ExtB [] [b0] w5 w8 ->
 FnP Tryz.prog F_shiftbellkeep_played #[(.agg #[(.slice x_0 x_0l x_0c),(.int .i64 x_1),(.int .i64 x_2),(.int .i64 x_3),(.int .i64 x_4)]),(.slice none 0 0)] w8 fun v9 w9 =>
 Ext w8 w9 /\
 ∃ t10:Option Addr,v9 = (.pointer t10) /\
 ((t10 = none) ->
 ∀ w11,Ext w9 w11 ->
 Q (.bool false) w11) /\
 ((t10 ≠ none) ->
 ∃ (I11:Int->World->Prop) (M11:Int->World->Nat),I11 0 w9 /\
 ∀ (k12:Int) (w13:World),I11 k12 w13 ->
 (((k12 < (ll:Int)) ->
 l ≠ none /\
 (0:Int) <= k12 /\
 (k12:Int) < (ll:Int) /\
 (pIdx l k12 15) ≠ none /\
 ∃ t14:Int,cell w13 (pIdx l k12 15) 0 = some (.int .i64 t14) /\
 ∃ t15:ByteArray,cell w13 (pIdx l k12 15) 1 = some (.string t15) /\
 ∃ t16:Int,cell w13 (pIdx l k12 15) 2 = some (.int .i64 t16) /\
 ∃ t17:Int,cell w13 (pIdx l k12 15) 3 = some (.int .i64 t17) /\
 ∃ t18:Int,cell w13 (pIdx l k12 15) 4 = some (.int .i64 t18) /\
 ∃ t19:Int,cell w13 (pIdx l k12 15) 5 = some (.int .i64 t19) /\
 ∃ t20:Int,cell w13 (pIdx l k12 15) 6 = some (.int .i64 t20) /\
 ∃ t21:ByteArray,cell w13 (pIdx l k12 15) 7 = some (.string t21) /\
 ∃ t22:ByteArray,cell w13 (pIdx l k12 15) 8 = some (.string t22) /\
 ∃ t23:Int,cell w13 (pIdx l k12 15) 9 = some (.int .i64 t23) /\
 ∃ t24:Option Addr,∃ tl25:Nat,∃ tc26:Nat,cell w13 (pIdx l k12 15) 10 = some (.slice t24 tl25 tc26) /\
 ∃ t27:Option Addr,∃ tl28:Nat,∃ tc29:Nat,cell w13 (pIdx l k12 15) 11 = some (.slice t27 tl28 tc29) /\
 ∃ t30:Int,cell w13 (pIdx l k12 15) 12 = some (.int .i64 t30) /\
 ∃ t31:Int,cell w13 (pIdx l k12 15) 13 = some (.int .i64 t31) /\
 ∃ t32:Bool,cell w13 (pIdx l k12 15) 14 = some (.bool t32) /\
 ∀ b33:Nat,w13.heap.size <= b33->∃ (J34:Bool->World->Prop),((∀ w37,ExtB [] [b0,b33] w13 w37 ->
 FnP Tryz.prog F_safe_Safe_Do #[(.pointer t6),(.agg #[(.int .i64 t14),(.string t15),(.int .i64 t16),(.int .i64 t17),(.int .i64 t18),(.int .i64 t19),(.int .i64 t20),(.string t21),(.string t22),(.int .i64 t23),(.slice t24 tl25 tc26),(.slice t27 tl28 tc29),(.int .i64 t30),(.int .i64 t31),(.bool t32)])] w37 fun v38 w38 =>
 Kept [b0,b33] w37 w38 /\
 ∃ t39:Int,v38 = (.int .i64 t39) /\
 ∀ w40,ExtB [] [b0,b33] w38 w40 ->
 FnP Tryz.prog F_farm_Farm_Do #[(.pointer t10),(.agg #[(.int .i64 t14),(.string t15),(.int .i64 t16),(.int .i64 t17),(.int .i64 t18),(.int .i64 t19),(.int .i64 t20),(.string t21),(.string t22),(.int .i64 t23),(.slice t24 tl25 tc26),(.slice t27 tl28 tc29),(.int .i64 t30),(.int .i64 t31),(.bool t32)])] w40 fun v41 w41 =>
 Kept [b0,b33] w40 w41 /\
 ∃ t42:Int,v41 = (.int .i64 t42) /\
 J34 (decide (t39 ≠ t42)) w41) /\
 ∀ w37,ExtB [] [b0,b33] w13 w37 ->
 FnP Tryz.prog F_safe_Safe_Do #[(.pointer t6),(.agg #[(.int .i64 t14),(.string t15),(.int .i64 t16),(.int .i64 t17),(.int .i64 t18),(.int .i64 t19),(.int .i64 t20),(.string t21),(.string t22),(.int .i64 t23),(.slice t24 tl25 tc26),(.slice t27 tl28 tc29),(.int .i64 t30),(.int .i64 t31),(.bool t32)])] w37 fun v38 w38 =>
 Kept [b0,b33] w37 w38 /\
 ∃ t39:Int,v38 = (.int .i64 t39) /\
 ∀ w40,ExtB [] [b0,b33] w38 w40 ->
 FnP Tryz.prog F_farm_Farm_Do #[(.pointer t10),(.agg #[(.int .i64 t14),(.string t15),(.int .i64 t16),(.int .i64 t17),(.int .i64 t18),(.int .i64 t19),(.int .i64 t20),(.string t21),(.string t22),(.int .i64 t23),(.slice t24 tl25 tc26),(.slice t27 tl28 tc29),(.int .i64 t30),(.int .i64 t31),(.bool t32)])] w40 fun v41 w41 =>
 Kept [b0,b33] w40 w41 /\
 ∃ t42:Int,v41 = (.int .i64 t42) /\
 J34 (decide (t39 ≠ t42)) w41) /\
 ∀ (k35:Bool) (w36:World),J34 k35 w36 ->
 ((k35 = true) ->
 ∀ w37,Ext w36 w37 ->
 Q (.bool false) w37) /\
 ((k35 = false) ->
 (((k12 = at_v) ->
 ∀ w37,ExtB [] [b0,b33] w36 w37 ->
 FnP Tryz.prog F_safe_Safe_Sync #[(.pointer t6)] w37 fun v38 w38 =>
 Kept [b0,b33] w37 w38 /\
 v38 = (.tuple #[]) /\
 InR .i64 (k12 + 1) /\
 (I11 (k12 + 1) w38/\M11 (k12 + 1) w38 < M11 k12 w13))) /\
 ((k12 ≠ at_v) ->
 InR .i64 (k12 + 1) /\
 (I11 (k12 + 1) w36/\M11 (k12 + 1) w36 < M11 k12 w13))))) /\
 (((ll:Int) <= k12) ->
 ∀ w14,ExtB [] [b0] w13 w14 ->
 FnP Tryz.prog F_safe_Safe_Farm #[(.pointer t6)] w14 fun v15 w15 =>
 Ext w14 w15 /\
 ∃ t16:Option Addr,v15 = (.pointer t16) /\
 ∀ w17,Ext w15 w17 ->
 FnP Tryz.prog F_shiftbellkeep_sameFarm #[(.pointer t10),(.pointer t16)] w17 fun v18 w18 =>
 Ext w17 w18 /\
 ∃ t19:Bool,v18 = (.bool t19) /\
 ((t19 = false) ->
 ∀ w20,Ext w15 w20 ->
 Q (.bool false) w20) /\
 ((t19 = true) ->
 ∀ w20,ExtB [] [b0] w15 w20 ->
 FnP Tryz.prog F_safe_Safe_Bytes #[(.pointer t6)] w20 fun v21 w21 =>
 Ext w20 w21 /\
 ∃ t22:Option Addr,∃ tl23:Nat,∃ tc24:Nat,v21 = (.slice t22 tl23 tc24) /\
 ∀ w25,ExtB [] [b0] w21 w25 ->
 FnP Tryz.prog F_safe_Safe_Sync #[(.pointer t6)] w25 fun v26 w26 =>
 Kept [b0] w25 w26 /\
 v26 = (.tuple #[]) /\
 ∀ w27,ExtB [] [b0] w26 w27 ->
 FnP Tryz.prog F_safe_Safe_Crash #[(.pointer t6),(.int .i64 0)] w27 fun v28 w28 =>
 Kept [b0] w27 w28 /\
 ∃ t29:Int,v28 = (.int .i64 t29) /\
 (((t29 = 0) ->
 ∀ w30,ExtB [] [b0] w28 w30 ->
 FnP Tryz.prog F_safe_Safe_Bytes #[(.pointer t6)] w30 fun v31 w31 =>
 Ext w30 w31 /\
 ∃ t32:Option Addr,∃ tl33:Nat,∃ tc34:Nat,v31 = (.slice t32 tl33 tc34) /\
 ∀ w35,Ext w31 w35 ->
 FnP Tryz.prog F_bytes_Equal #[(.slice t22 tl23 tc24),(.slice t32 tl33 tc34)] w35 fun v36 w36 =>
 Ext w35 w36 /\
 ∃ t37:Bool,v36 = (.bool t37) /\
 (((t37 = true) ->
 ∀ w38,ExtB [] [b0] w31 w38 ->
 FnP Tryz.prog F_safe_Safe_Farm #[(.pointer t6)] w38 fun v39 w39 =>
 Ext w38 w39 /\
 ∃ t40:Option Addr,v39 = (.pointer t40) /\
 ∀ w41,Ext w39 w41 ->
 FnP Tryz.prog F_shiftbellkeep_sameFarm #[(.pointer t10),(.pointer t40)] w41 fun v42 w42 =>
 Ext w41 w42 /\
 ∃ t43:Bool,v42 = (.bool t43) /\
 ∀ w44,Ext w39 w44 ->
 Q (.bool t43) w44)) /\
 ((t37 = false) ->
 ∀ w38,Ext w31 w38 ->
 Q (.bool false) w38))) /\
 ((t29 ≠ 0) ->
 ∀ w30,Ext w28 w30 ->
 Q (.bool false) w30))))))
theorem ok_shiftbellkeep_SafeSame (x_0:Option Addr) (x_0l:Nat) (x_0c:Nat) (x_1:Int) (x_2:Int) (x_3:Int) (x_4:Int) (l:Option Addr) (ll:Nat) (lc:Nat) (at_v:Int) (w:World) (Q:Value->World->Prop) (h:wp_shiftbellkeep_SafeSame x_0 x_0l x_0c x_1 x_2 x_3 x_4 l ll lc at_v w Q):FnP Tryz.prog F_shiftbellkeep_SafeSame #[(.agg #[(.slice x_0 x_0l x_0c),(.int .i64 x_1),(.int .i64 x_2),(.int .i64 x_3),(.int .i64 x_4)]),(.slice l ll lc),(.int .i64 at_v)] w Q:=by
  have e_:wp_shiftbellkeep_SafeSame x_0 x_0l x_0c x_1 x_2 x_3 x_4 l ll lc at_v w Q = Runs Tryz.prog Q ({ N:=94,wrap:=[],pub:=[],muts:=[31,32,33,11,8,13,14,24,36,37],joins:=[(999999,[63])] }:Cfg) Tryz.f5 (Tryz.f5.body.getD .skip) [.agg [.slc x_0 x_0l x_0c,.int .i64 x_1,.int .i64 x_2,.int .i64 x_3,.int .i64 x_4],.sc (.slc l ll lc),.sc (.int .i64 at_v)] w:=by kernel_rfl
  rw [e_] at h
  exact runs_fn h Tryz.func5 (by kernel_rfl) (fun args w=>Tryz.call5 args w) (by kernel_rfl) (by kernel_rfl) rfl rfl
theorem open_shiftbellkeep_SafeSame (W:World) (R:Array Value->Prop) (h:∀ x_0:Option Addr,∀ x_0l:Nat,∀ x_0c:Nat,SlcArg Tryz.prog W 85 x_0 x_0l x_0c->∀ x_1:Int,InR .i64 x_1->∀ x_2:Int,InR .i64 x_2->∀ x_3:Int,InR .i64 x_3->∀ x_4:Int,InR .i64 x_4->∀ l:Option Addr,∀ ll:Nat,∀ lc:Nat,SlcArg Tryz.prog W 42 l ll lc->∀ at_v:Int,InR .i64 at_v->R #[(.agg #[(.slice x_0 x_0l x_0c),(.int .i64 x_1),(.int .i64 x_2),(.int .i64 x_3),(.int .i64 x_4)]),(.slice l ll lc),(.int .i64 at_v)]) (args:Array Value) (hg:GoodAll Tryz.prog W Tryz.f5.params.toList args.toList):R args:=by
  have e_:(ArgsAll Tryz.prog W Tryz.f5.params.toList fun l=>R l.toArray) = (∀ x_0:Option Addr,∀ x_0l:Nat,∀ x_0c:Nat,SlcArg Tryz.prog W 85 x_0 x_0l x_0c->∀ x_1:Int,InR .i64 x_1->∀ x_2:Int,InR .i64 x_2->∀ x_3:Int,InR .i64 x_3->∀ x_4:Int,InR .i64 x_4->∀ l:Option Addr,∀ ll:Nat,∀ lc:Nat,SlcArg Tryz.prog W 42 l ll lc->∀ at_v:Int,InR .i64 at_v->R #[(.agg #[(.slice x_0 x_0l x_0c),(.int .i64 x_1),(.int .i64 x_2),(.int .i64 x_3),(.int .i64 x_4)]),(.slice l ll lc),(.int .i64 at_v)]):=by kernel_rfl
  exact args_open (by rw [e_]; exact h) args hg
end Go.Proofs.YtegephkpdlopaaaGreatDoor
namespace Go.Proofs
open Go.Shelf
def Tryz.lays156_ren:Go.Shelf.Ren:=⟨fun | 156=>103 | 165=>121 | 166=>122 | 169=>123 | 240=>137 | 241=>138 | 276=>153 | 277=>154 | n=>n,fun | 31=>185 | 9=>9 | 3=>3 | 4=>4 | 0=>0 | 20=>20 | 72=>211 | 76=>189 | 70=>209 | 37=>48 | 75=>188 | 127=>232 | 164=>241 | 5=>5 | 80=>213 | n=>n,fun | n=>n⟩
theorem Tryz.lays156:Go.Proofs.Lays.n156 Tryz.prog Tryz.lays156_ren:={
  mixed:=by kernel_rfl
  f156:=Tryz.func103.trans (congrArg some (by kernel_rfl))
  f165:=Tryz.func121.trans (congrArg some (by kernel_rfl))
  f166:=Tryz.func122.trans (congrArg some (by kernel_rfl))
  f169:=Tryz.func123.trans (congrArg some (by kernel_rfl))
  f240:=Tryz.func137.trans (congrArg some (by kernel_rfl))
  f241:=Tryz.func138.trans (congrArg some (by kernel_rfl))
  f276:=Tryz.func153.trans (congrArg some (by kernel_rfl))
  f277:=Tryz.func154.trans (congrArg some (by kernel_rfl))
  t0:=Tryz.underlying0
  a0:=Tryz.isAgg0
  z0:=Tryz.sizeOf0
  v0:=Tryz.zeroValue0
  t3:=Tryz.underlying3
  a3:=Tryz.isAgg3
  z3:=Tryz.sizeOf3
  v3:=Tryz.zeroValue3
  t4:=Tryz.underlying4
  a4:=Tryz.isAgg4
  z4:=Tryz.sizeOf4
  v4:=Tryz.zeroValue4
  t9:=Tryz.underlying9
  a9:=Tryz.isAgg9
  z9:=Tryz.sizeOf9
  v9:=Tryz.zeroValue9
  t20:=Tryz.underlying20
  a20:=Tryz.isAgg20
  z20:=Tryz.sizeOf20
  v20:=Tryz.zeroValue20
  t31:=Tryz.underlying185
  a31:=Tryz.isAgg185
  z31:=Tryz.sizeOf185
  v31:=Tryz.zeroValue185
  t37:=Tryz.underlying48
  a37:=Tryz.isAgg48
  z37:=Tryz.sizeOf48
  v37:=Tryz.zeroValue48
  t70:=Tryz.underlying209
  a70:=Tryz.isAgg209
  z70:=Tryz.sizeOf209
  v70:=Tryz.zeroValue209
  t72:=Tryz.underlying211
  a72:=Tryz.isAgg211
  z72:=Tryz.sizeOf211
  v72:=Tryz.zeroValue211
  t75:=Tryz.underlying188
  a75:=Tryz.isAgg188
  z75:=Tryz.sizeOf188
  v75:=Tryz.zeroValue188
  t76:=Tryz.underlying189
  a76:=Tryz.isAgg189
  z76:=Tryz.sizeOf189
  v76:=Tryz.zeroValue189
  t127:=Tryz.underlying232
  a127:=Tryz.isAgg232
  z127:=Tryz.sizeOf232
  v127:=Tryz.zeroValue232
  t164:=Tryz.underlying241
  a164:=Tryz.isAgg241
  z164:=Tryz.sizeOf241
  v164:=Tryz.zeroValue241 }
theorem Tryz.Builder_Extra_156:Builder.Extra Tryz.prog Tryz.lays156_ren:={
  sizeBuilder:=by kernel_rfl
  liesBuilder:=by kernel_rfl
  t5:=Tryz.underlying5
  a5:=Tryz.isAgg5
  z5:=Tryz.sizeOf5
  v5:=Tryz.zeroValue5
  infoByte:=by kernel_rfl
  cellsByte:=by kernel_rfl
  sizeByte:=by kernel_rfl
  neB5:=by decide }
open Go.RowKit in
theorem Tryz.strings_Join (bk o c:Nat) (xs:List ByteArray) (sep:ByteArray) (w:World) (hcells:∀ (j:Nat) x,xs[j]? = some x->w.cell? ⟨bk,o + j,none⟩ = some (.string x)) (hbk:bk < w.heap.size) (hN:xs.length <= 140737488355328) (hcap:xs.length <= c) (hlen:(Lib.join (xs.map (·.data.toList)) sep.data.toList).length <= 140737488355328) :
    Calls Tryz.prog 103 #[.slice (some ⟨bk,o,none⟩) xs.length c,.string sep] w fun e w'=>e = .returned (.string ⟨(Lib.join (xs.map (·.data.toList)) sep.data.toList).toArray⟩)/\Below w.heap.size w w':=Any.strings_Join Tryz.lays156 Tryz.Builder_Extra_156 bk o c xs sep w hcells hbk hN hcap hlen
def Tryz.laysM246_ren:Go.Shelf.Ren:=⟨fun | 246=>139 | 283=>155 | 284=>156 | 285=>157 | 286=>158 | 129=>168 | 317=>167 | 318=>169 | 319=>170 | 320=>171 | 337=>183 | 338=>184 | n=>n,fun | 2=>2 | 3=>3 | 9=>9 | 4=>4 | 171=>244 | 0=>0 | 53=>96 | 37=>48 | 5=>5 | 173=>247 | 212=>261 | 51=>262 | 20=>20 | 213=>263 | 46=>95 | 232=>283 | 233=>284 | n=>n,fun | 17=>3 | 18=>6 | 19=>7 | n=>n⟩
def Tryz.laysM243_ren:Go.Shelf.Ren:=⟨fun | 243=>124 | 246=>139 | 283=>155 | 284=>156 | 285=>157 | 286=>158 | 129=>168 | 317=>167 | 318=>169 | 319=>170 | 320=>171 | 337=>183 | 338=>184 | n=>n,fun | 3=>3 | 9=>9 | 2=>2 | 4=>4 | 171=>244 | 0=>0 | 53=>96 | 37=>48 | 5=>5 | 173=>247 | 212=>261 | 51=>262 | 20=>20 | 213=>263 | 46=>95 | 232=>283 | 233=>284 | n=>n,fun | 17=>3 | 18=>6 | 19=>7 | n=>n⟩
def Tryz.laysM171_ren:Go.Shelf.Ren:=⟨fun | 171=>104 | 243=>124 | 246=>139 | 283=>155 | 284=>156 | 285=>157 | 286=>158 | 129=>168 | 317=>167 | 318=>169 | 319=>170 | 320=>171 | 337=>183 | 338=>184 | n=>n,fun | 3=>3 | 9=>9 | 2=>2 | 4=>4 | 171=>244 | 0=>0 | 53=>96 | 37=>48 | 5=>5 | 173=>247 | 212=>261 | 51=>262 | 20=>20 | 213=>263 | 46=>95 | 232=>283 | 233=>284 | n=>n,fun | 17=>3 | 18=>6 | 19=>7 | n=>n⟩
theorem Tryz.laysM171:Go.Proofs.LaysM.n171 Tryz.prog Tryz.laysM171_ren:={
  mixed:=by kernel_rfl
  f129:=Tryz.func168.trans (congrArg some (by kernel_rfl))
  f171:=Tryz.func104.trans (congrArg some (by kernel_rfl))
  f243:=Tryz.func124.trans (congrArg some (by kernel_rfl))
  f246:=Tryz.func139.trans (congrArg some (by kernel_rfl))
  f283:=Tryz.func155.trans (congrArg some (by kernel_rfl))
  f284:=Tryz.func156.trans (congrArg some (by kernel_rfl))
  f285:=Tryz.func157.trans (congrArg some (by kernel_rfl))
  f286:=Tryz.func158.trans (congrArg some (by kernel_rfl))
  f317:=Tryz.func167.trans (congrArg some (by kernel_rfl))
  f318:=Tryz.func169.trans (congrArg some (by kernel_rfl))
  f319:=Tryz.func170.trans (congrArg some (by kernel_rfl))
  f320:=Tryz.func171.trans (congrArg some (by kernel_rfl))
  f337:=Tryz.func183.trans (congrArg some (by kernel_rfl))
  f338:=Tryz.func184.trans (congrArg some (by kernel_rfl))
  t0:=Tryz.underlying0
  a0:=Tryz.isAgg0
  z0:=Tryz.sizeOf0
  v0:=Tryz.zeroValue0
  t2:=Tryz.underlying2
  a2:=Tryz.isAgg2
  z2:=Tryz.sizeOf2
  v2:=Tryz.zeroValue2
  t3:=Tryz.underlying3
  a3:=Tryz.isAgg3
  z3:=Tryz.sizeOf3
  v3:=Tryz.zeroValue3
  t4:=Tryz.underlying4
  a4:=Tryz.isAgg4
  z4:=Tryz.sizeOf4
  v4:=Tryz.zeroValue4
  t5:=Tryz.underlying5
  a5:=Tryz.isAgg5
  z5:=Tryz.sizeOf5
  v5:=Tryz.zeroValue5
  t9:=Tryz.underlying9
  a9:=Tryz.isAgg9
  z9:=Tryz.sizeOf9
  v9:=Tryz.zeroValue9
  t20:=Tryz.underlying20
  a20:=Tryz.isAgg20
  z20:=Tryz.sizeOf20
  v20:=Tryz.zeroValue20
  t37:=Tryz.underlying48
  a37:=Tryz.isAgg48
  z37:=Tryz.sizeOf48
  v37:=Tryz.zeroValue48
  t46:=Tryz.underlying95
  a46:=Tryz.isAgg95
  z46:=Tryz.sizeOf95
  v46:=Tryz.zeroValue95
  t51:=Tryz.underlying262
  a51:=Tryz.isAgg262
  z51:=Tryz.sizeOf262
  v51:=Tryz.zeroValue262
  t53:=Tryz.underlying96
  a53:=Tryz.isAgg96
  z53:=Tryz.sizeOf96
  v53:=Tryz.zeroValue96
  t171:=Tryz.underlying244
  a171:=Tryz.isAgg244
  z171:=Tryz.sizeOf244
  v171:=Tryz.zeroValue244
  t173:=Tryz.underlying247
  a173:=Tryz.isAgg247
  z173:=Tryz.sizeOf247
  v173:=Tryz.zeroValue247
  t212:=Tryz.underlying261
  a212:=Tryz.isAgg261
  z212:=Tryz.sizeOf261
  v212:=Tryz.zeroValue261
  t213:=Tryz.underlying263
  a213:=Tryz.isAgg263
  z213:=Tryz.sizeOf263
  t232:=Tryz.underlying283
  a232:=Tryz.isAgg283
  z232:=Tryz.sizeOf283
  v232:=Tryz.zeroValue283
  t233:=Tryz.underlying284
  a233:=Tryz.isAgg284
  z233:=Tryz.sizeOf284
  v233:=Tryz.zeroValue284
  g17:=by kernel_rfl
  g18:=by kernel_rfl
  g19:=by kernel_rfl
  i0:=by kernel_rfl
  i2:=by kernel_rfl
  i3:=by kernel_rfl
  i4:=by kernel_rfl
  i5:=by kernel_rfl
  i9:=by kernel_rfl
  i20:=by kernel_rfl
  i37:=by kernel_rfl
  i46:=by kernel_rfl
  i51:=by kernel_rfl
  i53:=by kernel_rfl
  i171:=by kernel_rfl
  i173:=by kernel_rfl
  i212:=by kernel_rfl
  i232:=by kernel_rfl
  i233:=by kernel_rfl
  m17:=by kernel_rfl
  m18:=by kernel_rfl
  m19:=by kernel_rfl }
open Go.RowKit Go.Sort Go.Lib in
theorem Tryz.strconv_Itoa (n : Int) (h0 : -9223372036854775808 <= n) (h1 : n <= 9223372036854775807) (w : World) (htab : Lib.TabIs Tryz.prog w "internal/strconv.uint64pow10" .u64 Lib.pow10Tab) :
    Calls Tryz.prog 104 #[.int .i64 n] w fun e w'=>e = .returned (.string ⟨(Lib.itoa n).toArray⟩)/\∃ k os,w' = grow (w.drewN k) os:=Any.strconv_Itoa Tryz.laysM171 n h0 h1 w htab
def Tryz.laysM173_ren:Go.Shelf.Ren:=⟨fun | 173=>136 | 246=>139 | 283=>155 | 284=>156 | 285=>157 | 286=>158 | 129=>168 | 317=>167 | 318=>169 | 319=>170 | 320=>171 | 337=>183 | 338=>184 | n=>n,fun | 2=>2 | 3=>3 | 9=>9 | 4=>4 | 171=>244 | 0=>0 | 53=>96 | 37=>48 | 5=>5 | 173=>247 | 212=>261 | 51=>262 | 20=>20 | 213=>263 | 46=>95 | 232=>283 | 233=>284 | n=>n,fun | 17=>3 | 18=>6 | 19=>7 | n=>n⟩
theorem Tryz.laysM173:Go.Proofs.LaysM.n173 Tryz.prog Tryz.laysM173_ren:={
  mixed:=by kernel_rfl
  f129:=Tryz.func168.trans (congrArg some (by kernel_rfl))
  f173:=Tryz.func136.trans (congrArg some (by kernel_rfl))
  f246:=Tryz.func139.trans (congrArg some (by kernel_rfl))
  f283:=Tryz.func155.trans (congrArg some (by kernel_rfl))
  f284:=Tryz.func156.trans (congrArg some (by kernel_rfl))
  f285:=Tryz.func157.trans (congrArg some (by kernel_rfl))
  f286:=Tryz.func158.trans (congrArg some (by kernel_rfl))
  f317:=Tryz.func167.trans (congrArg some (by kernel_rfl))
  f318:=Tryz.func169.trans (congrArg some (by kernel_rfl))
  f319:=Tryz.func170.trans (congrArg some (by kernel_rfl))
  f320:=Tryz.func171.trans (congrArg some (by kernel_rfl))
  f337:=Tryz.func183.trans (congrArg some (by kernel_rfl))
  f338:=Tryz.func184.trans (congrArg some (by kernel_rfl))
  t0:=Tryz.underlying0
  a0:=Tryz.isAgg0
  z0:=Tryz.sizeOf0
  v0:=Tryz.zeroValue0
  t2:=Tryz.underlying2
  a2:=Tryz.isAgg2
  z2:=Tryz.sizeOf2
  v2:=Tryz.zeroValue2
  t3:=Tryz.underlying3
  a3:=Tryz.isAgg3
  z3:=Tryz.sizeOf3
  v3:=Tryz.zeroValue3
  t4:=Tryz.underlying4
  a4:=Tryz.isAgg4
  z4:=Tryz.sizeOf4
  v4:=Tryz.zeroValue4
  t5:=Tryz.underlying5
  a5:=Tryz.isAgg5
  z5:=Tryz.sizeOf5
  v5:=Tryz.zeroValue5
  t9:=Tryz.underlying9
  a9:=Tryz.isAgg9
  z9:=Tryz.sizeOf9
  v9:=Tryz.zeroValue9
  t20:=Tryz.underlying20
  a20:=Tryz.isAgg20
  z20:=Tryz.sizeOf20
  v20:=Tryz.zeroValue20
  t37:=Tryz.underlying48
  a37:=Tryz.isAgg48
  z37:=Tryz.sizeOf48
  v37:=Tryz.zeroValue48
  t46:=Tryz.underlying95
  a46:=Tryz.isAgg95
  z46:=Tryz.sizeOf95
  v46:=Tryz.zeroValue95
  t51:=Tryz.underlying262
  a51:=Tryz.isAgg262
  z51:=Tryz.sizeOf262
  v51:=Tryz.zeroValue262
  t53:=Tryz.underlying96
  a53:=Tryz.isAgg96
  z53:=Tryz.sizeOf96
  v53:=Tryz.zeroValue96
  t171:=Tryz.underlying244
  a171:=Tryz.isAgg244
  z171:=Tryz.sizeOf244
  v171:=Tryz.zeroValue244
  t173:=Tryz.underlying247
  a173:=Tryz.isAgg247
  z173:=Tryz.sizeOf247
  v173:=Tryz.zeroValue247
  t212:=Tryz.underlying261
  a212:=Tryz.isAgg261
  z212:=Tryz.sizeOf261
  v212:=Tryz.zeroValue261
  t213:=Tryz.underlying263
  a213:=Tryz.isAgg263
  z213:=Tryz.sizeOf263
  t232:=Tryz.underlying283
  a232:=Tryz.isAgg283
  z232:=Tryz.sizeOf283
  v232:=Tryz.zeroValue283
  t233:=Tryz.underlying284
  a233:=Tryz.isAgg284
  z233:=Tryz.sizeOf284
  v233:=Tryz.zeroValue284
  g17:=by kernel_rfl
  g18:=by kernel_rfl
  g19:=by kernel_rfl
  i0:=by kernel_rfl
  i2:=by kernel_rfl
  i3:=by kernel_rfl
  i4:=by kernel_rfl
  i5:=by kernel_rfl
  i9:=by kernel_rfl
  i20:=by kernel_rfl
  i37:=by kernel_rfl
  i46:=by kernel_rfl
  i51:=by kernel_rfl
  i53:=by kernel_rfl
  i171:=by kernel_rfl
  i173:=by kernel_rfl
  i212:=by kernel_rfl
  i232:=by kernel_rfl
  i233:=by kernel_rfl
  m17:=by kernel_rfl
  m18:=by kernel_rfl
  m19:=by kernel_rfl }
open Go.RowKit Go.Sort Go.Lib in
theorem Tryz.strconv_FormatInt_10 (n : Int) (h0 : -9223372036854775808 <= n) (h1 : n <= 9223372036854775807) (w : World) (htab : Lib.TabIs Tryz.prog w "internal/strconv.uint64pow10" .u64 Lib.pow10Tab) :
    Calls Tryz.prog 136 #[.int .i64 n,.int .i64 10] w fun e w'=>e = .returned (.string ⟨(Lib.itoa n).toArray⟩)/\∃ k os,w' = grow (w.drewN k) os:=Any.strconv_FormatInt_10 Tryz.laysM173 n h0 h1 w htab
def Tryz.laysC172_ren:Go.Shelf.Ren:=⟨fun | 172=>107 | 244=>126 | 245=>127 | 247=>143 | 279=>144 | 280=>145 | 281=>146 | 282=>147 | 287=>163 | 316=>164 | 171=>104 | 205=>165 | 321=>177 | 322=>178 | 243=>124 | 246=>139 | 283=>155 | 284=>156 | 285=>157 | 286=>158 | 129=>168 | 317=>167 | 318=>169 | 319=>170 | 320=>171 | 337=>183 | 338=>184 | n=>n,fun | 9=>9 | 3=>3 | 75=>188 | 76=>189 | 4=>4 | 5=>5 | 167=>235 | 37=>48 | 0=>0 | 85=>218 | 2=>2 | 168=>236 | 53=>96 | 175=>253 | 46=>95 | 210=>257 | 127=>232 | 145=>268 | 143=>266 | 21=>21 | 171=>244 | 173=>247 | 212=>261 | 51=>262 | 20=>20 | 213=>263 | 232=>283 | 233=>284 | 80=>213 | n=>n,fun | 15=>0 | 16=>1 | 17=>3 | 18=>6 | 19=>7 | n=>n⟩
theorem Tryz.laysC172:Go.Proofs.LaysC.n172 Tryz.prog Tryz.laysC172_ren:={
  mixed:=by kernel_rfl
  f129:=Tryz.func168.trans (congrArg some (by kernel_rfl))
  f171:=Tryz.func104.trans (congrArg some (by kernel_rfl))
  f172:=Tryz.func107.trans (congrArg some (by kernel_rfl))
  f205:=Tryz.func165.trans (congrArg some (by kernel_rfl))
  f243:=Tryz.func124.trans (congrArg some (by kernel_rfl))
  f244:=Tryz.func126.trans (congrArg some (by kernel_rfl))
  f245:=Tryz.func127.trans (congrArg some (by kernel_rfl))
  f246:=Tryz.func139.trans (congrArg some (by kernel_rfl))
  f247:=Tryz.func143.trans (congrArg some (by kernel_rfl))
  f279:=Tryz.func144.trans (congrArg some (by kernel_rfl))
  f280:=Tryz.func145.trans (congrArg some (by kernel_rfl))
  f281:=Tryz.func146.trans (congrArg some (by kernel_rfl))
  f282:=Tryz.func147.trans (congrArg some (by kernel_rfl))
  f283:=Tryz.func155.trans (congrArg some (by kernel_rfl))
  f284:=Tryz.func156.trans (congrArg some (by kernel_rfl))
  f285:=Tryz.func157.trans (congrArg some (by kernel_rfl))
  f286:=Tryz.func158.trans (congrArg some (by kernel_rfl))
  f287:=Tryz.func163.trans (congrArg some (by kernel_rfl))
  f316:=Tryz.func164.trans (congrArg some (by kernel_rfl))
  f317:=Tryz.func167.trans (congrArg some (by kernel_rfl))
  f318:=Tryz.func169.trans (congrArg some (by kernel_rfl))
  f319:=Tryz.func170.trans (congrArg some (by kernel_rfl))
  f320:=Tryz.func171.trans (congrArg some (by kernel_rfl))
  f321:=Tryz.func177.trans (congrArg some (by kernel_rfl))
  f322:=Tryz.func178.trans (congrArg some (by kernel_rfl))
  f337:=Tryz.func183.trans (congrArg some (by kernel_rfl))
  f338:=Tryz.func184.trans (congrArg some (by kernel_rfl))
  t0:=Tryz.underlying0
  a0:=Tryz.isAgg0
  z0:=Tryz.sizeOf0
  v0:=Tryz.zeroValue0
  t2:=Tryz.underlying2
  a2:=Tryz.isAgg2
  z2:=Tryz.sizeOf2
  v2:=Tryz.zeroValue2
  t3:=Tryz.underlying3
  a3:=Tryz.isAgg3
  z3:=Tryz.sizeOf3
  v3:=Tryz.zeroValue3
  t4:=Tryz.underlying4
  a4:=Tryz.isAgg4
  z4:=Tryz.sizeOf4
  v4:=Tryz.zeroValue4
  t5:=Tryz.underlying5
  a5:=Tryz.isAgg5
  z5:=Tryz.sizeOf5
  v5:=Tryz.zeroValue5
  t9:=Tryz.underlying9
  a9:=Tryz.isAgg9
  z9:=Tryz.sizeOf9
  v9:=Tryz.zeroValue9
  t20:=Tryz.underlying20
  a20:=Tryz.isAgg20
  z20:=Tryz.sizeOf20
  v20:=Tryz.zeroValue20
  t21:=Tryz.underlying21
  a21:=Tryz.isAgg21
  z21:=Tryz.sizeOf21
  v21:=Tryz.zeroValue21
  t37:=Tryz.underlying48
  a37:=Tryz.isAgg48
  z37:=Tryz.sizeOf48
  v37:=Tryz.zeroValue48
  t46:=Tryz.underlying95
  a46:=Tryz.isAgg95
  z46:=Tryz.sizeOf95
  v46:=Tryz.zeroValue95
  t51:=Tryz.underlying262
  a51:=Tryz.isAgg262
  z51:=Tryz.sizeOf262
  v51:=Tryz.zeroValue262
  t53:=Tryz.underlying96
  a53:=Tryz.isAgg96
  z53:=Tryz.sizeOf96
  v53:=Tryz.zeroValue96
  t75:=Tryz.underlying188
  a75:=Tryz.isAgg188
  z75:=Tryz.sizeOf188
  v75:=Tryz.zeroValue188
  t76:=Tryz.underlying189
  a76:=Tryz.isAgg189
  z76:=Tryz.sizeOf189
  v76:=Tryz.zeroValue189
  t85:=Tryz.underlying218
  a85:=Tryz.isAgg218
  z85:=Tryz.sizeOf218
  v85:=Tryz.zeroValue218
  t127:=Tryz.underlying232
  a127:=Tryz.isAgg232
  z127:=Tryz.sizeOf232
  v127:=Tryz.zeroValue232
  t143:=Tryz.underlying266
  a143:=Tryz.isAgg266
  z143:=Tryz.sizeOf266
  v143:=Tryz.zeroValue266
  t145:=Tryz.underlying268
  a145:=Tryz.isAgg268
  z145:=Tryz.sizeOf268
  v145:=Tryz.zeroValue268
  t167:=Tryz.underlying235
  a167:=Tryz.isAgg235
  z167:=Tryz.sizeOf235
  v167:=Tryz.zeroValue235
  t168:=Tryz.underlying236
  a168:=Tryz.isAgg236
  z168:=Tryz.sizeOf236
  v168:=Tryz.zeroValue236
  t171:=Tryz.underlying244
  a171:=Tryz.isAgg244
  z171:=Tryz.sizeOf244
  v171:=Tryz.zeroValue244
  t173:=Tryz.underlying247
  a173:=Tryz.isAgg247
  z173:=Tryz.sizeOf247
  v173:=Tryz.zeroValue247
  t175:=Tryz.underlying253
  a175:=Tryz.isAgg253
  z175:=Tryz.sizeOf253
  v175:=Tryz.zeroValue253
  t210:=Tryz.underlying257
  a210:=Tryz.isAgg257
  z210:=Tryz.sizeOf257
  v210:=Tryz.zeroValue257
  t212:=Tryz.underlying261
  a212:=Tryz.isAgg261
  z212:=Tryz.sizeOf261
  v212:=Tryz.zeroValue261
  t213:=Tryz.underlying263
  a213:=Tryz.isAgg263
  z213:=Tryz.sizeOf263
  t232:=Tryz.underlying283
  a232:=Tryz.isAgg283
  z232:=Tryz.sizeOf283
  v232:=Tryz.zeroValue283
  t233:=Tryz.underlying284
  a233:=Tryz.isAgg284
  z233:=Tryz.sizeOf284
  v233:=Tryz.zeroValue284
  g15:=by kernel_rfl
  g16:=by kernel_rfl
  g17:=by kernel_rfl
  g18:=by kernel_rfl
  g19:=by kernel_rfl
  t80:=Tryz.underlying213
  a80:=Tryz.isAgg213
  z80:=Tryz.sizeOf213
  v80:=Tryz.zeroValue213
  i0:=by kernel_rfl
  i2:=by kernel_rfl
  i3:=by kernel_rfl
  i4:=by kernel_rfl
  i5:=by kernel_rfl
  i9:=by kernel_rfl
  i20:=by kernel_rfl
  i21:=by kernel_rfl
  i37:=by kernel_rfl
  i46:=by kernel_rfl
  i51:=by kernel_rfl
  i53:=by kernel_rfl
  i75:=by kernel_rfl
  i76:=by kernel_rfl
  i80:=by kernel_rfl
  i85:=by kernel_rfl
  i127:=by kernel_rfl
  i143:=by kernel_rfl
  i145:=by kernel_rfl
  i167:=by kernel_rfl
  i168:=by kernel_rfl
  i171:=by kernel_rfl
  i173:=by kernel_rfl
  i175:=by kernel_rfl
  i210:=by kernel_rfl
  i212:=by kernel_rfl
  i232:=by kernel_rfl
  i233:=by kernel_rfl
  m15:=by kernel_rfl
  m16:=by kernel_rfl
  m17:=by kernel_rfl
  m18:=by kernel_rfl
  m19:=by kernel_rfl
  c0:=by kernel_rfl
  c2:=by kernel_rfl
  c3:=by kernel_rfl
  c4:=by kernel_rfl
  c5:=by kernel_rfl
  c9:=by kernel_rfl
  c20:=by kernel_rfl
  c21:=by kernel_rfl
  c37:=by kernel_rfl
  c46:=by kernel_rfl
  c51:=by kernel_rfl
  c53:=by kernel_rfl
  c75:=by kernel_rfl
  c76:=by kernel_rfl
  c80:=by kernel_rfl
  c85:=by kernel_rfl
  c127:=by kernel_rfl
  c143:=by kernel_rfl
  c145:=by kernel_rfl
  c167:=by kernel_rfl
  c168:=by kernel_rfl
  c171:=by kernel_rfl
  c173:=by kernel_rfl
  c175:=by kernel_rfl
  c210:=by kernel_rfl
  c212:=by kernel_rfl
  c213:=by kernel_rfl
  c232:=by kernel_rfl
  c233:=by kernel_rfl }
open Go.RowKit in
theorem Tryz.strconv_Atoi_ok (s:ByteArray) (hmax:s.size <= 9223372036854775806) (v:Int) (h:Lib.atoiAll s.data.toList = .ok v) (w:World) :
    Calls Tryz.prog 107 #[.string s] w fun e w'=>e = .returned (.tuple #[.int .i64 v,.nilIface])/\(w' = w\/∃ t,w' = Lib.bytesWorld w 5 t):=Any.strconv_Atoi_ok Tryz.laysC172 s hmax v h w
open Go.RowKit in
theorem Tryz.strconv_Atoi_syntax (s:ByteArray) (hlim:s.size <= 281474976710656) (h:Lib.atoiAll s.data.toList = Lib.NumEnd.syntax) (ev:Value) (w:World) (hv:w.cell? ⟨0,0,none⟩ = some ev) (hev:ev = .nilIface\/∃ te pe,ev = .iface te pe) :
    Calls Tryz.prog 107 #[.string s] w fun e w'=>∃ N,e = .returned (.tuple #[.int .i64 (0),.iface 236 (.pointer (some ⟨N,0,none⟩))])/\w.heap.size <= N/\w'.heap[N]? = some (.cells #[.string ⟨#[65,116,111,105]⟩,.string s,ev] 257 (0,0))/\Below w.heap.size w w':=Any.strconv_Atoi_syntax Tryz.laysC172 s hlim h ev w hv hev
open Go.RowKit in
theorem Tryz.strconv_Atoi_range (s:ByteArray) (hlim:s.size <= 281474976710656) (h:Lib.atoiAll s.data.toList = .range) (ev:Value) (w:World) (hv:w.cell? ⟨1,0,none⟩ = some ev) (hev:ev = .nilIface\/∃ te pe,ev = .iface te pe) :
    Calls Tryz.prog 107 #[.string s] w fun e w'=>∃ N,e = .returned (.tuple #[.int .i64 (Lib.atoiSat s.data.toList),.iface 236 (.pointer (some ⟨N,0,none⟩))])/\w.heap.size <= N/\w'.heap[N]? = some (.cells #[.string ⟨#[65,116,111,105]⟩,.string s,ev] 257 (0,0))/\Below w.heap.size w w':=Any.strconv_Atoi_range Tryz.laysC172 s hlim h ev w hv hev
def Tryz.laysC174_ren:Go.Shelf.Ren:=⟨fun | 174=>129 | 247=>143 | 245=>127 | 287=>163 | 279=>144 | 280=>145 | 281=>146 | 282=>147 | 321=>177 | 322=>178 | 316=>164 | 171=>104 | 205=>165 | 243=>124 | 246=>139 | 283=>155 | 284=>156 | 285=>157 | 286=>158 | 129=>168 | 317=>167 | 318=>169 | 319=>170 | 320=>171 | 337=>183 | 338=>184 | n=>n,fun | 9=>9 | 3=>3 | 2=>2 | 75=>188 | 85=>218 | 4=>4 | 167=>235 | 5=>5 | 53=>96 | 175=>253 | 46=>95 | 168=>236 | 37=>48 | 0=>0 | 210=>257 | 21=>21 | 127=>232 | 145=>268 | 143=>266 | 171=>244 | 173=>247 | 212=>261 | 51=>262 | 20=>20 | 213=>263 | 232=>283 | 233=>284 | 80=>213 | n=>n,fun | 15=>0 | 16=>1 | 17=>3 | 18=>6 | 19=>7 | n=>n⟩
theorem Tryz.laysC174:Go.Proofs.LaysC.n174 Tryz.prog Tryz.laysC174_ren:={
  mixed:=by kernel_rfl
  f129:=Tryz.func168.trans (congrArg some (by kernel_rfl))
  f171:=Tryz.func104.trans (congrArg some (by kernel_rfl))
  f174:=Tryz.func129.trans (congrArg some (by kernel_rfl))
  f205:=Tryz.func165.trans (congrArg some (by kernel_rfl))
  f243:=Tryz.func124.trans (congrArg some (by kernel_rfl))
  f245:=Tryz.func127.trans (congrArg some (by kernel_rfl))
  f246:=Tryz.func139.trans (congrArg some (by kernel_rfl))
  f247:=Tryz.func143.trans (congrArg some (by kernel_rfl))
  f279:=Tryz.func144.trans (congrArg some (by kernel_rfl))
  f280:=Tryz.func145.trans (congrArg some (by kernel_rfl))
  f281:=Tryz.func146.trans (congrArg some (by kernel_rfl))
  f282:=Tryz.func147.trans (congrArg some (by kernel_rfl))
  f283:=Tryz.func155.trans (congrArg some (by kernel_rfl))
  f284:=Tryz.func156.trans (congrArg some (by kernel_rfl))
  f285:=Tryz.func157.trans (congrArg some (by kernel_rfl))
  f286:=Tryz.func158.trans (congrArg some (by kernel_rfl))
  f287:=Tryz.func163.trans (congrArg some (by kernel_rfl))
  f316:=Tryz.func164.trans (congrArg some (by kernel_rfl))
  f317:=Tryz.func167.trans (congrArg some (by kernel_rfl))
  f318:=Tryz.func169.trans (congrArg some (by kernel_rfl))
  f319:=Tryz.func170.trans (congrArg some (by kernel_rfl))
  f320:=Tryz.func171.trans (congrArg some (by kernel_rfl))
  f321:=Tryz.func177.trans (congrArg some (by kernel_rfl))
  f322:=Tryz.func178.trans (congrArg some (by kernel_rfl))
  f337:=Tryz.func183.trans (congrArg some (by kernel_rfl))
  f338:=Tryz.func184.trans (congrArg some (by kernel_rfl))
  t0:=Tryz.underlying0
  a0:=Tryz.isAgg0
  z0:=Tryz.sizeOf0
  v0:=Tryz.zeroValue0
  t2:=Tryz.underlying2
  a2:=Tryz.isAgg2
  z2:=Tryz.sizeOf2
  v2:=Tryz.zeroValue2
  t3:=Tryz.underlying3
  a3:=Tryz.isAgg3
  z3:=Tryz.sizeOf3
  v3:=Tryz.zeroValue3
  t4:=Tryz.underlying4
  a4:=Tryz.isAgg4
  z4:=Tryz.sizeOf4
  v4:=Tryz.zeroValue4
  t5:=Tryz.underlying5
  a5:=Tryz.isAgg5
  z5:=Tryz.sizeOf5
  v5:=Tryz.zeroValue5
  t9:=Tryz.underlying9
  a9:=Tryz.isAgg9
  z9:=Tryz.sizeOf9
  v9:=Tryz.zeroValue9
  t20:=Tryz.underlying20
  a20:=Tryz.isAgg20
  z20:=Tryz.sizeOf20
  v20:=Tryz.zeroValue20
  t21:=Tryz.underlying21
  a21:=Tryz.isAgg21
  z21:=Tryz.sizeOf21
  v21:=Tryz.zeroValue21
  t37:=Tryz.underlying48
  a37:=Tryz.isAgg48
  z37:=Tryz.sizeOf48
  v37:=Tryz.zeroValue48
  t46:=Tryz.underlying95
  a46:=Tryz.isAgg95
  z46:=Tryz.sizeOf95
  v46:=Tryz.zeroValue95
  t51:=Tryz.underlying262
  a51:=Tryz.isAgg262
  z51:=Tryz.sizeOf262
  v51:=Tryz.zeroValue262
  t53:=Tryz.underlying96
  a53:=Tryz.isAgg96
  z53:=Tryz.sizeOf96
  v53:=Tryz.zeroValue96
  t75:=Tryz.underlying188
  a75:=Tryz.isAgg188
  z75:=Tryz.sizeOf188
  v75:=Tryz.zeroValue188
  t85:=Tryz.underlying218
  a85:=Tryz.isAgg218
  z85:=Tryz.sizeOf218
  v85:=Tryz.zeroValue218
  t127:=Tryz.underlying232
  a127:=Tryz.isAgg232
  z127:=Tryz.sizeOf232
  v127:=Tryz.zeroValue232
  t143:=Tryz.underlying266
  a143:=Tryz.isAgg266
  z143:=Tryz.sizeOf266
  v143:=Tryz.zeroValue266
  t145:=Tryz.underlying268
  a145:=Tryz.isAgg268
  z145:=Tryz.sizeOf268
  v145:=Tryz.zeroValue268
  t167:=Tryz.underlying235
  a167:=Tryz.isAgg235
  z167:=Tryz.sizeOf235
  v167:=Tryz.zeroValue235
  t168:=Tryz.underlying236
  a168:=Tryz.isAgg236
  z168:=Tryz.sizeOf236
  v168:=Tryz.zeroValue236
  t171:=Tryz.underlying244
  a171:=Tryz.isAgg244
  z171:=Tryz.sizeOf244
  v171:=Tryz.zeroValue244
  t173:=Tryz.underlying247
  a173:=Tryz.isAgg247
  z173:=Tryz.sizeOf247
  v173:=Tryz.zeroValue247
  t175:=Tryz.underlying253
  a175:=Tryz.isAgg253
  z175:=Tryz.sizeOf253
  v175:=Tryz.zeroValue253
  t210:=Tryz.underlying257
  a210:=Tryz.isAgg257
  z210:=Tryz.sizeOf257
  v210:=Tryz.zeroValue257
  t212:=Tryz.underlying261
  a212:=Tryz.isAgg261
  z212:=Tryz.sizeOf261
  v212:=Tryz.zeroValue261
  t213:=Tryz.underlying263
  a213:=Tryz.isAgg263
  z213:=Tryz.sizeOf263
  t232:=Tryz.underlying283
  a232:=Tryz.isAgg283
  z232:=Tryz.sizeOf283
  v232:=Tryz.zeroValue283
  t233:=Tryz.underlying284
  a233:=Tryz.isAgg284
  z233:=Tryz.sizeOf284
  v233:=Tryz.zeroValue284
  g15:=by kernel_rfl
  g16:=by kernel_rfl
  g17:=by kernel_rfl
  g18:=by kernel_rfl
  g19:=by kernel_rfl
  t80:=Tryz.underlying213
  a80:=Tryz.isAgg213
  z80:=Tryz.sizeOf213
  v80:=Tryz.zeroValue213
  i0:=by kernel_rfl
  i2:=by kernel_rfl
  i3:=by kernel_rfl
  i4:=by kernel_rfl
  i5:=by kernel_rfl
  i9:=by kernel_rfl
  i20:=by kernel_rfl
  i21:=by kernel_rfl
  i37:=by kernel_rfl
  i46:=by kernel_rfl
  i51:=by kernel_rfl
  i53:=by kernel_rfl
  i75:=by kernel_rfl
  i80:=by kernel_rfl
  i85:=by kernel_rfl
  i127:=by kernel_rfl
  i143:=by kernel_rfl
  i145:=by kernel_rfl
  i167:=by kernel_rfl
  i168:=by kernel_rfl
  i171:=by kernel_rfl
  i173:=by kernel_rfl
  i175:=by kernel_rfl
  i210:=by kernel_rfl
  i212:=by kernel_rfl
  i232:=by kernel_rfl
  i233:=by kernel_rfl
  m15:=by kernel_rfl
  m16:=by kernel_rfl
  m17:=by kernel_rfl
  m18:=by kernel_rfl
  m19:=by kernel_rfl
  c0:=by kernel_rfl
  c2:=by kernel_rfl
  c3:=by kernel_rfl
  c4:=by kernel_rfl
  c5:=by kernel_rfl
  c9:=by kernel_rfl
  c20:=by kernel_rfl
  c21:=by kernel_rfl
  c37:=by kernel_rfl
  c46:=by kernel_rfl
  c51:=by kernel_rfl
  c53:=by kernel_rfl
  c75:=by kernel_rfl
  c80:=by kernel_rfl
  c85:=by kernel_rfl
  c127:=by kernel_rfl
  c143:=by kernel_rfl
  c145:=by kernel_rfl
  c167:=by kernel_rfl
  c168:=by kernel_rfl
  c171:=by kernel_rfl
  c173:=by kernel_rfl
  c175:=by kernel_rfl
  c210:=by kernel_rfl
  c212:=by kernel_rfl
  c213:=by kernel_rfl
  c232:=by kernel_rfl
  c233:=by kernel_rfl }
open Go.RowKit in
theorem Tryz.strconv_ParseInt_10_at64_ok (s:ByteArray) (hmax:s.size <= 9223372036854775806) (v:Int) (h:Lib.parseIntB 64 s.data.toList = .ok v) (w:World) :
    Calls Tryz.prog 129 #[.string s,.int .i64 10,.int .i64 64] w fun e w'=>e = .returned (.tuple #[.int .i64 v,.nilIface])/\(w' = w\/∃ t,w' = Lib.bytesWorld w 5 t):=Any.strconv_ParseInt_10_at64_ok Tryz.laysC174 s hmax v h w
open Go.RowKit in
theorem Tryz.strconv_ParseInt_10_at64_syntax (s:ByteArray) (hlim:s.size <= 281474976710656) (h:Lib.parseIntB 64 s.data.toList = Lib.NumEnd.syntax) (ev:Value) (w:World) (hv:w.cell? ⟨0,0,none⟩ = some ev) (hev:ev = .nilIface\/∃ te pe,ev = .iface te pe) :
    Calls Tryz.prog 129 #[.string s,.int .i64 10,.int .i64 64] w fun e w'=>∃ N,e = .returned (.tuple #[.int .i64 (0),.iface 236 (.pointer (some ⟨N,0,none⟩))])/\w.heap.size <= N/\w'.heap[N]? = some (.cells #[.string ⟨#[80,97,114,115,101,73,110,116]⟩,.string s,ev] 257 (0,0))/\Below w.heap.size w w':=Any.strconv_ParseInt_10_at64_syntax Tryz.laysC174 s hlim h ev w hv hev
open Go.RowKit in
theorem Tryz.strconv_ParseInt_10_at64_range (s:ByteArray) (hlim:s.size <= 281474976710656) (h:Lib.parseIntB 64 s.data.toList = .range) (ev:Value) (w:World) (hv:w.cell? ⟨1,0,none⟩ = some ev) (hev:ev = .nilIface\/∃ te pe,ev = .iface te pe) :
    Calls Tryz.prog 129 #[.string s,.int .i64 10,.int .i64 64] w fun e w'=>∃ N,e = .returned (.tuple #[.int .i64 (Lib.intSat 64 s.data.toList),.iface 236 (.pointer (some ⟨N,0,none⟩))])/\w.heap.size <= N/\w'.heap[N]? = some (.cells #[.string ⟨#[80,97,114,115,101,73,110,116]⟩,.string s,ev] 257 (0,0))/\Below w.heap.size w w':=Any.strconv_ParseInt_10_at64_range Tryz.laysC174 s hlim h ev w hv hev
def Tryz.lays220_ren:Go.Shelf.Ren:=⟨fun | 220=>148 | 219=>162 | 217=>173 | 225=>174 | 224=>175 | 267=>176 | 266=>185 | 314=>186 | n=>n,fun | 9=>9 | 4=>4 | 3=>3 | 5=>5 | 46=>95 | 146=>279 | 51=>262 | n=>n,fun | 1=>2 | n=>n⟩
def Tryz.lays145_ren:Go.Shelf.Ren:=⟨fun | 145=>128 | 220=>148 | 219=>162 | 217=>173 | 225=>174 | 224=>175 | 267=>176 | 266=>185 | 314=>186 | n=>n,fun | 9=>9 | 4=>4 | 59=>216 | 3=>3 | 5=>5 | 46=>95 | 146=>279 | 51=>262 | n=>n,fun | 1=>2 | n=>n⟩
theorem Tryz.lays145:Go.Proofs.Lays.n145 Tryz.prog Tryz.lays145_ren:={
  mixed:=by kernel_rfl
  f145:=Tryz.func128.trans (congrArg some (by kernel_rfl))
  f217:=Tryz.func173.trans (congrArg some (by kernel_rfl))
  f219:=Tryz.func162.trans (congrArg some (by kernel_rfl))
  f220:=Tryz.func148.trans (congrArg some (by kernel_rfl))
  f224:=Tryz.func175.trans (congrArg some (by kernel_rfl))
  f225:=Tryz.func174.trans (congrArg some (by kernel_rfl))
  f266:=Tryz.func185.trans (congrArg some (by kernel_rfl))
  f267:=Tryz.func176.trans (congrArg some (by kernel_rfl))
  f314:=Tryz.func186.trans (congrArg some (by kernel_rfl))
  t3:=Tryz.underlying3
  a3:=Tryz.isAgg3
  z3:=Tryz.sizeOf3
  v3:=Tryz.zeroValue3
  t4:=Tryz.underlying4
  a4:=Tryz.isAgg4
  z4:=Tryz.sizeOf4
  v4:=Tryz.zeroValue4
  t5:=Tryz.underlying5
  a5:=Tryz.isAgg5
  z5:=Tryz.sizeOf5
  v5:=Tryz.zeroValue5
  t9:=Tryz.underlying9
  a9:=Tryz.isAgg9
  z9:=Tryz.sizeOf9
  v9:=Tryz.zeroValue9
  t46:=Tryz.underlying95
  a46:=Tryz.isAgg95
  z46:=Tryz.sizeOf95
  v46:=Tryz.zeroValue95
  t51:=Tryz.underlying262
  a51:=Tryz.isAgg262
  z51:=Tryz.sizeOf262
  v51:=Tryz.zeroValue262
  t59:=Tryz.underlying216
  a59:=Tryz.isAgg216
  z59:=Tryz.sizeOf216
  v59:=Tryz.zeroValue216
  t146:=Tryz.underlying279
  a146:=Tryz.isAgg279
  z146:=Tryz.sizeOf279
  v146:=Tryz.zeroValue279
  g1:=by kernel_rfl }
open Go.RowKit Go.Lib in
theorem Tryz.strings_Cut (s sep:ByteArray) (m:Int) (w:World) (hs:s.size < 4294967281) (hm:w.cell? ⟨2,0,none⟩ = some (.int .i64 m)) :
    Calls Tryz.prog 128 #[.string s,.string sep] w fun e w'=>e = .returned (.tuple #[.string ⟨(Lib.cut s.data.toList sep.data.toList).1.toArray⟩,.string ⟨(Lib.cut s.data.toList sep.data.toList).2.1.toArray⟩,.bool (Lib.cut s.data.toList sep.data.toList).2.2])/\∃ n,w' = w.drewN n:=Any.strings_Cut Tryz.lays145 s sep m w hs hm
def Tryz.lays221_ren:Go.Shelf.Ren:=⟨fun | 221=>125 | 268=>140 | 138=>141 | 143=>142 | 195=>159 | 197=>160 | 218=>161 | 219=>162 | 260=>172 | 217=>173 | 225=>174 | 224=>175 | 267=>176 | 266=>185 | 314=>186 | n=>n,fun | 9=>9 | 3=>3 | 31=>185 | 4=>4 | 0=>0 | 105=>250 | 21=>21 | 5=>5 | 46=>95 | 119=>275 | 139=>278 | 138=>277 | 146=>279 | 51=>262 | n=>n,fun | 1=>2 | 3=>4 | 4=>5 | n=>n⟩
def Tryz.lays146_ren:Go.Shelf.Ren:=⟨fun | 146=>106 | 221=>125 | 268=>140 | 138=>141 | 143=>142 | 195=>159 | 197=>160 | 218=>161 | 219=>162 | 260=>172 | 217=>173 | 225=>174 | 224=>175 | 267=>176 | 266=>185 | 314=>186 | n=>n,fun | 9=>9 | 31=>185 | 3=>3 | 4=>4 | 0=>0 | 105=>250 | 21=>21 | 5=>5 | 46=>95 | 119=>275 | 139=>278 | 138=>277 | 146=>279 | 51=>262 | n=>n,fun | 1=>2 | 3=>4 | 4=>5 | n=>n⟩
theorem Tryz.lays146:Go.Proofs.Lays.n146 Tryz.prog Tryz.lays146_ren:={
  mixed:=by kernel_rfl
  f138:=Tryz.func141.trans (congrArg some (by kernel_rfl))
  f143:=Tryz.func142.trans (congrArg some (by kernel_rfl))
  f146:=Tryz.func106.trans (congrArg some (by kernel_rfl))
  f195:=Tryz.func159.trans (congrArg some (by kernel_rfl))
  f197:=Tryz.func160.trans (congrArg some (by kernel_rfl))
  f217:=Tryz.func173.trans (congrArg some (by kernel_rfl))
  f218:=Tryz.func161.trans (congrArg some (by kernel_rfl))
  f219:=Tryz.func162.trans (congrArg some (by kernel_rfl))
  f221:=Tryz.func125.trans (congrArg some (by kernel_rfl))
  f224:=Tryz.func175.trans (congrArg some (by kernel_rfl))
  f225:=Tryz.func174.trans (congrArg some (by kernel_rfl))
  f260:=Tryz.func172.trans (congrArg some (by kernel_rfl))
  f266:=Tryz.func185.trans (congrArg some (by kernel_rfl))
  f267:=Tryz.func176.trans (congrArg some (by kernel_rfl))
  f268:=Tryz.func140.trans (congrArg some (by kernel_rfl))
  f314:=Tryz.func186.trans (congrArg some (by kernel_rfl))
  t0:=Tryz.underlying0
  a0:=Tryz.isAgg0
  z0:=Tryz.sizeOf0
  v0:=Tryz.zeroValue0
  t3:=Tryz.underlying3
  a3:=Tryz.isAgg3
  z3:=Tryz.sizeOf3
  v3:=Tryz.zeroValue3
  t4:=Tryz.underlying4
  a4:=Tryz.isAgg4
  z4:=Tryz.sizeOf4
  v4:=Tryz.zeroValue4
  t5:=Tryz.underlying5
  a5:=Tryz.isAgg5
  z5:=Tryz.sizeOf5
  v5:=Tryz.zeroValue5
  t9:=Tryz.underlying9
  a9:=Tryz.isAgg9
  z9:=Tryz.sizeOf9
  v9:=Tryz.zeroValue9
  t21:=Tryz.underlying21
  a21:=Tryz.isAgg21
  z21:=Tryz.sizeOf21
  v21:=Tryz.zeroValue21
  t31:=Tryz.underlying185
  a31:=Tryz.isAgg185
  z31:=Tryz.sizeOf185
  v31:=Tryz.zeroValue185
  t46:=Tryz.underlying95
  a46:=Tryz.isAgg95
  z46:=Tryz.sizeOf95
  v46:=Tryz.zeroValue95
  t51:=Tryz.underlying262
  a51:=Tryz.isAgg262
  z51:=Tryz.sizeOf262
  v51:=Tryz.zeroValue262
  t105:=Tryz.underlying250
  a105:=Tryz.isAgg250
  z105:=Tryz.sizeOf250
  v105:=Tryz.zeroValue250
  t119:=Tryz.underlying275
  a119:=Tryz.isAgg275
  z119:=Tryz.sizeOf275
  t138:=Tryz.underlying277
  a138:=Tryz.isAgg277
  z138:=Tryz.sizeOf277
  v138:=Tryz.zeroValue277
  t139:=Tryz.underlying278
  a139:=Tryz.isAgg278
  z139:=Tryz.sizeOf278
  v139:=Tryz.zeroValue278
  t146:=Tryz.underlying279
  a146:=Tryz.isAgg279
  z146:=Tryz.sizeOf279
  v146:=Tryz.zeroValue279
  g1:=by kernel_rfl
  g3:=by kernel_rfl
  g4:=by kernel_rfl }
open Go.RowKit Go.Lib in
theorem Tryz.strings_Split (s sep:ByteArray) (m:Int) (w:World) (hs:s.size < 4294967281) (hm:w.cell? ⟨2,0,none⟩ = some (.int .i64 m)) (h1:1 <= sep.size) :
    Calls Tryz.prog 106 #[.string s,.string sep] w fun e w' =>
      e = .returned (.slice (some ⟨w.heap.size,0,none⟩) (Lib.countB s sep + 1) (Lib.countB s sep + 1))/\w' = w.alloc (.cells ((Lib.splitB sep 0 (Lib.countB s sep) s).map Value.string).toArray 9):=Any.strings_Split Tryz.lays146 (by kernel_rfl) s sep m w hs hm h1
def Tryz.lays153_ren:Go.Shelf.Ren:=⟨fun | 153=>166 | 152=>179 | 226=>180 | 227=>181 | 228=>182 | 137=>187 | 119=>188 | 224=>175 | 225=>174 | 217=>173 | 266=>185 | n=>n,fun | 9=>9 | 3=>3 | 4=>4 | 5=>5 | 21=>21 | 117=>272 | 116=>271 | 0=>0 | 46=>95 | 124=>282 | n=>n,fun | n=>n⟩
theorem Tryz.lays153:Go.Proofs.Lays.n153 Tryz.prog Tryz.lays153_ren:={
  mixed:=by kernel_rfl
  f119:=Tryz.func188.trans (congrArg some (by kernel_rfl))
  f137:=Tryz.func187.trans (congrArg some (by kernel_rfl))
  f152:=Tryz.func179.trans (congrArg some (by kernel_rfl))
  f153:=Tryz.func166.trans (congrArg some (by kernel_rfl))
  f217:=Tryz.func173.trans (congrArg some (by kernel_rfl))
  f224:=Tryz.func175.trans (congrArg some (by kernel_rfl))
  f225:=Tryz.func174.trans (congrArg some (by kernel_rfl))
  f226:=Tryz.func180.trans (congrArg some (by kernel_rfl))
  f227:=Tryz.func181.trans (congrArg some (by kernel_rfl))
  f228:=Tryz.func182.trans (congrArg some (by kernel_rfl))
  f266:=Tryz.func185.trans (congrArg some (by kernel_rfl))
  t0:=Tryz.underlying0
  a0:=Tryz.isAgg0
  z0:=Tryz.sizeOf0
  v0:=Tryz.zeroValue0
  t3:=Tryz.underlying3
  a3:=Tryz.isAgg3
  z3:=Tryz.sizeOf3
  v3:=Tryz.zeroValue3
  t4:=Tryz.underlying4
  a4:=Tryz.isAgg4
  z4:=Tryz.sizeOf4
  v4:=Tryz.zeroValue4
  t5:=Tryz.underlying5
  a5:=Tryz.isAgg5
  z5:=Tryz.sizeOf5
  v5:=Tryz.zeroValue5
  t9:=Tryz.underlying9
  a9:=Tryz.isAgg9
  z9:=Tryz.sizeOf9
  v9:=Tryz.zeroValue9
  t21:=Tryz.underlying21
  a21:=Tryz.isAgg21
  z21:=Tryz.sizeOf21
  v21:=Tryz.zeroValue21
  t46:=Tryz.underlying95
  a46:=Tryz.isAgg95
  z46:=Tryz.sizeOf95
  v46:=Tryz.zeroValue95
  t116:=Tryz.underlying271
  a116:=Tryz.isAgg271
  z116:=Tryz.sizeOf271
  t117:=Tryz.underlying272
  a117:=Tryz.isAgg272
  z117:=Tryz.sizeOf272
  v117:=Tryz.zeroValue272
  t124:=Tryz.underlying282
  a124:=Tryz.isAgg282
  z124:=Tryz.sizeOf282
  v124:=Tryz.zeroValue282 }
end Go.Proofs
set_option linter.unusedVariables false
set_option linter.unusedSimpArgs false
set_option linter.unusedSectionVars false
namespace Go.Sx
open Go.RowKit
variable {P:Program} {α:Type} [DecidableEq α]
theorem eraseIdx_map' {β γ:Type} (f:β->γ):∀ (l:List β) (j:Nat),(l.eraseIdx j).map f = (l.map f).eraseIdx j
  | [],_ => by simp
  | _ :: _,0 => by simp
  | a :: l,j + 1 => by simp [eraseIdx_map' f l j]
structure KeyT (P:Program) (k:TypeId) (enc:α->Value) (d:TypeDesc):Prop where
  u:P.underlying k = some d
  same:∀ a b,Instr.sameNow d (enc a) (enc b) = some (decide (a = b))
  check:∀ (em:Bool) (a:α) (w:World),(Instr.checkKey em 10000 k (enc a)).run P w = .ok () w
  stay:∀ a,Instr.sameBits 10000 (enc a) (enc a) = true
theorem keyT_int {k:TypeId} {kk:IntKind} (h:P.underlying k = some (.int kk)):KeyT P k (Value.int kk) (.int kk) :=
  ⟨h,fun a b=>by simp [Instr.sameNow]; rfl,fun em a w=>by
      show (Instr.checkKey em (9999 + 1) k (.int kk a)).run P w = _
      unfold Instr.checkKey; simp only [Sem.run_bind,run_underlying h,Result.andThen_ok]; rfl,fun a=>by
      show Instr.sameBits (9999 + 1) (.int kk a) (.int kk a) = true
      unfold Instr.sameBits; simp⟩
theorem bytes_beq (a b:ByteArray):(a == b) = decide (a = b):=by
  have h:(a == b) = (a.data == b.data):=by cases a; cases b; rfl
  rw [h]
  by_cases he:a = b
  · subst he; simp
  · have:a.data ≠ b.data:=fun hd=>he (by cases a; cases b; simp_all)
    simp [he,this]
theorem keyT_str {k:TypeId} (h:P.underlying k = some .string):KeyT P k Value.string .string :=
  ⟨h,fun a b=>by simp [Instr.sameNow,bytes_beq],fun em a w=>by
      show (Instr.checkKey em (9999 + 1) k (.string a)).run P w = _
      unfold Instr.checkKey; simp only [Sem.run_bind,run_underlying h,Result.andThen_ok]; rfl,fun a=>by
      show Instr.sameBits (9999 + 1) (.string a) (.string a) = true
      unfold Instr.sameBits; rw [bytes_beq]; simp⟩
def mget:List (α × Value)->α->Option Value
  | [],_ => none
  | (b,u) :: r,a => if b = a then some u else mget r a
def mset:List (α × Value)->α->Value->List (α × Value)
  | [],a,v => [(a,v)]
  | (b,u) :: r,a,v => if b = a then (a,v) :: r else (b,u) :: mset r a v
def mdel:List (α × Value)->α->List (α × Value)
  | [],_ => []
  | (b,u) :: r,a => if b = a then r else (b,u) :: mdel r a
def mfind:List (α × Value)->α->Nat->Option (Nat × Value)
  | [],_,_ => none
  | (b,u) :: r,a,i => if b = a then some (i,u) else mfind r a (i + 1)
def mkeys (m:List (α × Value)):List α:=m.map (·.1)
theorem mget_mset (m:List (α × Value)) (a b:α) (v:Value):mget (mset m a v) b = if a = b then some v else mget m b:=by
  induction m with
  | nil => rfl
  | cons x r ih =>
    obtain ⟨c,u⟩:=x
    simp only [mset]
    by_cases h:c = a
    · subst h; rw [if_pos rfl]; simp only [mget]
      by_cases hb:c = b
      · rw [if_pos hb,if_pos hb]
      · rw [if_neg hb,if_neg hb,if_neg hb]
    · rw [if_neg h]; simp only [mget,ih]
      by_cases hb:c = b
      · rw [if_pos hb,if_neg (fun he=>h (hb.trans he.symm)),if_pos hb]
      · rw [if_neg hb,if_neg hb]
theorem mkeys_mset (m:List (α × Value)) (a:α) (v:Value):mkeys (mset m a v) = if a ∈ mkeys m then mkeys m else mkeys m ++ [a]:=by
  induction m with
  | nil => rfl
  | cons x r ih =>
    obtain ⟨c,u⟩:=x
    simp only [mset]
    by_cases h:c = a
    · subst h; rw [if_pos rfl]; simp [mkeys]
    · rw [if_neg h]
      have e:mkeys ((c,u) :: mset r a v) = c :: mkeys (mset r a v):=rfl
      rw [e,ih]
      have e2:mkeys ((c,u) :: r) = c :: mkeys r:=rfl
      rw [e2]
      by_cases hm:a ∈ mkeys r
      · rw [if_pos hm,if_pos (by simp [hm])]
      · rw [if_neg hm,if_neg (by simp [hm]; exact fun he=>h he.symm)]; rfl
theorem mget_none {m:List (α × Value)} {a:α}:mget m a = none ↔ a ∉ mkeys m:=by
  induction m with
  | nil => simp [mget,mkeys]
  | cons x r ih =>
    obtain ⟨c,u⟩:=x
    have e2:mkeys ((c,u) :: r) = c :: mkeys r:=rfl
    rw [e2]
    simp only [mget]
    by_cases h:c = a
    · subst h; simp
    · rw [if_neg h,ih]; simp; exact fun _ he=>h he.symm
theorem mget_mdel (m:List (α × Value)) (hn:(mkeys m).Nodup) (a b:α):mget (mdel m a) b = if a = b then none else mget m b:=by
  induction m with
  | nil => simp [mdel,mget]
  | cons x r ih =>
    obtain ⟨c,u⟩:=x
    have e2:mkeys ((c,u) :: r) = c :: mkeys r:=rfl
    rw [e2,List.nodup_cons] at hn
    simp only [mdel]
    by_cases h:c = a
    · subst h; rw [if_pos rfl]; simp only [mget]
      by_cases hb:c = b
      · subst hb; rw [if_pos rfl]; exact mget_none.2 hn.1
      · rw [if_neg hb,if_neg hb]
    · rw [if_neg h]; simp only [mget,ih hn.2]
      by_cases hb:c = b
      · subst hb; rw [if_pos rfl,if_neg (fun he=>h he.symm),if_pos rfl]
      · rw [if_neg hb,if_neg hb]
theorem mkeys_mdel (m:List (α × Value)) (a:α):mkeys (mdel m a) = (mkeys m).erase a:=by
  induction m with
  | nil => rfl
  | cons x r ih =>
    obtain ⟨c,u⟩:=x
    simp only [mdel]
    have e2:mkeys ((c,u) :: r) = c :: mkeys r:=rfl
    by_cases h:c = a
    · subst h; rw [if_pos rfl,e2]; simp
    · rw [if_neg h,e2,List.erase_cons_tail (by simpa using h),<- ih]; rfl
theorem mfind_some {m:List (α × Value)} {a:α} {i j:Nat} {u:Value} (h:mfind m a i = some (j,u)):i <= j/\m[j - i]? = some (a,u)/\(∀ v,mset m a v = m.set (j - i) (a,v))/\mdel m a = m.eraseIdx (j - i)/\mget m a = some u:=by
  induction m generalizing i with
  | nil => simp [mfind] at h
  | cons x r ih =>
    obtain ⟨c,v⟩:=x
    simp only [mfind] at h
    by_cases hc:c = a
    · subst hc
      rw [if_pos rfl] at h
      obtain ⟨rfl,rfl⟩:=Prod.mk.inj (Option.some.inj h)
      refine ⟨Nat.le_refl _,by simp,fun w=>by simp [mset],by simp [mdel],by simp [mget]⟩
    · rw [if_neg hc] at h
      obtain ⟨h1,h2,h3,h4,h5⟩:=ih h
      have e:j - i = (j - (i + 1)) + 1:=by omega
      refine ⟨by omega,by rw [e]; simpa using h2,fun w=>?_,?_,?_⟩
      · rw [e]; simp only [mset,if_neg hc,h3 w,List.set_cons_succ]
      · rw [e]; simp only [mdel,if_neg hc,h4,List.eraseIdx_cons_succ]
      · simp only [mget,if_neg hc,h5]
theorem mfind_none {m:List (α × Value)} {a:α} {i:Nat} (h:mfind m a i = none):(∀ v,mset m a v = m ++ [(a,v)])/\mdel m a = m/\mget m a = none:=by
  induction m generalizing i with
  | nil => exact ⟨fun _ => rfl,rfl,rfl⟩
  | cons x r ih =>
    obtain ⟨c,v⟩:=x
    simp only [mfind] at h
    by_cases hc:c = a
    · rw [if_pos hc] at h; cases h
    · rw [if_neg hc] at h
      obtain ⟨h1,h2,h3⟩:=ih h
      exact ⟨fun w=>by simp [mset,hc,h1 w],by simp [mdel,hc,h2],by simp [mget,hc,h3]⟩
section
variable {k:TypeId} {enc:α->Value} {d:TypeDesc}
theorem findNow_m (K:KeyT P k enc d) (a:α):∀ (m:List (α × Value)) (es:List MapEntry) (i:Nat),es.map (fun e=>(e.key,e.val)) = m.map (fun x=>(enc x.1,x.2))->Instr.findNow d (enc a) es i = some (mfind m a i)
  | [],es,i,h => by
    simp at h; subst h; rfl
  | (b,u) :: m,es,i,h => by
    cases es with
    | nil => simp at h
    | cons e es =>
      simp only [List.map_cons,List.cons.injEq,Prod.mk.injEq] at h
      obtain ⟨⟨h1,h2⟩,h3⟩:=h
      unfold Instr.findNow
      rw [h1,K.same]
      by_cases hab:b = a
      · subst hab; simp [mfind,h2]
      · have:decide (a = b) = false:=by simp; exact fun he=>hab he.symm
        rw [this]; simp only [mfind,if_neg hab]
        exact findNow_m K a m es (i + 1) h3
structure MapIs (enc:α->Value) (w:World) (r:Nat) (m:List (α × Value)):Prop where
  nodup:(mkeys m).Nodup
  es:∃ es clock,w.heap[r]? = some (.map es clock)/\es.toList.map (fun e=>(e.key,e.val)) = m.map (fun x=>(enc x.1,x.2))
theorem MapIs.lt {w:World} {r:Nat} {m:List (α × Value)} (h:MapIs enc w r m):r < w.heap.size:=by
  obtain ⟨es,c,h1,_⟩:=h.es
  exact (Array.getElem?_eq_some_iff.1 h1).1
theorem MapIs.ext {w w':World} {r:Nat} {m:List (α × Value)} (h:MapIs enc w r m) (he:Ext w w'):MapIs enc w' r m:=by
  have hl:=h.lt
  obtain ⟨es,c,h1,h2⟩:=h.es
  exact ⟨h.nodup,es,c,by rw [he.block r hl]; exact h1,h2⟩
theorem MapIs.grew {w w':World} {r:Nat} {m:List (α × Value)} {p q:Option Addr} (h:MapIs enc w r m) (hp:∀ x,p = some x->x.block ≠ r) (hg:Grew w w' p q):MapIs enc w' r m:=by
  have hl:=h.lt
  obtain ⟨es,c,h1,h2⟩:=h.es
  refine ⟨h.nodup,es,c,?_,h2⟩
  rw [hg.by_.block r hl fun he=>?_]
  · exact h1
  · cases p with
    | none => cases he
    | some x => simp [blk] at he; exact hp x rfl he.symm
theorem run_makeMap {t:TypeId} {w:World} {K:Value->World->Prop} (hk:∀ w',MapIs enc w' w.heap.size []->Ext w w'->K (.map (some w.heap.size)) w'):Run P (.makeMap t) w K:=by
  refine ⟨_,w.alloc (.map #[] 0),rfl,hk _ ⟨by simp [mkeys],#[],0,?_,rfl⟩ (Below.alloc (Below.refl _ _) (Nat.le_refl _) _)⟩
  exact heap_alloc_new w _
theorem findKey_m (K:KeyT P k enc d) {w:World} {m:List (α × Value)} {es:Array MapEntry} (h:es.toList.map (fun e=>(e.key,e.val)) = m.map (fun x=>(enc x.1,x.2))) (a:α):(Instr.findKey k (enc a) es.toList).run P w = .ok (mfind m a 0) w:=by
  unfold Instr.findKey
  rw [Sem.run_bind,run_underlying K.u,Result.andThen_ok,findNow_m K a m _ 0 h]
  simp
theorem getObj_run {w:World} {r:Nat} {es:Array MapEntry} {c:Nat} (h:w.heap[r]? = some (.map es c)):(getObj r).run P w = .ok (.map es c) w:=by simp [getObj,Sem.run,h]
theorem run_lookup (K:KeyT P k enc d) {t e:TypeId} (ht:P.underlying t = some (.map k e)) {i:TypeInfo} {z:Value} (hi:P.info? e = some i) (hz:i.zero = some z) {w:World} {r:Nat} {m:List (α × Value)} (h:MapIs enc w r m) {a:α} {ok:Bool} {Q:Value->World->Prop}
    (hk:Q (if ok then .tuple #[(mget m a).getD z,.bool (mget m a).isSome] else (mget m a).getD z) w):Run P (.lookup t (.map (some r)) (enc a) ok) w Q:=by
  obtain ⟨es,c,h1,h2⟩:=h.es
  refine ⟨_,w,?_,hk⟩
  show (Instr.lookup t (.map (some r)) (enc a) ok).run P w = _
  have hzv:(zeroValue e).run P w = .ok z w:=by simp [zeroValue,typeInfo,hi,hz]
  unfold Instr.lookup
  simp only [Sem.run_bind,run_underlying ht,Result.andThen_ok,getObj_run h1,Sem.run_pure,K.check,findKey_m K h2]
  cases hf:mfind m a 0 with
  | none =>
    have:=(mfind_none hf).2.2
    cases ok <;> simp [this,hzv]
  | some x =>
    obtain ⟨j,u⟩:=x
    have:=(mfind_some hf).2.2.2.2
    cases ok <;> simp [this]
theorem run_look (K:KeyT P k enc d) {t e:TypeId} (ht:P.underlying t = some (.map k e)) {sz b:Nat} {t':TypeId} {z:Value} (he:slEl P t' = some (e,sz,b,z)) {w:World} {r:Nat} {m:List (α × Value)} (h:MapIs enc w r m) {a:α} {Q:Value->World->Prop}
    (hk:Q ((mget m a).getD z) w):Run P (.lookup t (.map (some r)) (enc a) false) w Q:=by
  obtain ⟨i,_,h2,h6,_⟩:=slEl_some he
  exact run_lookup K ht h2 h6 h hk
theorem setObj_frame {w:World} {r:Nat} {es es':Array MapEntry} {c c':Nat} (h:w.heap[r]? = some (.map es c)):∃ w',(setObj r (.map es' c')).run P w = .ok () w'/\w'.heap[r]? = some (.map es' c')/\Grew w w' (some ⟨r,0,none⟩) (some ⟨r,0,none⟩):=by
  have hl:=(Array.getElem?_eq_some_iff.1 h).1
  refine ⟨{ w with heap:=w.heap.setIfInBounds r (.map es' c') },by simp [setObj,Sem.run,h],by simp [hl],⟨⟨rfl,rfl,rfl,by simp,fun j hj hne=>?_⟩,.inl rfl⟩⟩
  have:r ≠ j:=fun he=>hne (by simp [blk,he])
  simp [Array.getElem?_setIfInBounds,this]
theorem run_mapUpdate (K:KeyT P k enc d) {t e:TypeId} (ht:P.underlying t = some (.map k e)) {w:World} {r:Nat} {m:List (α × Value)} (h:MapIs enc w r m) {a:α} {v:Value} {Q:Value->World->Prop}
    (hk:∀ w',MapIs enc w' r (mset m a v)->Grew w w' (some ⟨r,0,none⟩) (some ⟨r,0,none⟩)->Q undef w'):Run P (.mapUpdate t (.map (some r)) (enc a) v) w Q:=by
  obtain ⟨es,c,h1,h2⟩:=h.es
  have hn:(mkeys (mset m a v)).Nodup:=by
    rw [mkeys_mset]
    split
    · exact h.nodup
    · rename_i hm
      rw [List.nodup_append]
      exact ⟨h.nodup,by simp,fun x hx y hy he=>by simp at hy; subst hy; subst he; exact hm hx⟩
  cases hf:mfind m a 0 with
  | none =>
    obtain ⟨g1,_,g3⟩:=mfind_none hf
    obtain ⟨w',r1,r2,r3⟩:=setObj_frame (P:=P) (es':=es.push { key:=enc a,val:=v,born:=c }) (c':=c + 1) h1
    refine ⟨_,w',?_,hk w' ⟨hn,_,_,r2,?_⟩ r3⟩
    · show (do Instr.mapUpdate t (.map (some r)) (enc a) v; pure undef:Sem Value).run P w = _
      unfold Instr.mapUpdate
      simp only [Sem.run_bind,run_underlying ht,Result.andThen_ok,getObj_run h1,K.check,findKey_m K h2,hf,r1,Sem.run_pure]
    · rw [g1]; simp [h2]
  | some x =>
    obtain ⟨j,u⟩:=x
    obtain ⟨_,g2,g3,_,_⟩:=mfind_some hf
    rw [Nat.sub_zero] at g2
    have hj:j < es.size:=by
      have:=congrArg List.length h2
      simp at this
      have:=(List.getElem?_eq_some_iff.1 g2).1
      omega
    have hkey:es[j].key = enc a:=by
      have:=congrArg (fun l=>l[j]?) h2
      simp [g2,hj] at this
      exact this.1
    have hst:(Instr.keyThatStays (enc a) (enc a)).run P w = .ok (enc a) w:=by unfold Instr.keyThatStays; rw [K.stay]; simp
    obtain ⟨w',r1,r2,r3⟩:=setObj_frame (P:=P) (es':=es.modify j fun e=>{ e with key:=enc a,val:=v }) (c':=c) h1
    refine ⟨_,w',?_,hk w' ⟨hn,_,_,r2,?_⟩ r3⟩
    · show (do Instr.mapUpdate t (.map (some r)) (enc a) v; pure undef:Sem Value).run P w = _
      unfold Instr.mapUpdate
      simp only [Sem.run_bind,run_underlying ht,Result.andThen_ok,getObj_run h1,K.check,findKey_m K h2,hf]
      simp only [Array.getElem?_eq_getElem hj,Option.map_some,Option.getD_some,hkey,hst,Result.andThen_ok,r1,Sem.run_pure]
    · rw [g3,Nat.sub_zero]
      apply List.ext_getElem?
      intro i
      rw [List.map_set,<- h2]
      simp only [List.getElem?_map,Array.getElem?_toList,Array.getElem?_modify,List.getElem?_set,List.length_map,Array.length_toList]
      by_cases hij:j = i
      · subst hij; simp [hj]
      · simp [hij]
theorem run_delete (K:KeyT P k enc d) {t e ty:TypeId} {ts:List TypeId} (ht:P.underlying t = some (.map k e)) {w:World} {r:Nat} {m:List (α × Value)} (h:MapIs enc w r m) {a:α} {Q:Value->World->Prop}
    (hk:∀ w',MapIs enc w' r (mdel m a)->Grew w w' (some ⟨r,0,none⟩) (some ⟨r,0,none⟩)->Q (.tuple #[]) w'):Run P (.delete (t :: ts).toArray ty [.map (some r),enc a]) w Q:=by
  obtain ⟨es,c,h1,h2⟩:=h.es
  have hn:(mkeys (mdel m a)).Nodup:=by rw [mkeys_mdel]; exact h.nodup.erase _
  cases hf:mfind m a 0 with
  | none =>
    obtain ⟨_,g1,g3⟩:=mfind_none hf
    obtain ⟨w',r1,r2,r3⟩:=setObj_frame (P:=P) (es':=es) (c':=c) h1
    refine ⟨_,w',?_,hk w' ⟨hn,_,_,r2,by rw [g1]; exact h2⟩ r3⟩
    show (Builtin.delete_ (t :: ts).toArray ty #[.map (some r),enc a]).run P w = _
    unfold Builtin.delete_
    simp [run_underlying ht,getObj_run h1,K.check,findKey_m K h2,hf,r1]
  | some x =>
    obtain ⟨j,u⟩:=x
    obtain ⟨_,g2,_,g4,_⟩:=mfind_some hf
    rw [Nat.sub_zero] at g2 g4
    obtain ⟨w',r1,r2,r3⟩:=setObj_frame (P:=P) (es':=es.eraseIdxIfInBounds j) (c':=c) h1
    refine ⟨_,w',?_,hk w' ⟨hn,_,_,r2,?_⟩ r3⟩
    · show (Builtin.delete_ (t :: ts).toArray ty #[.map (some r),enc a]).run P w = _
      unfold Builtin.delete_
      simp [run_underlying ht,getObj_run h1,K.check,findKey_m K h2,hf,r1]
    · have hj:j < es.size:=by
        have:=congrArg List.length h2
        simp at this
        have:=(List.getElem?_eq_some_iff.1 g2).1
        omega
      rw [g4]
      have:(es.eraseIdxIfInBounds j).toList = es.toList.eraseIdx j:=by simp [Array.eraseIdxIfInBounds,hj]
      rw [this,eraseIdx_map',h2,<- eraseIdx_map']
end
end Go.Sx
set_option linter.unusedVariables false
set_option linter.unusedSimpArgs false
namespace Go.Sx
open Go.RowKit
variable {P:Program}
structure HRow where
  e:TypeId
  s:Nat
  p:Option Addr
  n:Nat
  c:Nat
  xs:List Value
def HRow.ok (B:Nat) (w:World) (r:HRow):Prop:=Own B w r.e r.s r.p r.n r.c r.xs
structure Held (w0:World) (ns:List Nat) (w:World) (rs:List HRow):Prop where
  ext:Ext w0 w
  own:∀ (i:Nat) (r:HRow),rs[i]? = some r->r.ok w0.heap.size w
  apart:∀ (i j:Nat) (a b:HRow),i ≠ j->rs[i]? = some a->rs[j]? = some b->Apart a.p b.p
  free:∀ (i:Nat) (r:HRow),rs[i]? = some r->∀ b ∈ ns,∀ x,r.p = some x->x.block ≠ b
theorem Held.nil {w0 w:World} {ns:List Nat} (h:Ext w0 w):Held w0 ns w [] :=
  ⟨h,fun i r hr=>by simp at hr,fun i j a b _ ha=>by simp at ha,fun i r hr=>by simp at hr⟩
theorem Held.get {w0 w:World} {ns:List Nat} {rs:List HRow} (h:Held w0 ns w rs) (i:Nat) {e:TypeId} {s:Nat} {p:Option Addr} {n c:Nat} {xs:List Value} (hi:rs[i]? = some ⟨e,s,p,n,c,xs⟩):Own w0.heap.size w e s p n c xs:=h.own i _ hi
theorem Held.to {w0 w w':World} {ns:List Nat} {rs:List HRow} (h:Held w0 ns w rs) (he:Ext w w'):Held w0 ns w' rs :=
  ⟨h.ext.trans he,fun i r hr=>(h.own i r hr).ext he,h.apart,h.free⟩
theorem Held.put {w0 w w':World} {ns:List Nat} {rs:List HRow} (h:Held w0 ns w rs) (i:Nat) {r r':HRow} (hi:rs[i]? = some r) (o:r'.ok w0.heap.size w') (g:Grew w w' r.p r'.p) (hf:∀ b ∈ ns,b < w.heap.size):Held w0 ns w' (rs.set i r'):=by
  have hlt:i < rs.length:=by
    rcases Nat.lt_or_ge i rs.length with h | h
    · exact h
    · rw [List.getElem?_eq_none h] at hi; cases hi
  have key:∀ (j:Nat) (a:HRow),(rs.set i r')[j]? = some a->(j = i/\a = r')\/(j ≠ i/\rs[j]? = some a):=by
    intro j a ha
    rw [List.getElem?_set] at ha
    by_cases hij:i = j
    · subst hij
      rw [if_pos rfl,if_pos hlt] at ha
      exact .inl ⟨rfl,(Option.some.inj ha).symm⟩
    · rw [if_neg hij] at ha
      exact .inr ⟨fun h=>hij h.symm,ha⟩
  have hap:∀ (j:Nat) (a:HRow),j ≠ i->rs[j]? = some a->Apart a.p r'.p:=fun j a hj ha=>(h.apart j i a r hj ha hi).grew (h.own j a ha) g
  refine ⟨g.ext h.ext (h.own i r hi),fun j a ha=>?_,fun j k a b hjk ha hb=>?_,fun j a ha b hb x hx=>?_⟩
  · rcases key j a ha with ⟨h1,h2⟩ | ⟨hj,ha'⟩
    · rw [h2]; exact o
    · exact (h.own j a ha').st (h.apart j i a r hj ha' hi) g
  · rcases key j a ha with ⟨h1,h2⟩ | ⟨hj,ha'⟩
    · rcases key k b hb with ⟨h3,h4⟩ | ⟨hk,hb'⟩
      · exact absurd (h1.trans h3.symm) hjk
      · rw [h2]; exact (hap k b hk hb').symm
    · rcases key k b hb with ⟨h3,h4⟩ | ⟨hk,hb'⟩
      · rw [h4]; exact hap j a hj ha'
      · exact h.apart j k a b hjk ha' hb'
  · rcases key j a ha with ⟨h1,h2⟩ | ⟨hj,ha'⟩
    · subst h2
      rcases g.new with hn | hn
      · cases hp:r.p with
        | none => rw [hp,hx] at hn; simp [blk] at hn
        | some y =>
          rw [hp,hx] at hn
          simp only [blk,Option.map_some,Option.some.injEq] at hn
          rw [hn]
          exact h.free _ r hi b hb y hp
      · have:=hn x hx
        have:=hf b hb
        omega
    · exact h.free j a ha' b hb x hx
theorem Held.new {w0 w w':World} {ns:List Nat} {rs:List HRow} (h:Held w0 ns w rs) {r:HRow} (o:r.ok w0.heap.size w') (he:Ext w w') (hn:∀ a,r.p = some a->w.heap.size <= a.block) (hf:∀ b ∈ ns,b < w.heap.size):Held w0 ns w' (r :: rs):=by
  refine ⟨h.ext.trans he,fun j a ha=>?_,fun j k a b hjk ha hb=>?_,fun j a ha b hb x hx=>?_⟩
  · cases j with
    | zero => simp at ha; subst ha; exact o
    | succ j => exact (h.own j a (by simpa using ha)).ext he
  · have hnew:∀ (j:Nat) (a:HRow),rs[j]? = some a->Apart a.p r.p:=fun j a ha x y hx hy hxy=>by
      have:=(h.own j a ha).lt x hx
      have:=hn y hy
      omega
    cases j with
    | zero =>
      simp at ha; subst ha
      cases k with
      | zero => exact absurd rfl hjk
      | succ k => exact (hnew k b (by simpa using hb)).symm
    | succ j =>
      cases k with
      | zero => simp at hb; subst hb; exact hnew j a (by simpa using ha)
      | succ k => exact h.apart j k a b (fun h => hjk (by omega)) (by simpa using ha) (by simpa using hb)
  · cases j with
    | zero =>
      simp at ha; subst ha
      have:=hn x hx
      have:=hf b hb
      omega
    | succ j => exact h.free j a (by simpa using ha) b hb x hx
theorem Held.new0 {w0 w w':World} {ns:List Nat} {rs:List HRow} (h:Held w0 ns w rs) {e:TypeId} {s n c:Nat} {xs:List Value} (o:∀ B,B <= w.heap.size->Own B w' e s (some ⟨w.heap.size,0,none⟩) n c xs) (he:Ext w w') (hf:∀ b ∈ ns,b < w.heap.size):Held w0 ns w' (⟨e,s,some ⟨w.heap.size,0,none⟩,n,c,xs⟩ :: rs) :=
  h.new (o _ h.ext.size) he (fun a ha=>by obtain rfl:=Option.some.inj ha; simp) hf
theorem Held.store {w0 w:World} {ns:List Nat} {rs:List HRow} (h:Held w0 ns w rs) (i:Nat) {e:TypeId} {s:Nat} {p a:Option Addr} {n c:Nat} {xs vs:List Value} (hi:rs[i]? = some ⟨e,s,p,n,c,xs⟩) (off:Nat) {K:World->Prop} (ha:a = p.map (·.add off)) (hlen:off + vs.length <= xs.length) (hpos:vs ≠ [])
    (h1:∀ v ∈ vs,v.oneCell' = true) (hf:∀ b ∈ ns,b < w.heap.size) (hk:∀ w',Held w0 ns w' (rs.set i ⟨e,s,p,n,c,setAt xs off vs⟩)->Grew w w' p p->K w'):Store w a vs ns K :=
  store_own (h.get i hi) ha hlen hpos h1 (fun b hb x hx=>h.free i _ hi b hb x hx) fun w' o g=>hk w' (h.put i hi o g hf) g
section make
variable {w0 w:World} {ns:List Nat} {rs:List HRow}
theorem Held.new_row {t:TypeId} {vs:List Value} (h:Held w0 ns w rs) (h1:∀ v ∈ vs,v.oneCell' = true) (hf:∀ b ∈ ns,b < w.heap.size) {K:Option Addr->World->Prop}
    (hk:∀ p w',Held w0 ns w' (⟨t,vs.length,p,1,1,vs⟩ :: rs)->Ext w w'->K p w'):New w t vs K :=
  new_own h1 fun w' o e=>hk _ w' (h.new0 o e hf) e
end make
end Go.Sx
set_option linter.unusedVariables false
set_option linter.unusedSimpArgs false
namespace Go.Sx
open Go.RowKit
variable {P:Program}
structure Fr (S:Nat->Prop) (w w':World):Prop where
  os:w'.os = w.os
  tape:w'.tape = w.tape
  output:w'.output = w.output
  size:w.heap.size <= w'.heap.size
  block:∀ k,k < w.heap.size->¬ S k->w'.heap[k]? = w.heap[k]?
theorem Fr.refl (S:Nat->Prop) (w:World):Fr S w w:=⟨rfl,rfl,rfl,Nat.le_refl _,fun _ _ _=>rfl⟩
theorem Fr.trans {S S':Nat->Prop} {w w' w'':World} (h:Fr S w w') (k:Fr S' w' w'') (hs:∀ b,S' b->S b\/w.heap.size <= b):Fr S w w'' :=
  ⟨k.os.trans h.os,k.tape.trans h.tape,k.output.trans h.output,Nat.le_trans h.size k.size,fun b hb hn =>
    (k.block b (Nat.lt_of_lt_of_le hb h.size) fun h'=>(hs b h').elim hn fun h=>by omega).trans (h.block b hb hn)⟩
theorem Fr.tr {S:Nat->Prop} {w w' w'':World} (h:Fr S w w') (k:Fr S w' w''):Fr S w w'':=h.trans k fun _ h=>.inl h
theorem Fr.mono {S S':Nat->Prop} {w w':World} (h:Fr S w w') (hs:∀ b,S b->S' b):Fr S' w w':=⟨h.os,h.tape,h.output,h.size,fun b hb hn=>h.block b hb fun h'=>hn (hs b h')⟩
theorem fr_ext {S:Nat->Prop} {w w':World} (h:Ext w w'):Fr S w w':=⟨h.os,h.tape,h.output,h.size,fun b hb _=>h.block b hb⟩
theorem fr_extB {S:Nat->Prop} {ds ns:List Nat} {w w':World} (h:ExtB ds ns w w') (hd:∀ d ∈ ds,S d\/w.heap.size <= d):Fr S w w':=⟨h.os,h.tape,h.output,h.size,fun b hb hn=>h.block b hb fun h'=>(hd b h').elim hn fun h=>by omega⟩
theorem fr_grew {S:Nat->Prop} {w w':World} {p q:Option Addr} (h:Grew w w' p q) (hs:∀ a,p = some a->S a.block):Fr S w w' :=
  ⟨h.by_.os,h.by_.tape,h.by_.output,h.by_.size,fun b hb hn=>h.by_.block b hb fun he=>by
    cases p with
    | none => simp [blk] at he
    | some a => simp [blk] at he; exact hn (he ▸ hs a rfl)⟩
theorem Fr.ext {S:Nat->Prop} {w0 w w':World} (h:Fr S w w') (h0:Ext w0 w) (hs:∀ b,S b->w0.heap.size <= b):Ext w0 w' :=
  ⟨h.os.trans h0.os,h.tape.trans h0.tape,h.output.trans h0.output,Nat.le_trans h0.size h.size,fun b hb=>(h.block b (Nat.lt_of_lt_of_le hb h0.size) fun h'=>by have:=hs b h'; omega).trans (h0.block b hb)⟩
theorem Fr.kept {S:Nat->Prop} {w w':World} {ns:List Nat} (h:Fr S w w') (hn:∀ b ∈ ns,b < w.heap.size/\¬ S b):Kept ns w w':=fun b hb=>h.block b (hn b hb).1 (hn b hb).2
theorem Own.fr {B:Nat} {S:Nat->Prop} {w w':World} {e:TypeId} {s:Nat} {p:Option Addr} {n c:Nat} {xs:List Value} (h:Own B w e s p n c xs) (k:Fr S w w') (hp:∀ a,p = some a->¬ S a.block):Own B w' e s p n c xs:=by
  cases p with
  | none =>
    refine ⟨h.1,?_⟩
    rcases h.2 with hn | ⟨g,cap,cur,hv,_⟩
    · exact .inl hn
    · simp at hv
  | some a =>
    refine ⟨h.1,?_⟩
    rcases h.2 with hn | ⟨g,cap,cur,hv,hb,hg,rest⟩
    · exact .inl hn
    · refine .inr ⟨g,cap,cur,hv,hb,?_,rest⟩
      have:a = ⟨g,0,none⟩:=by simp at hv; exact hv.1
      have hlt:=(h.lt a rfl).2
      subst this
      rw [k.block g hlt (hp _ rfl)]; exact hg
theorem Cells.fr {S:Nat->Prop} {w w':World} {p:Option Addr} {vs:List Value} (h:Cells w p vs) (k:Fr S w w') (hp:∀ a,p = some a->¬ S a.block):Cells w' p vs:=by
  intro i v hv
  obtain ⟨a,rfl,hb,hc⟩:=cell_some (h i v hv)
  show w'.cell? (a.add i) = some v
  rw [World.cell?_of_block (w:=w) (by rw [add_block]; exact k.block _ hb (hp a rfl))]
  exact hc
theorem cell_fr {S:Nat->Prop} {w w':World} {p:Option Addr} {i:Nat} {v:Value} (h:cell w p i = some v) (k:Fr S w w') (hp:∀ a,p = some a->¬ S a.block):cell w' p i = some v:=by
  obtain ⟨a,rfl,hb,hc⟩:=cell_some h
  show w'.cell? (a.add i) = some v
  rw [World.cell?_of_block (w:=w) (by rw [add_block]; exact k.block _ hb (hp a rfl))]
  exact hc
theorem MapIs.fr {α:Type} [DecidableEq α] {enc:α->Value} {S:Nat->Prop} {w w':World} {r:Nat} {m:List (α × Value)} (h:MapIs enc w r m) (k:Fr S w w') (hp:¬ S r):MapIs enc w' r m:=by
  obtain ⟨es,c,h1,h2⟩:=h.es
  exact ⟨h.nodup,es,c,(k.block r h.lt hp).trans h1,h2⟩
theorem Own.cellAt {B:Nat} {w:World} {e:TypeId} {s:Nat} {p:Option Addr} {n c:Nat} {xs:List Value} (h:Own B w e s p n c xs) {i:Nat} {v:Value} (hv:xs[i]? = some v):cell w p i = some v:=h.cells i v hv
theorem Own.cellAt0 {B:Nat} {w:World} {e:TypeId} {s:Nat} {p:Option Addr} {n c:Nat} {xs:List Value} (h:Own B w e s p n c xs) {i:Nat} {v:Value} (hv:xs[i]? = some v):cell w (pAdd p i) 0 = some v:=by rw [cell_pAdd]; exact h.cells i v hv
theorem pAdd_zero (p:Option Addr):pAdd p 0 = p:=by cases p <;> simp [pAdd,add_zero]
theorem store_one {B:Nat} {w:World} {e:TypeId} {s:Nat} {q:Option Addr} {n c off:Nat} {xs:List Value} {v:Value} {ns:List Nat} {K:World->Prop}
    (ho:Own B w e s q n c xs) (hlen:off < xs.length) (h1:v.oneCell' = true) (hns:∀ b ∈ ns,∀ x,q = some x->x.block ≠ b)
    (hk:∀ w',Own B w' e s q n c (xs.set off v)->Grew w w' q q->K w'):Store w (pAdd q off) [v] ns K :=
  store_own ho rfl (by simp; omega) (by simp) (by simpa using h1) hns hk
theorem method_at {t:TypeId} {i:TypeInfo} {m:Method} {f:FuncId} {pr:Bool} {name:String} {v r:Value} {w:World} {n:Nat} (hi:P.info? t = some i) (hm:i.methods.find? (·.name == name) = some m) (hp:m.path = #[]) (hf:m.func = some (f,pr))
    (hr : (receiverAt t (.val v) pr (some ((name.splitOn ".").getLastD name))).run P w = .ok r w) : (method (n + 1) t v name).run P w = .ok (f, r) w := by
  have h1:(typeInfo t).run P w = .ok i w:=by
    unfold typeInfo
    simp only [Sem.run_bind]
    rw [show Sem.run P program w = .ok P w from rfl]
    simp [hi]
  simp only [method,Sem.run_bind,h1,Result.andThen_ok,hm,hp,hf]
  simp [follow] at hr ⊢
  rw [hr]; rfl
theorem recv_ptr {t e:TypeId} (ht:P.underlying t = some (.pointer e)) {v:Value} {o:Option String} {w:World}:(receiverAt t (.val v) true o).run P w = .ok v w:=by
  unfold receiverAt
  simp only [Sem.run_bind]
  rw [show (underlying t).run P w = .ok (.pointer e) w from by
    unfold underlying
    simp only [Sem.run_bind]
    rw [show Sem.run P program w = .ok P w from rfl]
    simp [ht]]
  simp [Place.get]
theorem recv_load {t e:TypeId} {d:TypeDesc} (ht:P.underlying t = some (.pointer e)) (hd:P.underlying e = some d) (ha:isAggT P e = false) {a:Addr} {v:Value} {o:Option String} {w:World} (hc:cell w (some a) 0 = some v):(receiverAt t (.val (.pointer (some a))) false o).run P w = .ok v w:=by
  have hc':w.cell? a = some v:=by simpa [cell,add_zero] using hc
  unfold receiverAt
  simp only [Sem.run_bind]
  rw [show (underlying t).run P w = .ok (.pointer e) w from run_underlying ht w]
  cases o with
  | none => simp [Place.get,loadVar,run_isAgg' hd,ha,hc',asAddr]
  | some name =>
    have e : Builtin.ssaWrapNilChk_ #[t] t #[.pointer (some a), strVal "", strVal name] = pure (.pointer (some a)) := rfl
    simp [Place.get,e,loadVar,run_isAgg' hd,ha,hc',asAddr]
theorem run_iface {t:TypeId} {d:TypeDesc} (ht:P.underlying t = some d) (hn:∀ m,d ≠ .interface m) {v:Value} {w:World} {K:Value->World->Prop} (h:K (.iface t v) w):Run P (.makeInterface t v) w K:=by
  refine ⟨.iface t v,w,?_,h⟩
  simp only [MC.sem,Instr.makeInterface,Sem.run_bind,run_underlying ht,Result.andThen_ok]
  cases d <;> first | rfl | exact absurd rfl (hn _)
theorem run_assert {t x:TypeId} {d:TypeDesc} (ht:P.underlying t = some d) (hn:∀ m,d ≠ .interface m) {v:Value} {w:World} {K:Value->World->Prop} (h:K v w):Run P (.typeAssert (.iface t v) x t false) w K:=by
  refine ⟨v,w,?_,h⟩
  simp only [MC.sem,Instr.typeAssert,Sem.run_bind,run_underlying ht,Result.andThen_ok]
  cases d <;> first | simp | exact absurd rfl (hn _)
theorem push_B {t ty e:TypeId} {s b:Nat} {z:Value} (he:slEl P t = some (e,s,b,z)) (hs:0 < s) {B:Nat} {w:World} {p:Option Addr} {n c:Nat} {xs:List Value} {v:Value} {ns:List Nat}
    {K:Option Addr->Nat->Nat->World->Prop} (ho:Own B w e s p n c xs) (hB:B <= w.heap.size) (hns:∀ b ∈ ns,∀ x,p = some x->x.block ≠ b) (hv:v.cells.size = s) (h1:∀ u ∈ v.cells.toList,u.oneCell' = true) (hb:(n + 1) * b <= 140737488355328) (hs24:s <= 16777216) (hm:n + 1 <= 9223372036854775807)
    (hk:∀ p' c' w',Own B w' e s p' (n + 1) c' (xs ++ v.cells.toList)->Grew w w' p p'->p' ≠ none->(∀ b ∈ ns,∀ x,p' = some x->x.block ≠ b)->K p' (n + 1) c' w') :
    ∀ w1,ExtB [] ns w w1->Run P (.buildSlice t 1 [(0,v)]) w1 fun v2 w2=>Ext w1 w2/\∃ q:Option Addr,∃ m:Nat,∃ d:Nat,v2 = .slice q m d/\∀ w3,ExtB [] ns w2 w3 ->
      Run P (.append #[t,t] ty [.slice p n c,.slice q m d]) w3 fun v4 w4=>Kept ns w3 w4/\∃ q':Option Addr,∃ m':Nat,∃ d':Nat,v4 = .slice q' m' d'/\K q' m' d' w4:=by
  intro w1 x1
  have e1:=extB_ext x1
  refine run_lit he [v] rfl rfl (fun u hu=>by simp at hu; subst hu; exact hv) (by omega) (by omega) fun w2 o2 e2=>⟨e2,_,_,_,rfl,fun w3 x3=>?_⟩
  have e3:=extB_ext x3
  have o2:=(o2 w1.heap.size (Nat.le_refl _)).ext e3
  have ho':=((ho.ext e1).ext e2).ext e3
  have hsz:B <= w3.heap.size:=Nat.le_trans hB (Nat.le_trans e1.size (Nat.le_trans e2.size e3.size))
  refine run_app he hs ho' hsz (by simp) (news:=v.cells.toList) (by simp [hv]) (by simpa using o2.cells) h1 hb hm fun p' c' w4 h2 h3 h4=>⟨fun b hb=>?_,_,_,_,rfl,hk p' c' w4 h2 ?_ ?_ ?_⟩
  · refine h3.by_.block b (x3.lt b hb) fun he=>?_
    cases p with
    | none => cases he
    | some y => simp [blk] at he; exact hns b hb y rfl he.symm
  · exact Grew.of_ext e1 (Grew.of_ext e2 (Grew.of_ext e3 h3))
  · intro hn; have:=h4.1 hn; omega
  · intro b hb y hy heq
    rcases h3.new with hn | hn
    · subst hy
      cases p with
      | none => simp [blk] at hn
      | some z' => simp [blk] at hn; exact hns b hb z' rfl (by omega)
    · have:=hn y hy
      have:=x3.lt b hb
      omega
end Go.Sx
set_option linter.unusedVariables false
set_option linter.unusedSimpArgs false
namespace Go.Proofs.YtegephkpdlopaaaGreatDoor
open Go.Sx Go.RowKit
theorem i64 {x:Int} (h:-9223372036854775808 <= x/\x <= 9223372036854775807):InR .i64 x:=h
theorem of64 {x:Int} (h:InR .i64 x):-9223372036854775808 <= x/\x <= 9223372036854775807:=h
theorem wrap64 {x:Int} (h:-9223372036854775808 <= x/\x <= 9223372036854775807):IntKind.wrap .i64 x = x:=by
  simp [IntKind.wrap,IntKind.signed,IntKind.bits]; omega
end Go.Proofs.YtegephkpdlopaaaGreatDoor
set_option linter.unusedVariables false
set_option linter.unusedSimpArgs false
namespace Go.Proofs.YtegephkpdlopaaaGreatDoor
open Go.Sx Go.RowKit
def ofL (l:List UInt8):ByteArray:=⟨l.toArray⟩
theorem ofL_list (l:List UInt8):(ofL l).data.toList = l:=rfl
theorem ofL_size (l:List UInt8):(ofL l).size = l.length:=rfl
theorem ofL_of (s:ByteArray):ofL s.data.toList = s:=by cases s; rfl
theorem bs_app (a b:ByteArray):(a ++ b).data.toList = a.data.toList ++ b.data.toList:=by simp
theorem ofL_inj {a b:List UInt8} (h:ofL a = ofL b):a = b:=by
  have:=congrArg (fun s:ByteArray=>s.data.toList) h
  exact this
theorem u8_nat {n:Nat} (h:n < 256):(UInt8.ofNat n).toNat = n:=by simp; omega
theorem dec_digits:∀ (u:Nat),∀ c ∈ Lib.decDigits u,48 <= c.toNat/\c.toNat <= 57:=by
  intro u
  induction u using Nat.strongRecOn with
  | _ u ih =>
    intro c hc
    rw [Lib.decDigits] at hc
    split at hc
    · obtain rfl:=List.mem_singleton.1 hc
      rw [u8_nat (by omega)]; omega
    · rcases List.mem_append.1 hc with h | h
      · exact ih (u / 10) (by omega) c h
      · obtain rfl:=List.mem_singleton.1 h
        rw [u8_nat (by omega)]; omega
theorem dec_ne (u:Nat):Lib.decDigits u ≠ []:=by
  rw [Lib.decDigits]; split <;> simp
theorem parseM_app {M:Nat}:∀ {l:List UInt8} {acc v:Nat} (r:List UInt8),Lib.parseUintM M acc l = .ok v->Lib.parseUintM M acc (l ++ r) = Lib.parseUintM M v r
  | [],acc,v,r,h => by
    simp only [Lib.parseUintM,Lib.NumEnd.ok.injEq] at h
    subst h; rfl
  | c :: l,acc,v,r,h => by
    simp only [Lib.parseUintM,List.cons_append] at h ⊢
    split at h
    · rename_i hd
      rw [if_pos hd]
      split at h
      · cases h
      · rename_i h2
        rw [if_neg h2]
        split at h
        · cases h
        · rename_i h3
          rw [if_neg h3]
          exact parseM_app r h
    · cases h
theorem parse_dec:∀ (u:Nat),u <= 1099511627776->Lib.parseUintM 18446744073709551615 0 (Lib.decDigits u) = .ok u:=by
  intro u
  induction u using Nat.strongRecOn with
  | _ u ih =>
    intro hu
    rw [Lib.decDigits]
    split
    · rename_i h
      simp only [Lib.parseUintM]
      rw [u8_nat (by omega),if_pos (by omega),if_neg (by omega),if_neg (by omega)]
      congr 1; omega
    · rename_i h
      rw [parseM_app _ (ih (u / 10) (by omega) (by omega))]
      simp only [Lib.parseUintM]
      rw [u8_nat (by omega),if_pos (by omega),if_neg (by omega),if_neg (by omega)]
      congr 1; omega
theorem itoa_dec {n:Int} (h:0 <= n):Lib.itoa n = Lib.decDigits n.toNat:=by
  unfold Lib.itoa; rw [if_neg (by omega)]
theorem parse_itoa {n:Int} (h:0 <= n/\n <= 1099511627776):Lib.parseIntB 64 (Lib.itoa n) = .ok n:=by
  rw [itoa_dec h.1]
  have hd:=dec_digits n.toNat
  cases hl:Lib.decDigits n.toNat with
  | nil => exact absurd hl (dec_ne _)
  | cons c r =>
    have hc:=hd c (by rw [hl]; exact List.mem_cons_self ..)
    rw [Lib.parseIntB_plain 64 c r (by omega) (by omega),<- hl]
    unfold Lib.parseUintB
    rw [if_neg (dec_ne _),show (2:Nat) ^ 64 - 1 = 18446744073709551615 by decide,parse_dec _ (by omega)]
    show (if (2:Nat) ^ (64 - 1) <= n.toNat then _ else _) = _
    rw [if_neg (by have:(2:Nat) ^ (64 - 1) = 9223372036854775808:=by decide
                   omega)]
    congr 1; omega
theorem itoa_no {n:Int} (h:0 <= n) {c:UInt8} (hc:c.toNat < 48):c ∉ Lib.itoa n:=fun hm=>by
  rw [itoa_dec h] at hm
  have:=dec_digits _ _ hm
  omega
theorem itoa_no2 {n:Int} (h:0 <= n) {c:UInt8} (hc:57 < c.toNat):c ∉ Lib.itoa n:=fun hm=>by
  rw [itoa_dec h] at hm
  have:=dec_digits _ _ hm
  omega
theorem idx_hit {c:UInt8}:∀ {a:List UInt8} (b:List UInt8),c ∉ a->Lib.index (a ++ c :: b) [c] = a.length
  | [],b,_ => by rw [Lib.index_one]; simp [Lib.indexByte]
  | x :: a,b,h => by
    have hx:¬ x = c:=fun he=>h (by rw [he]; exact List.mem_cons_self ..)
    have:=idx_hit (a:=a) b fun hm=>h (List.mem_cons_of_mem _ hm)
    rw [Lib.index_one] at this ⊢
    simp only [List.cons_append,Lib.indexByte,this,beq_iff_eq,hx,if_false]
    rw [if_neg (by omega)]
    simp
theorem idx_miss {c:UInt8}:∀ {a:List UInt8},c ∉ a->Lib.index a [c] = -1
  | [],_ => rfl
  | x :: a,h => by
    have hx:¬ x = c:=fun he=>h (by rw [he]; exact List.mem_cons_self ..)
    have:=idx_miss (a:=a) fun hm=>h (List.mem_cons_of_mem _ hm)
    rw [Lib.index_one] at this ⊢
    simp only [Lib.indexByte,this,beq_iff_eq,hx,if_false,if_true]
def one (c:UInt8):ByteArray:=⟨#[c]⟩
theorem ext_front {c:UInt8} (a b:List UInt8):(ofL (a ++ c :: b)).extract 0 (a.length + 0) = ofL a:=by
  rw [<- ofL_of ((ofL (a ++ c :: b)).extract 0 (a.length + 0))]
  congr 1
  simp [ofL]
theorem ext_back {c:UInt8} (a b:List UInt8):(ofL (a ++ c :: b)).extract (a.length + (one c).size) (ofL (a ++ c :: b)).size = ofL b:=by
  rw [<- ofL_of ((ofL (a ++ c :: b)).extract _ _)]
  congr 1
  have hd:(one c).size = 1:=rfl
  rw [hd,ofL_size]
  simp [ofL]
  exact List.take_of_length_le (by omega)
theorem split_hit {c:UInt8} {a b:List UInt8} (h:c ∉ a) (k:Nat):Lib.splitB (one c) 0 (k + 1) (ofL (a ++ c :: b)) = ofL a :: Lib.splitB (one c) 0 k (ofL b):=by
  rw [Lib.splitB_hit (one c) 0 k _ a.length (idx_hit b h),ext_front,ext_back]
theorem count_hit {c:UInt8} {a b:List UInt8} (h:c ∉ a):Lib.countB (ofL (a ++ c :: b)) (one c) = 1 + Lib.countB (ofL b) (one c):=by
  rw [Lib.countB_hit (ofL (a ++ c :: b)) (one c) a.length (Nat.le_refl 1) (idx_hit b h),ext_back]
theorem count_miss {c:UInt8} {a:List UInt8} (h:c ∉ a):Lib.countB (ofL a) (one c) = 0:=Lib.countB_miss _ _ (idx_miss h)
theorem cut_hit {c:UInt8} {a:List UInt8} (b:List UInt8) (h:c ∉ a):Lib.cut (a ++ c :: b) [c] = (a,b,true):=by
  unfold Lib.cut
  rw [idx_hit b h,if_pos (by omega)]
  simp
theorem join_split {c:UInt8}:∀ (l:List (List UInt8)) (x:List UInt8),(∀ y ∈ x :: l,c ∉ y)->Lib.countB (ofL (Lib.join (x :: l) [c])) (one c) = l.length/\Lib.splitB (one c) 0 l.length (ofL (Lib.join (x :: l) [c])) = (x :: l).map ofL
  | [],x,h => by
    rw [Lib.join_one]
    exact ⟨count_miss (h x (List.mem_cons_self ..)),rfl⟩
  | y :: l,x,h => by
    obtain ⟨h1,h2⟩:=join_split l y fun z hz=>h z (List.mem_cons_of_mem _ hz)
    have e:Lib.join (x :: y :: l) [c] = x ++ c :: Lib.join (y :: l) [c]:=by
      rw [Lib.join_cons,Lib.join_cons]
      simp [Lib.joinTail]
    rw [e]
    have hx:=h x (List.mem_cons_self ..)
    refine ⟨by rw [count_hit hx,h1,List.length_cons]; omega,?_⟩
    rw [List.length_cons,split_hit hx,h2]
    rfl
theorem split_size {c:UInt8}:∀ (k:Nat) (s:ByteArray) (i:Nat) (p:ByteArray),(Lib.splitB (one c) 0 k s)[i]? = some p->p.size + i <= s.size
  | 0,s,i,p,h => by
    rw [Lib.splitB_zero] at h
    cases i with
    | zero => simp at h; subst h; omega
    | succ i => simp at h
  | k + 1,s,i,p,h => by
    rcases Lib.indexB_cases s (one c) with hm | ⟨j,hj,hle⟩
    · rw [Lib.splitB_miss (one c) 0 _ s hm] at h
      cases i with
      | zero => simp at h; subst h; omega
      | succ i => simp at h
    · have hd:(one c).size = 1:=rfl
      rw [Lib.splitB_hit (one c) 0 k s j hj] at h
      cases i with
      | zero =>
        simp only [List.getElem?_cons_zero,Option.some.injEq] at h
        subst h
        rw [ByteArray.size_extract]; omega
      | succ i =>
        simp only [List.getElem?_cons_succ] at h
        have:=split_size k _ i p h
        rw [ByteArray.size_extract] at this
        omega
theorem cut_size (s:List UInt8) (c:UInt8):(Lib.cut s [c]).2.1.length <= s.length:=by
  unfold Lib.cut
  split
  · simp only [List.length_drop]; omega
  · simp
end Go.Proofs.YtegephkpdlopaaaGreatDoor
set_option linter.unusedVariables false
set_option linter.unusedSimpArgs false
namespace Go.Proofs.YtegephkpdlopaaaGreatDoor
open Go.Sx Go.RowKit
def isErr (v:Value):Prop:=v = .nilIface\/∃ te pe,v = .iface te pe
structure GB (w:World):Prop where
  pow : Lib.TabIs Tryz.prog w "internal/strconv.uint64pow10" .u64 Lib.pow10Tab
  maxLen:∃ m,cell w (some (⟨2,0,none⟩:Addr)) 0 = some (.int .i64 m)
  eSyn:∃ v,cell w (some (⟨0,0,none⟩:Addr)) 0 = some v/\isErr v
  eRan:∃ v,cell w (some (⟨1,0,none⟩:Addr)) 0 = some v/\isErr v
theorem tab_ext {P:Program} {w w':World} {name:String} {k:IntKind} {zs:List Int} (h:Lib.TabIs P w name k zs) (e:Ext w w'):Lib.TabIs P w' name k zs:=by
  unfold Lib.TabIs World.var? at *
  cases hg:P.globalNamed name with
  | none => simp [hg] at h
  | some g =>
    simp only [hg,Option.bind_some] at h ⊢
    have hlt:g < w.heap.size:=by
      rcases Nat.lt_or_ge g w.heap.size with h' | h'
      · exact h'
      · rw [Array.getElem?_eq_none h'] at h; simp at h
    rw [e.block g hlt]; exact h
theorem GB.ext {w w':World} (g:GB w) (e:Ext w w'):GB w' :=
  ⟨tab_ext g.pow e,by obtain ⟨m,h⟩:=g.maxLen; exact ⟨m,ext_cell e h⟩,by obtain ⟨v,h,k⟩:=g.eSyn; exact ⟨v,ext_cell e h,k⟩,by obtain ⟨v,h,k⟩:=g.eRan; exact ⟨v,ext_cell e h,k⟩⟩
theorem cell0 {w:World} {b:Nat} {v:Value} (h:cell w (some (⟨b,0,none⟩:Addr)) 0 = some v):w.cell? ⟨b,0,none⟩ = some v:=by simpa [cell,add_zero] using h
theorem below_grow {w:World} {k:Nat} {os:Array Obj}:Ext w (Go.Sort.grow (w.drewN k) os) :=
  ⟨rfl,rfl,rfl,by simp [Go.Sort.grow],fun b hb=>Go.Sort.heap_grow_old (w.drewN k) os hb⟩
theorem drew_ext {w:World} {n:Nat}:Ext w (w.drewN n):=⟨rfl,rfl,rfl,Nat.le_refl _,fun _ _=>rfl⟩
theorem FormatInt_k (n:Int) (h:-9223372036854775808 <= n/\n <= 9223372036854775807) (w:World) (g:GB w):FnP Tryz.prog F_strconv_FormatInt #[.int .i64 n,.int .i64 10] w fun v w'=>Ext w w'/\v = .string (ofL (Lib.itoa n)) :=
  ⟨fun args w=>Tryz.call136 args w,(Tryz.strconv_FormatInt_10 n h.1 h.2 w g.pow).mono fun e w' ⟨he,k,os,hw⟩=>⟨_,he,by rw [hw]; exact below_grow,rfl⟩⟩
theorem ParseInt_k (s:ByteArray) (hs:s.size <= 281474976710656) (w:World) (g:GB w):FnP Tryz.prog F_strconv_ParseInt #[.string s,.int .i64 10,.int .i64 64] w fun v w'=>Ext w w'/\∃ (n:Int) (ev:Value),v = .tuple #[.int .i64 n,ev] /\
    ((ev = .nilIface/\Lib.parseIntB 64 s.data.toList = .ok n)\/((∃ a b,ev = .iface a b)/\∀ m,Lib.parseIntB 64 s.data.toList ≠ .ok m)):=by
  have en:Enters Tryz.prog F_strconv_ParseInt:=fun args w=>Tryz.call129 args w
  cases hp:Lib.parseIntB 64 s.data.toList with
  | ok v =>
    refine ⟨en,(Tryz.strconv_ParseInt_10_at64_ok s (by omega) v hp w).mono fun e w' ⟨he,hw⟩=>⟨_,he,?_,v,.nilIface,rfl,.inl ⟨rfl,rfl⟩⟩⟩
    rcases hw with rfl | ⟨t,rfl⟩
    · exact Ext.refl _
    · exact Lib.bytesWorld_below w 5 t
  | range =>
    obtain ⟨ev,h1,h2⟩:=g.eRan
    exact ⟨en,(Tryz.strconv_ParseInt_10_at64_range s hs hp ev w (cell0 h1) h2).mono fun e w' ⟨N,he,_,_,hb⟩=>⟨_,he,hb,_,_,rfl,.inr ⟨⟨_,_,rfl⟩,fun m h=>by cases h⟩⟩⟩
  | _ =>
    obtain ⟨ev,h1,h2⟩:=g.eSyn
    exact ⟨en,(Tryz.strconv_ParseInt_10_at64_syntax s hs hp ev w (cell0 h1) h2).mono fun e w' ⟨N,he,_,_,hb⟩=>⟨_,he,hb,_,_,rfl,.inr ⟨⟨_,_,rfl⟩,fun m h=>by cases h⟩⟩⟩
theorem parse_top {l:List UInt8} {n:Int} (h:Lib.parseIntB 64 l = .ok n) (hn:0 < n):n <= 9223372036854775807:=by
  unfold Lib.parseIntB at h
  split at h
  · cases h
  · simp only at h
    split at h
    · cases h
    · cases h
    · rename_i u _
      split at h
      · cases h
      · rename_i h1
        split at h
        · cases h
        · injection h with h
          split at h
          · omega
          · rename_i h2
            have e:(2:Nat) ^ (64 - 1) = 9223372036854775808:=by decide
            rw [e] at h1
            omega
theorem equalIn_nil {P:Program} (d:Nat) {t:TypeId} {m:Array (String × TypeId)} (ht:P.underlying t = some (.interface m)) (w:World):(Op.equalIn (d + 1) t .nilIface .nilIface).run P w = .ok true w:=by
  simp only [Op.equalIn,Sem.run_bind,run_underlying ht,Result.andThen_ok,Sem.run_pure]
theorem equalIn_err {P:Program} (d:Nat) {t:TypeId} {m:Array (String × TypeId)} (ht:P.underlying t = some (.interface m)) (a:TypeId) (b:Value) (w:World):(Op.equalIn (d + 1) t (.iface a b) .nilIface).run P w = .ok false w:=by
  simp only [Op.equalIn,Sem.run_bind,run_underlying ht,Result.andThen_ok,Sem.run_pure]
theorem ne_nil {P:Program} {t:TypeId} {m:Array (String × TypeId)} (ht:P.underlying t = some (.interface m)) {v:Value} (hv:isErr v) {cx:Bool} {w:World} {K:Value->World->Prop} (hk:∀ b:Bool,(b = false ↔ v = .nilIface)->K (.bool b) w):Run P (.eq .neq t cx true v .nilIface) w K:=by
  have hb:∀ x:Value,∀ r:Bool,(Op.equal t x .nilIface).run P w = .ok r w->(eqGuard .neq t (opd cx) (opd true) x .nilIface).run P w = .ok () w->binOp .neq t x .nilIface = (do pure (.bool (!(<- Op.equal t x .nilIface))))->(MC.sem (.eq .neq t cx true x .nilIface)).run P w = .ok (.bool (!r)) w:=fun x r h1 h2 h3=>by
    show (do eqGuard .neq t (opd cx) (opd true) x .nilIface; binOp .neq t x .nilIface:Sem Value).run P w = _
    rw [Sem.run_bind,h2,Result.andThen_ok,h3,Sem.run_bind,h1,Result.andThen_ok,Sem.run_pure]
  rcases hv with rfl | ⟨a,b,rfl⟩
  · exact ⟨_,w,hb _ true (equalIn_nil 9999 ht w) (by cases cx <;> rfl) rfl,hk false (by simp)⟩
  · exact ⟨_,w,hb _ false (equalIn_err 9999 ht a b w) (by cases cx <;> rfl) rfl,hk true (by simp)⟩
def isIfc (P:Program) (t:TypeId):Bool:=match P.underlying t with | some (.interface _)=>true | _=>false
theorem ne_nilB {P:Program} {t:TypeId} (ht:isIfc P t = true) {v:Value} (hv:isErr v) {cx:Bool} {w:World} {K:Value->World->Prop} (hk:∀ b:Bool,(b = false ↔ v = .nilIface)->K (.bool b) w):Run P (.eq .neq t cx true v .nilIface) w K:=by
  unfold isIfc at ht
  split at ht
  · rename_i m h; exact ne_nil h hv hk
  · cases ht
theorem Split_k (c:UInt8) (s:ByteArray) (hs:s.size < 4294967281) (w:World) (g:GB w):FnP Tryz.prog F_strings_Split #[.string s,.string (one c)] w fun v w'=>Ext w w'/\v = .slice (some ⟨w.heap.size,0,none⟩) (Lib.countB s (one c) + 1) (Lib.countB s (one c) + 1) /\
    Cells w' (some ⟨w.heap.size,0,none⟩) ((Lib.splitB (one c) 0 (Lib.countB s (one c)) s).map Value.string)/\w.heap.size < w'.heap.size:=by
  obtain ⟨m,hm⟩:=g.maxLen
  refine ⟨fun args w=>Tryz.call106 args w,(Tryz.strings_Split s (one c) m w hs (cell0 hm) (Nat.le_refl 1)).mono fun e w' ⟨he,hw⟩=>⟨_,he,?_,rfl,fun i p hp=>?_,?_⟩⟩
  · rw [hw]; exact Below.alloc (Below.refl _ _) (Nat.le_refl _) _
  · rw [hw]
    show World.cell? _ _ = _
    have:(Addr.add ⟨w.heap.size,0,none⟩ i) = ⟨w.heap.size,i,none⟩:=by simp [Addr.add]; intro h; exact h.symm
    rw [this]
    rw [World.cell?_alloc_mark]
    simpa using hp
  · rw [hw]; show w.heap.size < (w.heap.push _).size; rw [Array.size_push]; omega
theorem Cut_k (c:UInt8) (s:ByteArray) (hs:s.size < 4294967281) (w:World) (g:GB w):FnP Tryz.prog F_strings_Cut #[.string s,.string (one c)] w fun v w'=>Ext w w'/\v = .tuple #[.string (ofL (Lib.cut s.data.toList [c]).1),.string (ofL (Lib.cut s.data.toList [c]).2.1),.bool (Lib.cut s.data.toList [c]).2.2]:=by
  obtain ⟨m,hm⟩:=g.maxLen
  exact ⟨fun args w=>Tryz.call128 args w,(Tryz.strings_Cut s (one c) m w hs (cell0 hm)).mono fun e w' ⟨he,n,hw⟩=>⟨_,he,by rw [hw]; exact drew_ext,rfl⟩⟩
theorem Join_k (L:List (List UInt8)) (c:UInt8) (q:Option Addr) (m d B:Nat) (e:TypeId) (w:World) (o:Own B w e 1 q m d (L.map fun l=>Value.string (ofL l))) (hne:L ≠ []) (hlen:(Lib.join L [c]).length <= 140737488355327) :
    FnP Tryz.prog F_strings_Join #[.slice q m d,.string (one c)] w fun v w'=>Ext w w'/\v = .string (ofL (Lib.join L [c])):=by
  have hm:=o.leni
  have hmd:=o.le
  have hcl:=o.cells
  have hlt:=o.lt
  obtain ⟨b,rfl⟩:∃ b,q = some ⟨b,0,none⟩:=by
    rcases o.2 with ⟨h,_⟩ | ⟨g,cap,cur,hv,_⟩
    · have:L = []:=by
        simp at h
        have:L.length = 0:=by omega
        exact List.eq_nil_of_length_eq_zero this
      exact absurd this hne
    · injection hv with h1
      exact ⟨g,h1⟩
  have hl:L.length <= 140737488355328:=by
    have key:∀ (L:List (List UInt8)) (x:List UInt8),L.length <= (Lib.join (x :: L) [c]).length:=by
      intro L x
      rw [Lib.join_cons,List.length_append,Lib.joinTail_length,show ([c]:List UInt8).length = 1 from rfl]; omega
    cases L with
    | nil => exact absurd rfl hne
    | cons x L =>
      have:=key L x
      rw [List.length_cons]; omega
  have e1:(L.map ofL).map (·.data.toList) = L:=by
    rw [List.map_map]
    simp [Function.comp_def,ofL]
  have key:=Tryz.strings_Join b 0 d (L.map ofL) (one c) w (fun j x hx=>by
    rw [List.getElem?_map,Option.map_eq_some_iff] at hx
    obtain ⟨l,hl,rfl⟩:=hx
    have:=hcl j (.string (ofL l)) (by rw [List.getElem?_map,hl]; rfl)
    simp only [cell,Option.bind_some] at this
    have ha:(Addr.add ⟨b,0,none⟩ j) = ⟨b,0 + j,none⟩:=by simp [Addr.add]; intro h; exact h.symm
    rwa [ha] at this) (hlt _ rfl).2 (by simpa using hl) (by rw [List.length_map,hm]; exact hmd.1) (by rw [e1]; show (Lib.join L [c]).length <= _; omega)
  rw [List.length_map,hm,e1] at key
  exact ⟨fun args w=>Tryz.call103 args w,key.mono fun e w' ⟨he,hw⟩=>⟨_,he,hw,rfl⟩⟩
end Go.Proofs.YtegephkpdlopaaaGreatDoor
set_option linter.unusedVariables false
set_option linter.unusedSimpArgs false
namespace Go.Proofs.YtegephkpdlopaaaGreatDoor
open Go.Sx Go.RowKit
structure Nd where
  c:Int
  m:Int
  g:Int
deriving DecidableEq,Inhabited
abbrev encN (x:Nd):List Value:=[.int .i64 x.c,.int .i64 x.m,.int .i64 x.g]
abbrev nv (x:Nd):Value:=.agg #[.int .i64 x.c,.int .i64 x.m,.int .i64 x.g]
def okN (x:Nd):Prop:=(0 <= x.c/\x.c <= 1099511627776)/\(0 <= x.m/\x.m <= 1099511627776)/\(0 <= x.g/\x.g <= 1099511627776)
instance (x:Nd):Decidable (okN x):=by unfold okN; infer_instance
def fitN (a b:Nd):Prop:=a.c <= b.c/\a.m <= b.m/\a.g <= b.g
instance (a b:Nd):Decidable (fitN a b):=by unfold fitN; infer_instance
def addN (a b:Nd):Nd:=⟨a.c + b.c,a.m + b.m,a.g + b.g⟩
def subN (a b:Nd):Nd:=⟨a.c - b.c,a.m - b.m,a.g - b.g⟩
def zeroN:Nd:=⟨0,0,0⟩
def errN (x:Nd):Int:=if okN x then 0 else 4
theorem errN_ok {x:Nd}:errN x = 0 ↔ okN x:=by unfold errN; split <;> simp_all
theorem errN_no {x:Nd} (h:¬ okN x):errN x = 4:=if_neg h
theorem nd_eq {a b:Nd}:a = b ↔ [a.c,a.m,a.g] = [b.c,b.m,b.g]:=by cases a; cases b; simp
def ndAt (x:Nd) (i:Nat):Int:=match i with | 0=>x.c | 1=>x.m | _=>x.g
theorem okN_at {x:Nd}:okN x ↔ ∀ i,i < 3->0 <= ndAt x i/\ndAt x i <= 1099511627776:=by
  constructor
  · rintro ⟨h1,h2,h3⟩ i hi
    match i,hi with
    | 0,_ => exact h1
    | 1,_ => exact h2
    | 2,_ => exact h3
  · intro h
    exact ⟨h 0 (by omega),h 1 (by omega),h 2 (by omega)⟩
theorem eqN_k {a b:Nd} {w:World} {K:Value->World->Prop} (hk:K (.bool (decide (a = b))) w):Run Tryz.prog (.eq .eql T_Need false false (nv a) (nv b)) w K :=
  run_eqs (n:=3) (k:=.i64) (by kernel_rfl) (by kernel_rfl) (by kernel_rfl) (by kernel_rfl) [a.c,a.m,a.g] [b.c,b.m,b.g] rfl rfl (by
    have:decide (a = b) = decide ([a.c,a.m,a.g] = [b.c,b.m,b.g]):=decide_eq_decide.2 nd_eq
    rwa [this] at hk)
def pn (i:Nat):ByteArray:=match i with | 0=>⟨#[99,112,117]⟩ | 1=>⟨#[109,101,109]⟩ | _=>⟨#[103,112,117]⟩
abbrev partsL (a:Option Addr):List Value:=[.string (pn 0),.pointer (pAdd a 0),.string (pn 1),.pointer (pAdd a 1),.string (pn 2),.pointer (pAdd a 2)]
theorem part_at {w:World} {q a:Option Addr} (h:Cells w q (partsL a)) {k:Int} (h0:0 <= k) (h1:k < 3):Go.Sx.cell w (pIdx q k 2) 0 = some (.string (pn k.toNat))/\Go.Sx.cell w (pIdx q k 2) 1 = some (.pointer (pAdd a k.toNat)):=by
  have hk:k = 0\/k = 1\/k = 2:=by omega
  rcases hk with rfl | rfl | rfl
  · exact ⟨by rw [cell_pIdx]; exact h 0 _ rfl,by rw [cell_pIdx]; exact h 1 _ rfl⟩
  · exact ⟨by rw [cell_pIdx]; exact h 2 _ rfl,by rw [cell_pIdx]; exact h 3 _ rfl⟩
  · exact ⟨by rw [cell_pIdx]; exact h 4 _ rfl,by rw [cell_pIdx]; exact h 5 _ rfl⟩
theorem parts_k (a:Option Addr) (ha:a ≠ none) (w:World):FnP Tryz.prog F_need_parts #[.pointer a] w fun v w'=>Ext w w'/\∃ q,v = .slice q 3 3/\Cells w' q (partsL a)/\∀ x,q = some x->w.heap.size <= x.block:=by
  refine ok_need_parts a w _ ⟨ha,ha,ha,ha,ha,ha,fun w0 h0=>?_⟩
  refine run_lit elem_sl_need_part [_,_,_] rfl rfl (by intro v hv; simp at hv; rcases hv with rfl | rfl | rfl <;> rfl) (by omega) (by omega) fun w1 o1 e1=>⟨e1,_,_,_,rfl,fun w5 h5=>⟨(h0.trans e1).trans h5,_,rfl,?_,fun x hx=>?_⟩⟩
  · have o5:=((o1 0 (Nat.zero_le _)).ext h5).cells
    exact o5
  · obtain rfl:=Option.some.inj hx
    exact h0.size
abbrev NdAt (w:World) (p:Option Addr) (x:Nd):Prop:=Cells w p (encN x)
theorem nd_at {w:World} {p:Option Addr} {x:Nd} (h:NdAt w p x) {i:Nat} (hi:i < 3):Go.Sx.cell w (pAdd p i) 0 = some (.int .i64 (ndAt x i)):=by
  rw [cell_pAdd,Nat.add_zero]
  match i,hi with
  | 0,_ => exact h 0 _ rfl
  | 1,_ => exact h 1 _ rfl
  | 2,_ => exact h 2 _ rfl
theorem ncheck_k (x:Nd) (w:World):FnP Tryz.prog F_need_Check #[nv x] w fun v w'=>Ext w w'/\v = .int .i64 (errN x):=by
  refine ok_need_Check x.c x.m x.g w _ fun w0 h0=>?_
  refine new_own (by simp [Value.oneCell']) fun w1 o1 e1=>fun w2 h2=>?_
  have c1:NdAt w1 (some ⟨w0.heap.size,0,none⟩) x:=(o1 0 (Nat.zero_le _)).cells
  have n1:(some (⟨w0.heap.size,0,none⟩:Addr)) ≠ none:=by simp
  generalize (some (⟨w0.heap.size,0,none⟩:Addr)) = p1 at c1 n1 ⊢
  refine (parts_k p1 n1 w2).mono fun v w3 ⟨e3,q,hv,hq,_⟩=>⟨e3,q,3,3,hv,?_⟩
  have c3:=(c1.ext h2).ext e3
  have x3:=((h0.trans e1).trans h2).trans e3
  refine ⟨fun k w'=>w' = w3/\0 <= k/\k <= 3/\∀ i:Nat,(i:Int) < k->0 <= ndAt x i/\ndAt x i <= 1099511627776,fun k _=>(3 - k).toNat,⟨rfl,by omega,by omega,fun i hi=>by omega⟩,?_⟩
  rintro k w3 ⟨rfl,hk0,hk1,hall⟩
  refine ⟨fun hlt=>?_,fun hge w10 h10=>⟨x3.trans h10,?_⟩⟩
  · obtain ⟨d1,d2⟩:=part_at hq hk0 hlt
    have ci:=nd_at c3 (i:=k.toNat) (by omega)
    have hne:pAdd p1 k.toNat ≠ none:=fun h=>n1 (pAdd_none.1 h)
    have bad:¬ (0 <= ndAt x k.toNat/\ndAt x k.toNat <= 1099511627776)->errN x = 4:=fun h=>errN_no fun ho=>h (okN_at.1 ho _ (by omega))
    refine ⟨fun hq=>cell_p d1 (pIdx_none.2 hq),hk0,hlt,cell_p d1,_,d1,_,d2,fun b12 _=>⟨hne,_,ci,fun _=>hne,fun hn w14 h14=>⟨x3.trans h14,by rw [bad (by omega)]⟩,fun hp=>⟨_,ci,fun hb w15 h15=>⟨x3.trans h15,by rw [bad (by omega)]⟩,fun hl=>⟨i64 (by omega),⟨rfl,by omega,by omega,fun i hi=>?_⟩,by simp only []; omega⟩⟩⟩⟩
    by_cases hik:(i:Int) < k
    · exact hall i hik
    · obtain rfl:i = k.toNat:=by omega
      omega
  · rw [errN_ok.2 (okN_at.2 fun i hi=>hall i (by omega))]
def rng (x:Nd):Prop:=∀ i,i < 3->-9223372036854775808 <= ndAt x i/\ndAt x i <= 9223372036854775807
theorem okN.rng {x:Nd} (h:okN x):rng x:=fun i hi=>by have:=okN_at.1 h i hi; omega
def idx (x:Nd) (k:Nat):List Nat:=(List.range k).filter fun i=>decide (ndAt x i ≠ 0)
def piece (x:Nd) (i:Nat):List UInt8:=(pn i).data.toList ++ 61 :: Lib.itoa (ndAt x i)
def pcs (x:Nd) (k:Nat):List (List UInt8):=(idx x k).map (piece x)
def textL (x:Nd):List UInt8:=if pcs x 3 = [] then [45] else Lib.join (pcs x 3) [44]
theorem idx_succ (x:Nd) (k:Nat):idx x (k + 1) = idx x k ++ if ndAt x k ≠ 0 then [k] else []:=by
  unfold idx
  rw [List.range_succ,List.filter_append]
  congr 1
  by_cases h:ndAt x k = 0 <;> simp [h]
theorem pcs_succ (x:Nd) (k:Nat):pcs x (k + 1) = pcs x k ++ if ndAt x k ≠ 0 then [piece x k] else []:=by
  unfold pcs
  rw [idx_succ,List.map_append]
  congr 1
  split <;> rfl
theorem idx_lt {x:Nd} {k i:Nat} (h:i ∈ idx x k):i < k/\ndAt x i ≠ 0:=by
  unfold idx at h
  rw [List.mem_filter,List.mem_range] at h
  exact ⟨h.1,by simpa using h.2⟩
theorem pn_len (i:Nat):(pn i).size = 3:=by
  match i with
  | 0 => rfl
  | 1 => rfl
  | n + 2 => rfl
theorem piece_len {x:Nd} (hx:rng x) {i:Nat} (hi:i < 3):(piece x i).length <= 25:=by
  unfold piece
  have:=Lib.itoa_length_le (ndAt x i) (hx i hi).1 (hx i hi).2
  have h3:(pn i).data.toList.length = 3:=pn_len i
  rw [List.length_append,List.length_cons,h3]; omega
theorem join_len {c:UInt8} {m:Nat}:∀ (L:List (List UInt8)),(∀ y ∈ L,y.length <= m)->(Lib.join L [c]).length <= L.length * (m + 1)
  | [],_ => by simp [Lib.join_nil]
  | [x],h => by rw [Lib.join_one]; have:=h x (List.mem_cons_self ..); simp; omega
  | x :: y :: L,h => by
    have ih:=join_len (c:=c) (y :: L) fun z hz=>h z (List.mem_cons_of_mem _ hz)
    have hx:=h x (List.mem_cons_self ..)
    have e:Lib.join (x :: y :: L) [c] = x ++ c :: Lib.join (y :: L) [c]:=by
      rw [Lib.join_cons,Lib.join_cons]
      simp [Lib.joinTail]
    rw [e,List.length_append,List.length_cons,List.length_cons,Nat.add_mul]
    omega
theorem idx_len (x:Nd) (k:Nat):(idx x k).length <= k:=by
  unfold idx
  have:=List.length_filter_le (fun i=>decide (ndAt x i ≠ 0)) (List.range k)
  rwa [List.length_range] at this
theorem join_pcs {x:Nd} (hx:rng x):(Lib.join (pcs x 3) [44]).length <= 78:=by
  have h1:=join_len (c:=44) (m:=25) (pcs x 3) fun y hy=>by
    obtain ⟨i,hi,rfl⟩:=List.mem_map.1 hy
    exact piece_len hx (idx_lt hi).1
  have h2:(pcs x 3).length <= 3:=by unfold pcs; rw [List.length_map]; exact idx_len x 3
  omega
theorem ntext_k (x:Nd) (hx:rng x) (w:World) (g:GB w):FnP Tryz.prog F_need_text #[nv x] w fun v w'=>Ext w w'/\v = .string (ofL (textL x)):=by
  refine ok_need_text x.c x.m x.g w _ fun w0 h0=>?_
  refine new_own (by simp [Value.oneCell']) fun w1 o1 e1=>fun w2 h2=>?_
  have c1:NdAt w1 (some ⟨w0.heap.size,0,none⟩) x:=(o1 0 (Nat.zero_le _)).cells
  have n1:(some (⟨w0.heap.size,0,none⟩:Addr)) ≠ none:=by simp
  have l1:∀ a,(some (⟨w0.heap.size,0,none⟩:Addr)) = some a->a.block < w1.heap.size:=c1.lt (by simp)
  generalize (some (⟨w0.heap.size,0,none⟩:Addr)) = p1 at c1 n1 l1 ⊢
  refine (parts_k p1 n1 w2).mono fun v w3 ⟨e3,q,hv,hq,hqb⟩=>⟨e3,q,3,3,hv,?_⟩
  have x3:=((h0.trans e1).trans h2).trans e3
  refine ⟨fun out outl outc k w'=>Ext w w'/\0 <= k/\k <= 3/\NdAt w' p1 x/\Cells w' q (partsL p1)/\Own w.heap.size w' T_string 1 out outl outc ((pcs x k.toNat).map fun l=>Value.string (ofL l))/\Apart p1 out/\Apart q out/\(out = none ↔ pcs x k.toNat = []),fun _ _ _ k _=>(3 - k).toNat,
    ⟨x3,by omega,by omega,(c1.ext h2).ext e3,hq,Own.nil,Apart.nil,Apart.nil,by simp [pcs,idx]⟩,?_⟩
  rintro out outl outc k w10 ⟨x10,hk0,hk3,c10,q10,o10,a1,a2,hout⟩
  refine ⟨fun hlt=>?_,fun hge=>?_⟩
  · obtain ⟨d1,d2⟩:=part_at q10 hk0 hlt
    have ci:=nd_at c10 (i:=k.toNat) (by omega)
    have hne:pAdd p1 k.toNat ≠ none:=fun h=>n1 (pAdd_none.1 h)
    have hr:=hx k.toNat (by omega)
    have hil:=Lib.itoa_length_le (ndAt x k.toNat) hr.1 hr.2
    have hlen:(pcs x k.toNat).length <= 3:=by unfold pcs; rw [List.length_map]; have:=idx_len x k.toNat; omega
    have hol:=o10.leni
    have hps:(pn k.toNat).size = 3:=pn_len _
    refine ⟨fun hq=>cell_p d1 (pIdx_none.2 hq),hk0,hlt,cell_p d1,_,d1,_,d2,fun b13 hb13=>⟨hne,_,ci,fun hnz=>?_,fun hz=>?_⟩⟩
    · refine ⟨by unfold CatOk; rw [hps]; decide,hne,_,ci,fun w16 h16=>?_⟩
      refine (FormatInt_k _ hr w16 ((g.ext x10).ext h16)).mono fun v w17 ⟨e17,hv⟩=>⟨e17,_,hv,?_,?_⟩
      · unfold CatOk
        rw [ByteArray.size_append,hps,ofL_size]
        show 3 + 1 + _ <= _
        omega
      · have hpc:(pn k.toNat ++ (⟨#[61]⟩:ByteArray)) ++ ofL (Lib.itoa (ndAt x k.toNat)) = ofL (piece x k.toNat):=by
          rw [<- ofL_of ((pn k.toNat ++ (⟨#[61]⟩:ByteArray)) ++ ofL (Lib.itoa (ndAt x k.toNat))),bs_app,bs_app]
          unfold piece
          rw [ofL_list]
          simp
        rw [hpc]
        refine push_B elem_sl_string (by omega) o10 x10.size (fun b hb y hy=>by simp at hb; subst hb; have:=(o10.lt y hy).2; omega) rfl (by intro u hu; simp [Value.cells] at hu; subst hu; rfl) (by omega) (by omega) (by omega) fun p' c' w' o' g' np _=>⟨i64 (by omega),⟨g'.ext x10 o10,by omega,by omega,c10.grew a1 g',q10.grew a2 g',?_,a1.grewC (c10.lt (by simp)) g',a2.grewC (q10.lt (by simp)) g',?_⟩,by simp only []; omega⟩
        · rw [show (k + 1).toNat = k.toNat + 1 by omega,pcs_succ,if_pos hnz,List.map_append]
          simpa [Value.cells] using o'
        · rw [show (k + 1).toNat = k.toNat + 1 by omega,pcs_succ,if_pos hnz]
          simp [np]
    · have hp:pcs x (k + 1).toNat = pcs x k.toNat:=by
        rw [show (k + 1).toNat = k.toNat + 1 by omega,pcs_succ,if_neg (by simpa using hz),List.append_nil]
      exact ⟨i64 (by omega),⟨x10,by omega,by omega,c10,q10,by rw [hp]; exact o10,a1,a2,by rw [hp]; exact hout⟩,by simp only []; omega⟩
  · obtain rfl:k = 3:=by omega
    have hout:out = none ↔ pcs x 3 = []:=hout
    have o10:Own w.heap.size w10 T_string 1 out outl outc ((pcs x 3).map fun l=>Value.string (ofL l)):=o10
    refine ⟨fun hn w11 h11=>⟨x10.trans h11,?_⟩,fun hn w11 h11=>?_⟩
    · unfold textL; rw [if_pos (hout.1 hn)]; rfl
    · have hpn:pcs x 3 ≠ []:=fun h=>hn (hout.2 h)
      refine (Join_k (pcs x 3) 44 out outl outc w.heap.size T_string w11 (o10.ext h11) hpn (by have:=join_pcs hx; omega)).mono fun v w12 ⟨e12,hv⟩=>⟨e12,_,hv,fun w14 h14=>⟨x10.trans h14,?_⟩⟩
      unfold textL; rw [if_neg hpn]
theorem nText_k (x:Nd) (w:World) (g:GB w):FnP Tryz.prog F_need_Text #[nv x] w fun v w'=>Ext w w'/\∃ (t:ByteArray) (e:Int),v = .tuple #[.string t,.int .i64 e]/\(e = 0 ↔ okN x)/\(e ≠ 0->t = ⟨#[]⟩)/\(e = 0->t = ofL (textL x)):=by
  refine ok_need_Text x.c x.m x.g w _ fun b0 _ w1 h1=>(ncheck_k x w1).mono fun v w2 ⟨e2,hv⟩=>⟨e2,_,hv,fun hne w4 h4=>⟨h4,_,_,rfl,errN_ok,fun _=>rfl,fun h=>absurd h hne⟩,fun hz w4 h4=>?_⟩
  have ok:=errN_ok.1 hz
  exact (ntext_k x ok.rng w4 (g.ext h4)).mono fun v w5 ⟨e5,hv⟩=>⟨e5,_,hv,fun w7 h7=>⟨h7,_,_,rfl,⟨fun _=>ok,fun _=>rfl⟩,fun h=>absurd rfl h,fun _=>rfl⟩⟩
end Go.Proofs.YtegephkpdlopaaaGreatDoor
