/- The texts of this seat's functions: what each computes, as its symbolic run says it. -/
import Derived.Test.YtblafknmfblgfaaRows
import Derived.Test.YtblafknmfblgfaaSxD
import Derived.Test.YtblafknmfblgfaaSxN
import Derived.Test.YtblafknmfblgfaaTxt
import Derived.Test.YtblafknmfblgfaaTxtB
import Derived.Test.YtblafknmfblgfaaTxtC
import Derived.Test.YtblafknmfblgfaaTxtD
import Derived.Test.YtblafknmfblgfaaTxtE
import Derived.Test.YtblafknmfblgfaaTxtF
import Derived.Test.YtblafknmfblgfaaTxtG
set_option linter.unusedVariables false
set_option linter.unusedSimpArgs false
set_option maxRecDepth 100000
namespace Go.Proofs.Ytblafknmfblgfaa
open Go.Sx Go.RowKit

abbrev F_shiftbellkeep_FarmAhead : FuncId := 3
abbrev F_shiftbellkeep_FarmTries : FuncId := 4
abbrev F_shiftbellkeep_FarmNever : FuncId := 5
abbrev F_shiftbellkeep_FarmFirst : FuncId := 7
abbrev F_shiftbellkeep_FarmStays : FuncId := 8
abbrev F_shiftbellkeep_FarmOne : FuncId := 9
abbrev F_shiftbellkeep_farms : FuncId := 10
abbrev F_shiftbellkeep_played : FuncId := 11
abbrev F_shiftbellkeep_sameStates : FuncId := 19
abbrev F_shiftbellkeep_sameFarm : FuncId := 26
abbrev F_shiftbellkeep_bare : FuncId := 28
abbrev F_shiftbellkeep_one : FuncId := 30
abbrev F_slices_EqualFunc_api_State_api_State_api_State_api_State : FuncId := 44
abbrev F_shiftbellkeep_sameStates_1 : FuncId := 45

/-- shiftbell/shiftbellkeep.bare -/
def wp_shiftbellkeep_bare  (w : World) (Q : Value → World → Prop) : Prop :=
  ∀ b0 : Nat, w.heap.size ≤ b0 → ∀ w1, Ext w w1 →
  Q (.agg #[(.slice none 0 0), (.int .i64 1), (.int .i64 1), (.int .i64 1), (.int .i64 0)]) w1

theorem ok_shiftbellkeep_bare  (w : World) (Q : Value → World → Prop) (h : wp_shiftbellkeep_bare  w Q) : FnP Try.prog F_shiftbellkeep_bare #[] w Q := by
  have e_ : wp_shiftbellkeep_bare  w Q = Runs Try.prog Q ({ N := 3, wrap := [], pub := [], muts := [], joins := [] } : Cfg) Try.f28 (Try.f28.body.getD .skip) [] w := by kernel_rfl
  rw [e_] at h
  exact runs_fn h Try.func28 (by kernel_rfl) (fun args w => Try.call28 args w) (by kernel_rfl) (by kernel_rfl) rfl rfl

/-- shiftbell/shiftbellkeep.one -/
def wp_shiftbellkeep_one  (w : World) (Q : Value → World → Prop) : Prop :=
  ∀ b0 : Nat, w.heap.size ≤ b0 → ∀ w1, Ext w w1 →
  Q (.agg #[(.string (⟨#[97]⟩ : ByteArray)), (.int .i64 0), (.int .i64 0), (.int .i64 0), (.int .i64 0), (.int .i64 1), (.string (⟨#[120]⟩ : ByteArray)), (.string (⟨#[]⟩ : ByteArray)), (.int .i64 0), (.slice none 0 0), (.slice none 0 0)]) w1

theorem ok_shiftbellkeep_one  (w : World) (Q : Value → World → Prop) (h : wp_shiftbellkeep_one  w Q) : FnP Try.prog F_shiftbellkeep_one #[] w Q := by
  have e_ : wp_shiftbellkeep_one  w Q = Runs Try.prog Q ({ N := 3, wrap := [], pub := [], muts := [], joins := [] } : Cfg) Try.f30 (Try.f30.body.getD .skip) [] w := by kernel_rfl
  rw [e_] at h
  exact runs_fn h Try.func30 (by kernel_rfl) (fun args w => Try.call30 args w) (by kernel_rfl) (by kernel_rfl) rfl rfl

/-- shiftbell/shiftbellkeep.farms -/
def wp_shiftbellkeep_farms  (w : World) (Q : Value → World → Prop) : Prop :=
  ∀ w0, Ext w w0 →
  FnP Try.prog F_shiftbellkeep_bare #[] w0 fun v1 w1 =>
   Ext w0 w1 ∧
   ∃ t_02 : Option Addr, ∃ t_0l3 : Nat, ∃ t_0c4 : Nat, ∃ t_15 : Int, ∃ t_26 : Int, ∃ t_37 : Int, ∃ t_48 : Int, v1 = (.agg #[(.slice t_02 t_0l3 t_0c4), (.int .i64 t_15), (.int .i64 t_26), (.int .i64 t_37), (.int .i64 t_48)]) ∧
   ∀ w9, Ext w1 w9 →
   FnP Try.prog F_farm_New #[(.agg #[(.slice t_02 t_0l3 t_0c4), (.int .i64 t_15), (.int .i64 t_26), (.int .i64 t_37), (.int .i64 t_48)])] w9 fun v10 w10 =>
    Ext w9 w10 ∧
    ∃ t11 : Option Addr, ∃ t12 : Int, v10 = (.tuple #[(.pointer t11), (.int .i64 t12)]) ∧
    (((t12 ≠ 0) ∨ (t11 = none)) →
     ∀ w13, Ext w10 w13 →
     Q (.bool false) w13) ∧
    (((t12 = 0) ∧ (t11 ≠ none)) →
     ∀ w13, Ext w10 w13 →
     FnP Try.prog F_shiftbellkeep_one #[] w13 fun v14 w14 =>
      Ext w13 w14 ∧
      ∃ t_015 : ByteArray, ∃ t_116 : Int, ∃ t_217 : Int, ∃ t_318 : Int, ∃ t_419 : Int, ∃ t_520 : Int, ∃ t_621 : ByteArray, ∃ t_722 : ByteArray, ∃ t_823 : Int, ∃ t_924 : Option Addr, ∃ t_9l25 : Nat, ∃ t_9c26 : Nat, ∃ t_1027 : Option Addr, ∃ t_10l28 : Nat, ∃ t_10c29 : Nat, v14 = (.agg #[(.string t_015), (.int .i64 t_116), (.int .i64 t_217), (.int .i64 t_318), (.int .i64 t_419), (.int .i64 t_520), (.string t_621), (.string t_722), (.int .i64 t_823), (.slice t_924 t_9l25 t_9c26), (.slice t_1027 t_10l28 t_10c29)]) ∧
      ∀ w30, Ext w14 w30 →
      FnP Try.prog F_farm_Farm_Submit #[(.pointer t11), (.agg #[(.string t_015), (.int .i64 t_116), (.int .i64 t_217), (.int .i64 t_318), (.int .i64 t_419), (.int .i64 t_520), (.string t_621), (.string t_722), (.int .i64 t_823), (.slice t_924 t_9l25 t_9c26), (.slice t_1027 t_10l28 t_10c29)])] w30 fun v31 w31 =>
       ∃ t32 : Int, ∃ t33 : Int, v31 = (.tuple #[(.int .i64 t32), (.int .i64 t33)]) ∧
       ∀ w34, Ext w31 w34 →
       Q (.bool ((decide (t33 = 0)) && (decide (t32 = 1)))) w34)

theorem ok_shiftbellkeep_farms  (w : World) (Q : Value → World → Prop) (h : wp_shiftbellkeep_farms  w Q) : FnP Try.prog F_shiftbellkeep_farms #[] w Q := by
  have e_ : wp_shiftbellkeep_farms  w Q = Runs Try.prog Q ({ N := 28, wrap := [], pub := [], muts := [29, 61, 17, 24], joins := [] } : Cfg) Try.f10 (Try.f10.body.getD .skip) [] w := by kernel_rfl
  rw [e_] at h
  exact runs_fn h Try.func10 (by kernel_rfl) (fun args w => Try.call10 args w) (by kernel_rfl) (by kernel_rfl) rfl rfl

/-- shiftbell/shiftbellkeep.played -/
def wp_shiftbellkeep_played (x_0 : Option Addr) (x_0l : Nat) (x_0c : Nat) (x_1 : Int) (x_2 : Int) (x_3 : Int) (x_4 : Int) (l : Option Addr) (ll : Nat) (lc : Nat) (w : World) (Q : Value → World → Prop) : Prop :=
  ∀ b0 : Nat, w.heap.size ≤ b0 → ∀ w1, ExtB [] [b0] w w1 →
  FnP Try.prog F_farm_New #[(.agg #[(.slice x_0 x_0l x_0c), (.int .i64 x_1), (.int .i64 x_2), (.int .i64 x_3), (.int .i64 x_4)])] w1 fun v2 w2 =>
   Ext w1 w2 ∧
   ∃ t3 : Option Addr, ∃ t4 : Int, v2 = (.tuple #[(.pointer t3), (.int .i64 t4)]) ∧
   ((t4 ≠ 0) →
    ∀ w5, Ext w2 w5 →
    Q (.pointer none) w5) ∧
   ((t4 = 0) →
    ∃ (I5 : Int → World → Prop) (M5 : Int → World → Nat), I5 0 w2 ∧
    ∀ (k6 : Int) (w7 : World), I5 k6 w7 →
     (((k6 < (ll : Int)) →
      l ≠ none ∧
      (0 : Int) ≤ k6 ∧
      (k6 : Int) < (ll : Int) ∧
      (pIdx l k6 15) ≠ none ∧
      ∃ t8 : Int, cell w7 (pIdx l k6 15) 0 = some (.int .i64 t8) ∧
      ∃ t9 : ByteArray, cell w7 (pIdx l k6 15) 1 = some (.string t9) ∧
      ∃ t10 : Int, cell w7 (pIdx l k6 15) 2 = some (.int .i64 t10) ∧
      ∃ t11 : Int, cell w7 (pIdx l k6 15) 3 = some (.int .i64 t11) ∧
      ∃ t12 : Int, cell w7 (pIdx l k6 15) 4 = some (.int .i64 t12) ∧
      ∃ t13 : Int, cell w7 (pIdx l k6 15) 5 = some (.int .i64 t13) ∧
      ∃ t14 : Int, cell w7 (pIdx l k6 15) 6 = some (.int .i64 t14) ∧
      ∃ t15 : ByteArray, cell w7 (pIdx l k6 15) 7 = some (.string t15) ∧
      ∃ t16 : ByteArray, cell w7 (pIdx l k6 15) 8 = some (.string t16) ∧
      ∃ t17 : Int, cell w7 (pIdx l k6 15) 9 = some (.int .i64 t17) ∧
      ∃ t18 : Option Addr, ∃ tl19 : Nat, ∃ tc20 : Nat, cell w7 (pIdx l k6 15) 10 = some (.slice t18 tl19 tc20) ∧
      ∃ t21 : Option Addr, ∃ tl22 : Nat, ∃ tc23 : Nat, cell w7 (pIdx l k6 15) 11 = some (.slice t21 tl22 tc23) ∧
      ∃ t24 : Int, cell w7 (pIdx l k6 15) 12 = some (.int .i64 t24) ∧
      ∃ t25 : Int, cell w7 (pIdx l k6 15) 13 = some (.int .i64 t25) ∧
      ∃ t26 : Bool, cell w7 (pIdx l k6 15) 14 = some (.bool t26) ∧
      ∀ b27 : Nat, w7.heap.size ≤ b27 → ∀ w28, ExtB [] [b0, b27] w7 w28 →
      FnP Try.prog F_farm_Farm_Do #[(.pointer t3), (.agg #[(.int .i64 t8), (.string t9), (.int .i64 t10), (.int .i64 t11), (.int .i64 t12), (.int .i64 t13), (.int .i64 t14), (.string t15), (.string t16), (.int .i64 t17), (.slice t18 tl19 tc20), (.slice t21 tl22 tc23), (.int .i64 t24), (.int .i64 t25), (.bool t26)])] w28 fun v29 w29 =>
       Kept [b0, b27] w28 w29 ∧
       ∃ t30 : Int, v29 = (.int .i64 t30) ∧
       InR .i64 (k6 + 1) ∧
       (I5 (k6 + 1) w29 ∧ M5 (k6 + 1) w29 < M5 k6 w7))) ∧
     (((ll : Int) ≤ k6) →
      ∀ w8, Ext w7 w8 →
      Q (.pointer t3) w8))

theorem ok_shiftbellkeep_played (x_0 : Option Addr) (x_0l : Nat) (x_0c : Nat) (x_1 : Int) (x_2 : Int) (x_3 : Int) (x_4 : Int) (l : Option Addr) (ll : Nat) (lc : Nat) (w : World) (Q : Value → World → Prop) (h : wp_shiftbellkeep_played x_0 x_0l x_0c x_1 x_2 x_3 x_4 l ll lc w Q) : FnP Try.prog F_shiftbellkeep_played #[(.agg #[(.slice x_0 x_0l x_0c), (.int .i64 x_1), (.int .i64 x_2), (.int .i64 x_3), (.int .i64 x_4)]), (.slice l ll lc)] w Q := by
  have e_ : wp_shiftbellkeep_played x_0 x_0l x_0c x_1 x_2 x_3 x_4 l ll lc w Q = Runs Try.prog Q ({ N := 27, wrap := [], pub := [], muts := [29, 61, 17, 24], joins := [] } : Cfg) Try.f11 (Try.f11.body.getD .skip) [.agg [.slc x_0 x_0l x_0c, .int .i64 x_1, .int .i64 x_2, .int .i64 x_3, .int .i64 x_4], .sc (.slc l ll lc)] w := by kernel_rfl
  rw [e_] at h
  exact runs_fn h Try.func11 (by kernel_rfl) (fun args w => Try.call11 args w) (by kernel_rfl) (by kernel_rfl) rfl rfl

/-- shiftbell/shiftbellkeep.sameStates -/
def wp_shiftbellkeep_sameStates (a : Option Addr) (al : Nat) (ac : Nat) (b : Option Addr) (bl : Nat) (bc : Nat) (w : World) (Q : Value → World → Prop) : Prop :=
  ∀ w0, Ext w w0 →
  FnP Try.prog F_slices_EqualFunc_api_State_api_State_api_State_api_State #[(.slice a al ac), (.slice b bl bc), (.func (.func 45) #[] #[])] w0 fun v1 w1 =>
   Ext w0 w1 ∧
   ∃ t2 : Bool, v1 = (.bool t2) ∧
   ∀ w3, Ext w w3 →
   Q (.bool t2) w3

theorem ok_shiftbellkeep_sameStates (a : Option Addr) (al : Nat) (ac : Nat) (b : Option Addr) (bl : Nat) (bc : Nat) (w : World) (Q : Value → World → Prop) (h : wp_shiftbellkeep_sameStates a al ac b bl bc w Q) : FnP Try.prog F_shiftbellkeep_sameStates #[(.slice a al ac), (.slice b bl bc)] w Q := by
  have e_ : wp_shiftbellkeep_sameStates a al ac b bl bc w Q = Runs Try.prog Q ({ N := 8, wrap := [], pub := [], muts := [], joins := [] } : Cfg) Try.f19 (Try.f19.body.getD .skip) [.sc (.slc a al ac), .sc (.slc b bl bc)] w := by kernel_rfl
  rw [e_] at h
  exact runs_fn h Try.func19 (by kernel_rfl) (fun args w => Try.call19 args w) (by kernel_rfl) (by kernel_rfl) rfl rfl

/-- shiftbell/shiftbellkeep.sameStates$1 -/
def wp_shiftbellkeep_sameStates_1 (x_0 : ByteArray) (x_1 : Int) (x_2 : Int) (x_3 : Int) (x_4 : Int) (x_5 : Int) (x_6 : ByteArray) (x_7 : ByteArray) (x_8 : Int) (x_9 : Option Addr) (x_9l : Nat) (x_9c : Nat) (x_10 : Option Addr) (x_10l : Nat) (x_10c : Nat) (x_11 : Int) (x_12 : Int) (x_13 : Int) (x_14 : Int) (x_15 : Int) (y_0 : ByteArray) (y_1 : Int) (y_2 : Int) (y_3 : Int) (y_4 : Int) (y_5 : Int) (y_6 : ByteArray) (y_7 : ByteArray) (y_8 : Int) (y_9 : Option Addr) (y_9l : Nat) (y_9c : Nat) (y_10 : Option Addr) (y_10l : Nat) (y_10c : Nat) (y_11 : Int) (y_12 : Int) (y_13 : Int) (y_14 : Int) (y_15 : Int) (w : World) (Q : Value → World → Prop) : Prop :=
  ∀ b0 : Nat, w.heap.size ≤ b0 → ∀ b1 : Nat, w.heap.size ≤ b1 → ∀ w2, Ext w w2 →
  FnP Try.prog F_shiftbellkeep_sameJob #[(.agg #[(.string x_0), (.int .i64 x_1), (.int .i64 x_2), (.int .i64 x_3), (.int .i64 x_4), (.int .i64 x_5), (.string x_6), (.string x_7), (.int .i64 x_8), (.slice x_9 x_9l x_9c), (.slice x_10 x_10l x_10c)]), (.agg #[(.string y_0), (.int .i64 y_1), (.int .i64 y_2), (.int .i64 y_3), (.int .i64 y_4), (.int .i64 y_5), (.string y_6), (.string y_7), (.int .i64 y_8), (.slice y_9 y_9l y_9c), (.slice y_10 y_10l y_10c)])] w2 fun v3 w3 =>
   Ext w2 w3 ∧
   ∃ t4 : Bool, v3 = (.bool t4) ∧
   ∀ w5, Ext w w5 →
   Q (.bool (((((t4 && (decide (x_11 = y_11))) && (decide (x_12 = y_12))) && (decide (x_13 = y_13))) && (decide (x_14 = y_14))) && (decide (x_15 = y_15)))) w5

theorem ok_shiftbellkeep_sameStates_1 (x_0 : ByteArray) (x_1 : Int) (x_2 : Int) (x_3 : Int) (x_4 : Int) (x_5 : Int) (x_6 : ByteArray) (x_7 : ByteArray) (x_8 : Int) (x_9 : Option Addr) (x_9l : Nat) (x_9c : Nat) (x_10 : Option Addr) (x_10l : Nat) (x_10c : Nat) (x_11 : Int) (x_12 : Int) (x_13 : Int) (x_14 : Int) (x_15 : Int) (y_0 : ByteArray) (y_1 : Int) (y_2 : Int) (y_3 : Int) (y_4 : Int) (y_5 : Int) (y_6 : ByteArray) (y_7 : ByteArray) (y_8 : Int) (y_9 : Option Addr) (y_9l : Nat) (y_9c : Nat) (y_10 : Option Addr) (y_10l : Nat) (y_10c : Nat) (y_11 : Int) (y_12 : Int) (y_13 : Int) (y_14 : Int) (y_15 : Int) (w : World) (Q : Value → World → Prop) (h : wp_shiftbellkeep_sameStates_1 x_0 x_1 x_2 x_3 x_4 x_5 x_6 x_7 x_8 x_9 x_9l x_9c x_10 x_10l x_10c x_11 x_12 x_13 x_14 x_15 y_0 y_1 y_2 y_3 y_4 y_5 y_6 y_7 y_8 y_9 y_9l y_9c y_10 y_10l y_10c y_11 y_12 y_13 y_14 y_15 w Q) : FnP Try.prog F_shiftbellkeep_sameStates_1 #[(.agg #[(.string x_0), (.int .i64 x_1), (.int .i64 x_2), (.int .i64 x_3), (.int .i64 x_4), (.int .i64 x_5), (.string x_6), (.string x_7), (.int .i64 x_8), (.slice x_9 x_9l x_9c), (.slice x_10 x_10l x_10c), (.int .i64 x_11), (.int .i64 x_12), (.int .i64 x_13), (.int .i64 x_14), (.int .i64 x_15)]), (.agg #[(.string y_0), (.int .i64 y_1), (.int .i64 y_2), (.int .i64 y_3), (.int .i64 y_4), (.int .i64 y_5), (.string y_6), (.string y_7), (.int .i64 y_8), (.slice y_9 y_9l y_9c), (.slice y_10 y_10l y_10c), (.int .i64 y_11), (.int .i64 y_12), (.int .i64 y_13), (.int .i64 y_14), (.int .i64 y_15)])] w Q := by
  have e_ : wp_shiftbellkeep_sameStates_1 x_0 x_1 x_2 x_3 x_4 x_5 x_6 x_7 x_8 x_9 x_9l x_9c x_10 x_10l x_10c x_11 x_12 x_13 x_14 x_15 y_0 y_1 y_2 y_3 y_4 y_5 y_6 y_7 y_8 y_9 y_9l y_9c y_10 y_10l y_10c y_11 y_12 y_13 y_14 y_15 w Q = Runs Try.prog Q ({ N := 45, wrap := [], pub := [], muts := [], joins := [] } : Cfg) Try.f45 (Try.f45.body.getD .skip) [.agg [.str x_0, .int .i64 x_1, .int .i64 x_2, .int .i64 x_3, .int .i64 x_4, .int .i64 x_5, .str x_6, .str x_7, .int .i64 x_8, .slc x_9 x_9l x_9c, .slc x_10 x_10l x_10c, .int .i64 x_11, .int .i64 x_12, .int .i64 x_13, .int .i64 x_14, .int .i64 x_15], .agg [.str y_0, .int .i64 y_1, .int .i64 y_2, .int .i64 y_3, .int .i64 y_4, .int .i64 y_5, .str y_6, .str y_7, .int .i64 y_8, .slc y_9 y_9l y_9c, .slc y_10 y_10l y_10c, .int .i64 y_11, .int .i64 y_12, .int .i64 y_13, .int .i64 y_14, .int .i64 y_15]] w := by kernel_rfl
  rw [e_] at h
  exact runs_fn h Try.func45 (by kernel_rfl) (fun args w => Try.call45 args w) (by kernel_rfl) (by kernel_rfl) rfl rfl

/-- slices.EqualFunc[[]shiftbell/api.State,[]shiftbell/api.State,shiftbell/api.State,shiftbell/api.State] -/
def wp_slices_EqualFunc_api_State_api_State_api_State_api_State (s1 : Option Addr) (s1l : Nat) (s1c : Nat) (s2 : Option Addr) (s2l : Nat) (s2c : Nat) (eq : Value) (w : World) (Q : Value → World → Prop) : Prop :=
  (((s1l : Int) ≠ (s2l : Int)) →
   ∀ w0, Ext w w0 →
   Q (.bool false) w0) ∧
  (((s1l : Int) = (s2l : Int)) →
   ∃ (I0 : Int → World → Prop) (M0 : Int → World → Nat), I0 0 w ∧
   ∀ (k1 : Int) (w2 : World), I0 k1 w2 →
    (((k1 < (s1l : Int)) →
     s1 ≠ none ∧
     (0 : Int) ≤ k1 ∧
     (k1 : Int) < (s1l : Int) ∧
     (pIdx s1 k1 16) ≠ none ∧
     ∃ t3 : ByteArray, cell w2 (pIdx s1 k1 16) 0 = some (.string t3) ∧
     ∃ t4 : Int, cell w2 (pIdx s1 k1 16) 1 = some (.int .i64 t4) ∧
     ∃ t5 : Int, cell w2 (pIdx s1 k1 16) 2 = some (.int .i64 t5) ∧
     ∃ t6 : Int, cell w2 (pIdx s1 k1 16) 3 = some (.int .i64 t6) ∧
     ∃ t7 : Int, cell w2 (pIdx s1 k1 16) 4 = some (.int .i64 t7) ∧
     ∃ t8 : Int, cell w2 (pIdx s1 k1 16) 5 = some (.int .i64 t8) ∧
     ∃ t9 : ByteArray, cell w2 (pIdx s1 k1 16) 6 = some (.string t9) ∧
     ∃ t10 : ByteArray, cell w2 (pIdx s1 k1 16) 7 = some (.string t10) ∧
     ∃ t11 : Int, cell w2 (pIdx s1 k1 16) 8 = some (.int .i64 t11) ∧
     ∃ t12 : Option Addr, ∃ tl13 : Nat, ∃ tc14 : Nat, cell w2 (pIdx s1 k1 16) 9 = some (.slice t12 tl13 tc14) ∧
     ∃ t15 : Option Addr, ∃ tl16 : Nat, ∃ tc17 : Nat, cell w2 (pIdx s1 k1 16) 10 = some (.slice t15 tl16 tc17) ∧
     ∃ t18 : Int, cell w2 (pIdx s1 k1 16) 11 = some (.int .i64 t18) ∧
     ∃ t19 : Int, cell w2 (pIdx s1 k1 16) 12 = some (.int .i64 t19) ∧
     ∃ t20 : Int, cell w2 (pIdx s1 k1 16) 13 = some (.int .i64 t20) ∧
     ∃ t21 : Int, cell w2 (pIdx s1 k1 16) 14 = some (.int .i64 t21) ∧
     ∃ t22 : Int, cell w2 (pIdx s1 k1 16) 15 = some (.int .i64 t22) ∧
     ∀ b23 : Nat, w2.heap.size ≤ b23 → s2 ≠ none ∧
     (0 : Int) ≤ k1 ∧
     (k1 : Int) < (s2l : Int) ∧
     (pIdx s2 k1 16) ≠ none ∧
     ∃ t24 : ByteArray, cell w2 (pIdx s2 k1 16) 0 = some (.string t24) ∧
     ∃ t25 : Int, cell w2 (pIdx s2 k1 16) 1 = some (.int .i64 t25) ∧
     ∃ t26 : Int, cell w2 (pIdx s2 k1 16) 2 = some (.int .i64 t26) ∧
     ∃ t27 : Int, cell w2 (pIdx s2 k1 16) 3 = some (.int .i64 t27) ∧
     ∃ t28 : Int, cell w2 (pIdx s2 k1 16) 4 = some (.int .i64 t28) ∧
     ∃ t29 : Int, cell w2 (pIdx s2 k1 16) 5 = some (.int .i64 t29) ∧
     ∃ t30 : ByteArray, cell w2 (pIdx s2 k1 16) 6 = some (.string t30) ∧
     ∃ t31 : ByteArray, cell w2 (pIdx s2 k1 16) 7 = some (.string t31) ∧
     ∃ t32 : Int, cell w2 (pIdx s2 k1 16) 8 = some (.int .i64 t32) ∧
     ∃ t33 : Option Addr, ∃ tl34 : Nat, ∃ tc35 : Nat, cell w2 (pIdx s2 k1 16) 9 = some (.slice t33 tl34 tc35) ∧
     ∃ t36 : Option Addr, ∃ tl37 : Nat, ∃ tc38 : Nat, cell w2 (pIdx s2 k1 16) 10 = some (.slice t36 tl37 tc38) ∧
     ∃ t39 : Int, cell w2 (pIdx s2 k1 16) 11 = some (.int .i64 t39) ∧
     ∃ t40 : Int, cell w2 (pIdx s2 k1 16) 12 = some (.int .i64 t40) ∧
     ∃ t41 : Int, cell w2 (pIdx s2 k1 16) 13 = some (.int .i64 t41) ∧
     ∃ t42 : Int, cell w2 (pIdx s2 k1 16) 14 = some (.int .i64 t42) ∧
     ∃ t43 : Int, cell w2 (pIdx s2 k1 16) 15 = some (.int .i64 t43) ∧
     ∀ b44 : Nat, w2.heap.size ≤ b44 → ∀ w45, Ext w2 w45 →
     FnVP Try.prog eq [(.agg #[(.string t3), (.int .i64 t4), (.int .i64 t5), (.int .i64 t6), (.int .i64 t7), (.int .i64 t8), (.string t9), (.string t10), (.int .i64 t11), (.slice t12 tl13 tc14), (.slice t15 tl16 tc17), (.int .i64 t18), (.int .i64 t19), (.int .i64 t20), (.int .i64 t21), (.int .i64 t22)]), (.agg #[(.string t24), (.int .i64 t25), (.int .i64 t26), (.int .i64 t27), (.int .i64 t28), (.int .i64 t29), (.string t30), (.string t31), (.int .i64 t32), (.slice t33 tl34 tc35), (.slice t36 tl37 tc38), (.int .i64 t39), (.int .i64 t40), (.int .i64 t41), (.int .i64 t42), (.int .i64 t43)])] w45 fun v46 w46 =>
      Ext w45 w46 ∧
      ∃ t47 : Bool, v46 = (.bool t47) ∧
      ((t47 = false) →
       ∀ w48, Ext w2 w48 →
       Q (.bool false) w48) ∧
      ((t47 = true) →
       InR .i64 (k1 + 1) ∧
       (I0 (k1 + 1) w2 ∧ M0 (k1 + 1) w2 < M0 k1 w2)))) ∧
    (((s1l : Int) ≤ k1) →
     ∀ w3, Ext w2 w3 →
     Q (.bool true) w3))

theorem ok_slices_EqualFunc_api_State_api_State_api_State_api_State (s1 : Option Addr) (s1l : Nat) (s1c : Nat) (s2 : Option Addr) (s2l : Nat) (s2c : Nat) (eq : Value) (w : World) (Q : Value → World → Prop) (h : wp_slices_EqualFunc_api_State_api_State_api_State_api_State s1 s1l s1c s2 s2l s2c eq w Q) : FnP Try.prog F_slices_EqualFunc_api_State_api_State_api_State_api_State #[(.slice s1 s1l s1c), (.slice s2 s2l s2c), eq] w Q := by
  have e_ : wp_slices_EqualFunc_api_State_api_State_api_State_api_State s1 s1l s1c s2 s2l s2c eq w Q = Runs Try.prog Q ({ N := 32, wrap := [], pub := [], muts := [], joins := [] } : Cfg) Try.f44 (Try.f44.body.getD .skip) [.sc (.slc s1 s1l s1c), .sc (.slc s2 s2l s2c), .sc (.val eq)] w := by kernel_rfl
  rw [e_] at h
  exact runs_fn h Try.func44 (by kernel_rfl) (fun args w => Try.call44 args w) (by kernel_rfl) (by kernel_rfl) rfl rfl

/-- shiftbell/shiftbellkeep.sameFarm -/
def wp_shiftbellkeep_sameFarm (f : Option Addr) (g : Option Addr) (w : World) (Q : Value → World → Prop) : Prop :=
  ∀ w0, Ext w w0 →
  FnP Try.prog F_farm_Farm_Now #[(.pointer f)] w0 fun v1 w1 =>
   Ext w0 w1 ∧
   ∃ t2 : Int, v1 = (.int .i64 t2) ∧
   ∀ w3, Ext w w3 →
   FnP Try.prog F_farm_Farm_Now #[(.pointer g)] w3 fun v4 w4 =>
    Ext w3 w4 ∧
    ∃ t5 : Int, v4 = (.int .i64 t5) ∧
    (((t2 = t5) →
     ∀ w6, Ext w w6 →
     FnP Try.prog F_farm_Farm_Jobs #[(.pointer f)] w6 fun v7 w7 =>
      Ext w6 w7 ∧
      ∃ t8 : Option Addr, ∃ tl9 : Nat, ∃ tc10 : Nat, v7 = (.slice t8 tl9 tc10) ∧
      ∀ w11, Ext w7 w11 →
      FnP Try.prog F_farm_Farm_Jobs #[(.pointer g)] w11 fun v12 w12 =>
       Ext w11 w12 ∧
       ∃ t13 : Option Addr, ∃ tl14 : Nat, ∃ tc15 : Nat, v12 = (.slice t13 tl14 tc15) ∧
       ∀ w16, Ext w12 w16 →
       FnP Try.prog F_shiftbellkeep_sameStates #[(.slice t8 tl9 tc10), (.slice t13 tl14 tc15)] w16 fun v17 w17 =>
        Ext w16 w17 ∧
        ∃ t18 : Bool, v17 = (.bool t18) ∧
        (((t18 = true) →
         ∀ w19, Ext w12 w19 →
         FnP Try.prog F_farm_Farm_Hosts #[(.pointer f)] w19 fun v20 w20 =>
          Ext w19 w20 ∧
          ∃ t21 : Option Addr, ∃ tl22 : Nat, ∃ tc23 : Nat, v20 = (.slice t21 tl22 tc23) ∧
          ∀ w24, Ext w20 w24 →
          FnP Try.prog F_farm_Farm_Hosts #[(.pointer g)] w24 fun v25 w25 =>
           Ext w24 w25 ∧
           ∃ t26 : Option Addr, ∃ tl27 : Nat, ∃ tc28 : Nat, v25 = (.slice t26 tl27 tc28) ∧
           ∀ w29, Ext w25 w29 →
           FnP Try.prog F_shiftbellkeep_sameHosts #[(.slice t21 tl22 tc23), (.slice t26 tl27 tc28)] w29 fun v30 w30 =>
            Ext w29 w30 ∧
            ∃ t31 : Bool, v30 = (.bool t31) ∧
            ∀ w32, Ext w25 w32 →
            Q (.bool t31) w32)) ∧
        ((t18 = false) →
         ∀ w19, Ext w12 w19 →
         Q (.bool false) w19))) ∧
    ((t2 ≠ t5) →
     ∀ w6, Ext w w6 →
     Q (.bool false) w6)

theorem ok_shiftbellkeep_sameFarm (f : Option Addr) (g : Option Addr) (w : World) (Q : Value → World → Prop) (h : wp_shiftbellkeep_sameFarm f g w Q) : FnP Try.prog F_shiftbellkeep_sameFarm #[(.pointer f), (.pointer g)] w Q := by
  have e_ : wp_shiftbellkeep_sameFarm f g w Q = Runs Try.prog Q ({ N := 24, wrap := [], pub := [], muts := [], joins := [] } : Cfg) Try.f26 (Try.f26.body.getD .skip) [.sc (.ptr f), .sc (.ptr g)] w := by kernel_rfl
  rw [e_] at h
  exact runs_fn h Try.func26 (by kernel_rfl) (fun args w => Try.call26 args w) (by kernel_rfl) (by kernel_rfl) rfl rfl

/-- shiftbell/shiftbellkeep.FarmAhead -/
def wp_shiftbellkeep_FarmAhead (x_0 : Option Addr) (x_0l : Nat) (x_0c : Nat) (x_1 : Int) (x_2 : Int) (x_3 : Int) (x_4 : Int) (l : Option Addr) (ll : Nat) (lc : Nat) (w : World) (Q : Value → World → Prop) : Prop :=
  ∀ b0 : Nat, w.heap.size ≤ b0 → ∀ w1, Ext w w1 →
  FnP Try.prog F_shiftbellkeep_farms #[] w1 fun v2 w2 =>
   Ext w1 w2 ∧
   ∃ t3 : Bool, v2 = (.bool t3) ∧
   ((t3 = false) →
    ∀ w4, Ext w w4 →
    Q (.bool false) w4) ∧
   ((t3 = true) →
    ∀ w4, ExtB [] [b0] w w4 →
    FnP Try.prog F_shiftbellkeep_played #[(.agg #[(.slice x_0 x_0l x_0c), (.int .i64 x_1), (.int .i64 x_2), (.int .i64 x_3), (.int .i64 x_4)]), (.slice l ll lc)] w4 fun v5 w5 =>
     Ext w4 w5 ∧
     ∃ t6 : Option Addr, v5 = (.pointer t6) ∧
     (((t6 = none) ∨ (80 < (ll : Int))) →
      ∀ w7, Ext w5 w7 →
      Q (.bool true) w7) ∧
     (((t6 ≠ none) ∧ ((ll : Int) ≤ 80)) →
      ∀ w7, ExtB [] [b0] w5 w7 →
      FnP Try.prog F_farm_Farm_Jobs #[(.pointer t6)] w7 fun v8 w8 =>
       Ext w7 w8 ∧
       ∃ t9 : Option Addr, ∃ tl10 : Nat, ∃ tc11 : Nat, v8 = (.slice t9 tl10 tc11) ∧
       ∃ (I12 : Int → World → Prop) (M12 : Int → World → Nat), I12 0 w8 ∧
       ∀ (k13 : Int) (w14 : World), I12 k13 w14 →
        (((k13 < (tl10 : Int)) →
         t9 ≠ none ∧
         (0 : Int) ≤ k13 ∧
         (k13 : Int) < (tl10 : Int) ∧
         (pIdx t9 k13 16) ≠ none ∧
         ∃ t15 : ByteArray, cell w14 (pIdx t9 k13 16) 0 = some (.string t15) ∧
         ∃ t16 : Int, cell w14 (pIdx t9 k13 16) 1 = some (.int .i64 t16) ∧
         ∃ t17 : Int, cell w14 (pIdx t9 k13 16) 2 = some (.int .i64 t17) ∧
         ∃ t18 : Int, cell w14 (pIdx t9 k13 16) 3 = some (.int .i64 t18) ∧
         ∃ t19 : Int, cell w14 (pIdx t9 k13 16) 4 = some (.int .i64 t19) ∧
         ∃ t20 : Int, cell w14 (pIdx t9 k13 16) 5 = some (.int .i64 t20) ∧
         ∃ t21 : ByteArray, cell w14 (pIdx t9 k13 16) 6 = some (.string t21) ∧
         ∃ t22 : ByteArray, cell w14 (pIdx t9 k13 16) 7 = some (.string t22) ∧
         ∃ t23 : Int, cell w14 (pIdx t9 k13 16) 8 = some (.int .i64 t23) ∧
         ∃ t24 : Option Addr, ∃ tl25 : Nat, ∃ tc26 : Nat, cell w14 (pIdx t9 k13 16) 9 = some (.slice t24 tl25 tc26) ∧
         ∃ t27 : Option Addr, ∃ tl28 : Nat, ∃ tc29 : Nat, cell w14 (pIdx t9 k13 16) 10 = some (.slice t27 tl28 tc29) ∧
         ∃ t30 : Int, cell w14 (pIdx t9 k13 16) 11 = some (.int .i64 t30) ∧
         ∃ t31 : Int, cell w14 (pIdx t9 k13 16) 12 = some (.int .i64 t31) ∧
         ∃ t32 : Int, cell w14 (pIdx t9 k13 16) 13 = some (.int .i64 t32) ∧
         ∃ t33 : Int, cell w14 (pIdx t9 k13 16) 14 = some (.int .i64 t33) ∧
         ∃ t34 : Int, cell w14 (pIdx t9 k13 16) 15 = some (.int .i64 t34) ∧
         ∀ b35 : Nat, w14.heap.size ≤ b35 → ∃ (I36 : Int → World → Prop) (M36 : Int → World → Nat), I36 0 w14 ∧
         ∀ (k37 : Int) (w38 : World), I36 k37 w38 →
          (((k37 < (tl28 : Int)) →
           t27 ≠ none ∧
           (0 : Int) ≤ k37 ∧
           (k37 : Int) < (tl28 : Int) ∧
           ∃ t39 : Int, cell w38 (pIdx t27 k37 1) 0 = some (.int .i64 t39) ∧
           (((t39 < 1) ∨ (k13 < t39)) →
            ∀ w40, Ext w38 w40 →
            Q (.bool false) w40) ∧
           (((1 ≤ t39) ∧ (t39 ≤ k13)) →
            InR .i64 (t39 - 1) ∧
            t9 ≠ none ∧
            (0 : Int) ≤ (t39 - 1) ∧
            ((t39 - 1) : Int) < (tl10 : Int) ∧
            (pIdx t9 (t39 - 1) 16) ≠ none ∧
            ∃ t40 : Int, cell w38 (pAdd (pIdx t9 (t39 - 1) 16) 11) 0 = some (.int .i64 t40) ∧
            ((((((t30 = 2) ∨ (t30 = 3)) ∧ (t40 ≠ 3)) ∨ ((t30 = 1) ∧ ((t40 = 4) ∨ (t40 = 5)))) →
             ∀ w41, Ext w38 w41 →
             Q (.bool false) w41)) ∧
            (((((t30 ≠ 2) ∧ (t30 ≠ 3)) ∨ (t40 = 3)) ∧ ((t30 ≠ 1) ∨ ((t40 ≠ 4) ∧ (t40 ≠ 5)))) →
             InR .i64 (k37 + 1) ∧
             (I36 (k37 + 1) w38 ∧ M36 (k37 + 1) w38 < M36 k37 w38))))) ∧
          (((tl28 : Int) ≤ k37) →
           InR .i64 (k13 + 1) ∧
           (I12 (k13 + 1) w38 ∧ M12 (k13 + 1) w38 < M12 k13 w14)))) ∧
        (((tl10 : Int) ≤ k13) →
         ∀ w15, Ext w14 w15 →
         Q (.bool true) w15)))

theorem ok_shiftbellkeep_FarmAhead (x_0 : Option Addr) (x_0l : Nat) (x_0c : Nat) (x_1 : Int) (x_2 : Int) (x_3 : Int) (x_4 : Int) (l : Option Addr) (ll : Nat) (lc : Nat) (w : World) (Q : Value → World → Prop) (h : wp_shiftbellkeep_FarmAhead x_0 x_0l x_0c x_1 x_2 x_3 x_4 l ll lc w Q) : FnP Try.prog F_shiftbellkeep_FarmAhead #[(.agg #[(.slice x_0 x_0l x_0c), (.int .i64 x_1), (.int .i64 x_2), (.int .i64 x_3), (.int .i64 x_4)]), (.slice l ll lc)] w Q := by
  have e_ : wp_shiftbellkeep_FarmAhead x_0 x_0l x_0c x_1 x_2 x_3 x_4 l ll lc w Q = Runs Try.prog Q ({ N := 81, wrap := [], pub := [], muts := [29, 61, 17, 24], joins := [] } : Cfg) Try.f3 (Try.f3.body.getD .skip) [.agg [.slc x_0 x_0l x_0c, .int .i64 x_1, .int .i64 x_2, .int .i64 x_3, .int .i64 x_4], .sc (.slc l ll lc)] w := by kernel_rfl
  rw [e_] at h
  exact runs_fn h Try.func3 (by kernel_rfl) (fun args w => Try.call3 args w) (by kernel_rfl) (by kernel_rfl) rfl rfl

theorem open_shiftbellkeep_FarmAhead (W : World) (R : Array Value → Prop) (h : ∀ x_0 : Option Addr, ∀ x_0l : Nat, ∀ x_0c : Nat, SlcArg Try.prog W 50 x_0 x_0l x_0c → ∀ x_1 : Int, InR .i64 x_1 → ∀ x_2 : Int, InR .i64 x_2 → ∀ x_3 : Int, InR .i64 x_3 → ∀ x_4 : Int, InR .i64 x_4 → ∀ l : Option Addr, ∀ ll : Nat, ∀ lc : Nat, SlcArg Try.prog W 70 l ll lc → R #[(.agg #[(.slice x_0 x_0l x_0c), (.int .i64 x_1), (.int .i64 x_2), (.int .i64 x_3), (.int .i64 x_4)]), (.slice l ll lc)]) (args : Array Value) (hg : GoodAll Try.prog W Try.f3.params.toList args.toList) : R args := by
  have e_ : (ArgsAll Try.prog W Try.f3.params.toList fun l => R l.toArray) = (∀ x_0 : Option Addr, ∀ x_0l : Nat, ∀ x_0c : Nat, SlcArg Try.prog W 50 x_0 x_0l x_0c → ∀ x_1 : Int, InR .i64 x_1 → ∀ x_2 : Int, InR .i64 x_2 → ∀ x_3 : Int, InR .i64 x_3 → ∀ x_4 : Int, InR .i64 x_4 → ∀ l : Option Addr, ∀ ll : Nat, ∀ lc : Nat, SlcArg Try.prog W 70 l ll lc → R #[(.agg #[(.slice x_0 x_0l x_0c), (.int .i64 x_1), (.int .i64 x_2), (.int .i64 x_3), (.int .i64 x_4)]), (.slice l ll lc)]) := by kernel_rfl
  exact args_open (by rw [e_]; exact h) args hg
-- wit 3 #[(.agg #[(.slice none 0 0), (.int .i64 0), (.int .i64 0), (.int .i64 0), (.int .i64 0)]), (.slice none 0 0)]

/-- shiftbell/shiftbellkeep.FarmTries -/
def wp_shiftbellkeep_FarmTries (x_0 : Option Addr) (x_0l : Nat) (x_0c : Nat) (x_1 : Int) (x_2 : Int) (x_3 : Int) (x_4 : Int) (l : Option Addr) (ll : Nat) (lc : Nat) (w : World) (Q : Value → World → Prop) : Prop :=
  ∀ b0 : Nat, w.heap.size ≤ b0 → ∀ w1, Ext w w1 →
  FnP Try.prog F_shiftbellkeep_farms #[] w1 fun v2 w2 =>
   Ext w1 w2 ∧
   ∃ t3 : Bool, v2 = (.bool t3) ∧
   ((t3 = false) →
    ∀ w4, Ext w w4 →
    Q (.bool false) w4) ∧
   ((t3 = true) →
    ∀ w4, ExtB [] [b0] w w4 →
    FnP Try.prog F_shiftbellkeep_played #[(.agg #[(.slice x_0 x_0l x_0c), (.int .i64 x_1), (.int .i64 x_2), (.int .i64 x_3), (.int .i64 x_4)]), (.slice l ll lc)] w4 fun v5 w5 =>
     Ext w4 w5 ∧
     ∃ t6 : Option Addr, v5 = (.pointer t6) ∧
     (((t6 = none) ∨ (80 < (ll : Int))) →
      ∀ w7, Ext w5 w7 →
      Q (.bool true) w7) ∧
     (((t6 ≠ none) ∧ ((ll : Int) ≤ 80)) →
      ∀ w7, ExtB [] [b0] w5 w7 →
      FnP Try.prog F_farm_Farm_Jobs #[(.pointer t6)] w7 fun v8 w8 =>
       Ext w7 w8 ∧
       ∃ t9 : Option Addr, ∃ tl10 : Nat, ∃ tc11 : Nat, v8 = (.slice t9 tl10 tc11) ∧
       ∃ (I12 : Int → World → Prop) (M12 : Int → World → Nat), I12 0 w8 ∧
       ∀ (k13 : Int) (w14 : World), I12 k13 w14 →
        (((k13 < (tl10 : Int)) →
         t9 ≠ none ∧
         (0 : Int) ≤ k13 ∧
         (k13 : Int) < (tl10 : Int) ∧
         (pIdx t9 k13 16) ≠ none ∧
         ∃ t15 : ByteArray, cell w14 (pIdx t9 k13 16) 0 = some (.string t15) ∧
         ∃ t16 : Int, cell w14 (pIdx t9 k13 16) 1 = some (.int .i64 t16) ∧
         ∃ t17 : Int, cell w14 (pIdx t9 k13 16) 2 = some (.int .i64 t17) ∧
         ∃ t18 : Int, cell w14 (pIdx t9 k13 16) 3 = some (.int .i64 t18) ∧
         ∃ t19 : Int, cell w14 (pIdx t9 k13 16) 4 = some (.int .i64 t19) ∧
         ∃ t20 : Int, cell w14 (pIdx t9 k13 16) 5 = some (.int .i64 t20) ∧
         ∃ t21 : ByteArray, cell w14 (pIdx t9 k13 16) 6 = some (.string t21) ∧
         ∃ t22 : ByteArray, cell w14 (pIdx t9 k13 16) 7 = some (.string t22) ∧
         ∃ t23 : Int, cell w14 (pIdx t9 k13 16) 8 = some (.int .i64 t23) ∧
         ∃ t24 : Option Addr, ∃ tl25 : Nat, ∃ tc26 : Nat, cell w14 (pIdx t9 k13 16) 9 = some (.slice t24 tl25 tc26) ∧
         ∃ t27 : Option Addr, ∃ tl28 : Nat, ∃ tc29 : Nat, cell w14 (pIdx t9 k13 16) 10 = some (.slice t27 tl28 tc29) ∧
         ∃ t30 : Int, cell w14 (pIdx t9 k13 16) 11 = some (.int .i64 t30) ∧
         ∃ t31 : Int, cell w14 (pIdx t9 k13 16) 12 = some (.int .i64 t31) ∧
         ∃ t32 : Int, cell w14 (pIdx t9 k13 16) 13 = some (.int .i64 t32) ∧
         ∃ t33 : Int, cell w14 (pIdx t9 k13 16) 14 = some (.int .i64 t33) ∧
         ∃ t34 : Int, cell w14 (pIdx t9 k13 16) 15 = some (.int .i64 t34) ∧
         ∀ b35 : Nat, w14.heap.size ≤ b35 → InR .i64 (x_4 + 1) ∧
         ((t34 ≤ (x_4 + 1)) →
          ((t30 = 4) →
           InR .i64 (x_4 + 1))) ∧
         ((((((x_4 + 1) < t34) ∨ ((t30 = 4) ∧ (t34 ≠ (x_4 + 1)))) ∨ ((t30 = 1) ∧ (x_4 < t34))) →
          ∀ w36, Ext w14 w36 →
          Q (.bool false) w36)) ∧
         ((((t34 ≤ (x_4 + 1)) ∧ ((t30 ≠ 4) ∨ (t34 = (x_4 + 1)))) ∧ ((t30 ≠ 1) ∨ (t34 ≤ x_4))) →
          ((((t30 = 1) ∧ (0 < t34)) →
           ∀ w36, Ext w14 w36 →
           FnP Try.prog F_retry_Delay #[(.agg #[(.int .i64 x_1), (.int .i64 x_2), (.int .i64 x_3), (.int .i64 x_4)]), (.int .i64 t34)] w36 fun v37 w37 =>
            Ext w36 w37 ∧
            ∃ t38 : Int, ∃ t39 : Int, v37 = (.tuple #[(.int .i64 t38), (.int .i64 t39)]) ∧
            (((t39 ≠ 0) ∨ (t33 < t38)) →
             ∀ w40, Ext w14 w40 →
             Q (.bool false) w40) ∧
            (((t39 = 0) ∧ (t38 ≤ t33)) →
             InR .i64 (k13 + 1) ∧
             (I12 (k13 + 1) w14 ∧ M12 (k13 + 1) w14 < M12 k13 w14)))) ∧
          (((t30 ≠ 1) ∨ (t34 ≤ 0)) →
           InR .i64 (k13 + 1) ∧
           (I12 (k13 + 1) w14 ∧ M12 (k13 + 1) w14 < M12 k13 w14))))) ∧
        (((tl10 : Int) ≤ k13) →
         ∀ w15, Ext w14 w15 →
         Q (.bool true) w15)))

theorem ok_shiftbellkeep_FarmTries (x_0 : Option Addr) (x_0l : Nat) (x_0c : Nat) (x_1 : Int) (x_2 : Int) (x_3 : Int) (x_4 : Int) (l : Option Addr) (ll : Nat) (lc : Nat) (w : World) (Q : Value → World → Prop) (h : wp_shiftbellkeep_FarmTries x_0 x_0l x_0c x_1 x_2 x_3 x_4 l ll lc w Q) : FnP Try.prog F_shiftbellkeep_FarmTries #[(.agg #[(.slice x_0 x_0l x_0c), (.int .i64 x_1), (.int .i64 x_2), (.int .i64 x_3), (.int .i64 x_4)]), (.slice l ll lc)] w Q := by
  have e_ : wp_shiftbellkeep_FarmTries x_0 x_0l x_0c x_1 x_2 x_3 x_4 l ll lc w Q = Runs Try.prog Q ({ N := 88, wrap := [], pub := [], muts := [29, 61, 17, 24], joins := [] } : Cfg) Try.f4 (Try.f4.body.getD .skip) [.agg [.slc x_0 x_0l x_0c, .int .i64 x_1, .int .i64 x_2, .int .i64 x_3, .int .i64 x_4], .sc (.slc l ll lc)] w := by kernel_rfl
  rw [e_] at h
  exact runs_fn h Try.func4 (by kernel_rfl) (fun args w => Try.call4 args w) (by kernel_rfl) (by kernel_rfl) rfl rfl

theorem open_shiftbellkeep_FarmTries (W : World) (R : Array Value → Prop) (h : ∀ x_0 : Option Addr, ∀ x_0l : Nat, ∀ x_0c : Nat, SlcArg Try.prog W 50 x_0 x_0l x_0c → ∀ x_1 : Int, InR .i64 x_1 → ∀ x_2 : Int, InR .i64 x_2 → ∀ x_3 : Int, InR .i64 x_3 → ∀ x_4 : Int, InR .i64 x_4 → ∀ l : Option Addr, ∀ ll : Nat, ∀ lc : Nat, SlcArg Try.prog W 70 l ll lc → R #[(.agg #[(.slice x_0 x_0l x_0c), (.int .i64 x_1), (.int .i64 x_2), (.int .i64 x_3), (.int .i64 x_4)]), (.slice l ll lc)]) (args : Array Value) (hg : GoodAll Try.prog W Try.f4.params.toList args.toList) : R args := by
  have e_ : (ArgsAll Try.prog W Try.f4.params.toList fun l => R l.toArray) = (∀ x_0 : Option Addr, ∀ x_0l : Nat, ∀ x_0c : Nat, SlcArg Try.prog W 50 x_0 x_0l x_0c → ∀ x_1 : Int, InR .i64 x_1 → ∀ x_2 : Int, InR .i64 x_2 → ∀ x_3 : Int, InR .i64 x_3 → ∀ x_4 : Int, InR .i64 x_4 → ∀ l : Option Addr, ∀ ll : Nat, ∀ lc : Nat, SlcArg Try.prog W 70 l ll lc → R #[(.agg #[(.slice x_0 x_0l x_0c), (.int .i64 x_1), (.int .i64 x_2), (.int .i64 x_3), (.int .i64 x_4)]), (.slice l ll lc)]) := by kernel_rfl
  exact args_open (by rw [e_]; exact h) args hg
-- wit 4 #[(.agg #[(.slice none 0 0), (.int .i64 0), (.int .i64 0), (.int .i64 0), (.int .i64 0)]), (.slice none 0 0)]

/-- shiftbell/shiftbellkeep.FarmNever -/
def wp_shiftbellkeep_FarmNever (x_0 : Option Addr) (x_0l : Nat) (x_0c : Nat) (x_1 : Int) (x_2 : Int) (x_3 : Int) (x_4 : Int) (l : Option Addr) (ll : Nat) (lc : Nat) (w : World) (Q : Value → World → Prop) : Prop :=
  ∀ b0 : Nat, w.heap.size ≤ b0 → ∀ w1, Ext w w1 →
  FnP Try.prog F_shiftbellkeep_farms #[] w1 fun v2 w2 =>
   Ext w1 w2 ∧
   ∃ t3 : Bool, v2 = (.bool t3) ∧
   ((t3 = false) →
    ∀ w4, Ext w w4 →
    Q (.bool false) w4) ∧
   ((t3 = true) →
    ∀ w4, ExtB [] [b0] w w4 →
    FnP Try.prog F_shiftbellkeep_played #[(.agg #[(.slice x_0 x_0l x_0c), (.int .i64 x_1), (.int .i64 x_2), (.int .i64 x_3), (.int .i64 x_4)]), (.slice l ll lc)] w4 fun v5 w5 =>
     Ext w4 w5 ∧
     ∃ t6 : Option Addr, v5 = (.pointer t6) ∧
     (((t6 = none) ∨ (80 < (ll : Int))) →
      ∀ w7, Ext w5 w7 →
      Q (.bool true) w7) ∧
     (((t6 ≠ none) ∧ ((ll : Int) ≤ 80)) →
      ∀ w7, ExtB [] [b0] w5 w7 →
      FnP Try.prog F_farm_Farm_Hosts #[(.pointer t6)] w7 fun v8 w8 =>
       Ext w7 w8 ∧
       ∃ t9 : Option Addr, ∃ tl10 : Nat, ∃ tc11 : Nat, v8 = (.slice t9 tl10 tc11) ∧
       ∃ (I12 : Int → World → Prop) (M12 : Int → World → Nat), I12 0 w8 ∧
       ∀ (k13 : Int) (w14 : World), I12 k13 w14 →
        (((k13 < (tl10 : Int)) →
         t9 ≠ none ∧
         (0 : Int) ≤ k13 ∧
         (k13 : Int) < (tl10 : Int) ∧
         (pIdx t9 k13 8) ≠ none ∧
         ∃ t15 : ByteArray, cell w14 (pIdx t9 k13 8) 0 = some (.string t15) ∧
         ∃ t16 : Option Addr, ∃ tl17 : Nat, ∃ tc18 : Nat, cell w14 (pIdx t9 k13 8) 1 = some (.slice t16 tl17 tc18) ∧
         ∃ t19 : Int, cell w14 (pIdx t9 k13 8) 2 = some (.int .i64 t19) ∧
         ∃ t20 : Int, cell w14 (pIdx t9 k13 8) 3 = some (.int .i64 t20) ∧
         ∃ t21 : Int, cell w14 (pIdx t9 k13 8) 4 = some (.int .i64 t21) ∧
         ∃ t22 : Int, cell w14 (pIdx t9 k13 8) 5 = some (.int .i64 t22) ∧
         ∃ t23 : Int, cell w14 (pIdx t9 k13 8) 6 = some (.int .i64 t23) ∧
         ∃ t24 : Int, cell w14 (pIdx t9 k13 8) 7 = some (.int .i64 t24) ∧
         ∀ b25 : Nat, w14.heap.size ≤ b25 → ∀ w26, ExtB [] [b0, b25] w14 w26 →
         FnP Try.prog F_farm_Farm_Jobs #[(.pointer t6)] w26 fun v27 w27 =>
          Ext w26 w27 ∧
          ∃ t28 : Option Addr, ∃ tl29 : Nat, ∃ tc30 : Nat, v27 = (.slice t28 tl29 tc30) ∧
          ∃ (I31 : Option Addr → Nat → Nat → Int → World → Prop) (M31 : Option Addr → Nat → Nat → Int → World → Nat), I31 none 0 0 0 w27 ∧
          ∀ (all32 : Option Addr) (alll32 : Nat) (allc32 : Nat) (k33 : Int) (w34 : World), I31 all32 alll32 allc32 k33 w34 →
           (((k33 < (tl29 : Int)) →
            t28 ≠ none ∧
            (0 : Int) ≤ k33 ∧
            (k33 : Int) < (tl29 : Int) ∧
            (pIdx t28 k33 16) ≠ none ∧
            ∃ t35 : ByteArray, cell w34 (pIdx t28 k33 16) 0 = some (.string t35) ∧
            ∃ t36 : Int, cell w34 (pIdx t28 k33 16) 1 = some (.int .i64 t36) ∧
            ∃ t37 : Int, cell w34 (pIdx t28 k33 16) 2 = some (.int .i64 t37) ∧
            ∃ t38 : Int, cell w34 (pIdx t28 k33 16) 3 = some (.int .i64 t38) ∧
            ∃ t39 : Int, cell w34 (pIdx t28 k33 16) 4 = some (.int .i64 t39) ∧
            ∃ t40 : Int, cell w34 (pIdx t28 k33 16) 5 = some (.int .i64 t40) ∧
            ∃ t41 : ByteArray, cell w34 (pIdx t28 k33 16) 6 = some (.string t41) ∧
            ∃ t42 : ByteArray, cell w34 (pIdx t28 k33 16) 7 = some (.string t42) ∧
            ∃ t43 : Int, cell w34 (pIdx t28 k33 16) 8 = some (.int .i64 t43) ∧
            ∃ t44 : Option Addr, ∃ tl45 : Nat, ∃ tc46 : Nat, cell w34 (pIdx t28 k33 16) 9 = some (.slice t44 tl45 tc46) ∧
            ∃ t47 : Option Addr, ∃ tl48 : Nat, ∃ tc49 : Nat, cell w34 (pIdx t28 k33 16) 10 = some (.slice t47 tl48 tc49) ∧
            ∃ t50 : Int, cell w34 (pIdx t28 k33 16) 11 = some (.int .i64 t50) ∧
            ∃ t51 : Int, cell w34 (pIdx t28 k33 16) 12 = some (.int .i64 t51) ∧
            ∃ t52 : Int, cell w34 (pIdx t28 k33 16) 13 = some (.int .i64 t52) ∧
            ∃ t53 : Int, cell w34 (pIdx t28 k33 16) 14 = some (.int .i64 t53) ∧
            ∃ t54 : Int, cell w34 (pIdx t28 k33 16) 15 = some (.int .i64 t54) ∧
            ∀ b55 : Nat, w34.heap.size ≤ b55 → ((((t50 = 2) ∧ (t51 = k13)) →
             ∀ w56, ExtB [] [b0, b25, b55] w34 w56 →
             Run Try.prog (.buildSlice 51 1 [(0, (.agg #[(.int .i64 t37), (.int .i64 t38), (.int .i64 t39)]))]) w56 fun v57 w57 =>
              Ext w56 w57 ∧
              ∃ t58 : Option Addr, ∃ tl59 : Nat, ∃ tc60 : Nat, v57 = (.slice t58 tl59 tc60) ∧
              ∀ w61, ExtB [] [b0, b25, b55] w57 w61 →
              Run Try.prog (.append #[51, 51] 51 [(.slice all32 alll32 allc32), (.slice t58 tl59 tc60)]) w61 fun v62 w62 =>
               Kept [b0, b25, b55] w61 w62 ∧
               ∃ t63 : Option Addr, ∃ tl64 : Nat, ∃ tc65 : Nat, v62 = (.slice t63 tl64 tc65) ∧
               InR .i64 (k33 + 1) ∧
               (I31 t63 tl64 tc65 (k33 + 1) w62 ∧ M31 t63 tl64 tc65 (k33 + 1) w62 < M31 all32 alll32 allc32 k33 w34))) ∧
            (((t50 ≠ 2) ∨ (t51 ≠ k13)) →
             InR .i64 (k33 + 1) ∧
             (I31 all32 alll32 allc32 (k33 + 1) w34 ∧ M31 all32 alll32 allc32 (k33 + 1) w34 < M31 all32 alll32 allc32 k33 w34)))) ∧
           (((tl29 : Int) ≤ k33) →
            ∀ w35, Ext w34 w35 →
            FnP Try.prog F_need_Sum #[(.slice all32 alll32 allc32)] w35 fun v36 w36 =>
             Ext w35 w36 ∧
             ∃ t_037 : Int, ∃ t_138 : Int, ∃ t_239 : Int, ∃ t40 : Int, v36 = (.tuple #[(.agg #[(.int .i64 t_037), (.int .i64 t_138), (.int .i64 t_239)]), (.int .i64 t40)]) ∧
             ∀ b41 : Nat, w34.heap.size ≤ b41 → ((t40 ≠ 0) →
              ∀ w42, Ext w34 w42 →
              Q (.bool false) w42) ∧
             ((t40 = 0) →
              ∀ w42, Ext w34 w42 →
              Run Try.prog (.eq .neq 34 false false (.agg #[(.int .i64 t_037), (.int .i64 t_138), (.int .i64 t_239)]) (.agg #[(.int .i64 t22), (.int .i64 t23), (.int .i64 t24)])) w42 fun v43 w43 =>
               Ext w42 w43 ∧
               ∃ t44 : Bool, v43 = (.bool t44) ∧
               ((t44 = true) →
                ∀ w45, Ext w34 w45 →
                Q (.bool false) w45) ∧
               ((t44 = false) →
                InR .i64 (k13 + 1) ∧
                (I12 (k13 + 1) w34 ∧ M12 (k13 + 1) w34 < M12 k13 w14)))))) ∧
        (((tl10 : Int) ≤ k13) →
         ∀ w15, Ext w14 w15 →
         FnP Try.prog F_host_Check #[(.slice t9 tl10 tc11)] w15 fun v16 w16 =>
          Ext w15 w16 ∧
          ∃ t17 : Int, v16 = (.int .i64 t17) ∧
          ∀ w18, Ext w14 w18 →
          Q (.bool ((decide (t17 = 0)) && (decide ((tl10 : Int) = (x_0l : Int))))) w18)))

theorem ok_shiftbellkeep_FarmNever (x_0 : Option Addr) (x_0l : Nat) (x_0c : Nat) (x_1 : Int) (x_2 : Int) (x_3 : Int) (x_4 : Int) (l : Option Addr) (ll : Nat) (lc : Nat) (w : World) (Q : Value → World → Prop) (h : wp_shiftbellkeep_FarmNever x_0 x_0l x_0c x_1 x_2 x_3 x_4 l ll lc w Q) : FnP Try.prog F_shiftbellkeep_FarmNever #[(.agg #[(.slice x_0 x_0l x_0c), (.int .i64 x_1), (.int .i64 x_2), (.int .i64 x_3), (.int .i64 x_4)]), (.slice l ll lc)] w Q := by
  have e_ : wp_shiftbellkeep_FarmNever x_0 x_0l x_0c x_1 x_2 x_3 x_4 l ll lc w Q = Runs Try.prog Q ({ N := 83, wrap := [], pub := [], muts := [29, 61, 17, 24], joins := [] } : Cfg) Try.f5 (Try.f5.body.getD .skip) [.agg [.slc x_0 x_0l x_0c, .int .i64 x_1, .int .i64 x_2, .int .i64 x_3, .int .i64 x_4], .sc (.slc l ll lc)] w := by kernel_rfl
  rw [e_] at h
  exact runs_fn h Try.func5 (by kernel_rfl) (fun args w => Try.call5 args w) (by kernel_rfl) (by kernel_rfl) rfl rfl

theorem open_shiftbellkeep_FarmNever (W : World) (R : Array Value → Prop) (h : ∀ x_0 : Option Addr, ∀ x_0l : Nat, ∀ x_0c : Nat, SlcArg Try.prog W 50 x_0 x_0l x_0c → ∀ x_1 : Int, InR .i64 x_1 → ∀ x_2 : Int, InR .i64 x_2 → ∀ x_3 : Int, InR .i64 x_3 → ∀ x_4 : Int, InR .i64 x_4 → ∀ l : Option Addr, ∀ ll : Nat, ∀ lc : Nat, SlcArg Try.prog W 70 l ll lc → R #[(.agg #[(.slice x_0 x_0l x_0c), (.int .i64 x_1), (.int .i64 x_2), (.int .i64 x_3), (.int .i64 x_4)]), (.slice l ll lc)]) (args : Array Value) (hg : GoodAll Try.prog W Try.f5.params.toList args.toList) : R args := by
  have e_ : (ArgsAll Try.prog W Try.f5.params.toList fun l => R l.toArray) = (∀ x_0 : Option Addr, ∀ x_0l : Nat, ∀ x_0c : Nat, SlcArg Try.prog W 50 x_0 x_0l x_0c → ∀ x_1 : Int, InR .i64 x_1 → ∀ x_2 : Int, InR .i64 x_2 → ∀ x_3 : Int, InR .i64 x_3 → ∀ x_4 : Int, InR .i64 x_4 → ∀ l : Option Addr, ∀ ll : Nat, ∀ lc : Nat, SlcArg Try.prog W 70 l ll lc → R #[(.agg #[(.slice x_0 x_0l x_0c), (.int .i64 x_1), (.int .i64 x_2), (.int .i64 x_3), (.int .i64 x_4)]), (.slice l ll lc)]) := by kernel_rfl
  exact args_open (by rw [e_]; exact h) args hg
-- wit 5 #[(.agg #[(.slice none 0 0), (.int .i64 0), (.int .i64 0), (.int .i64 0), (.int .i64 0)]), (.slice none 0 0)]

/-- shiftbell/shiftbellkeep.FarmFirst -/
def wp_shiftbellkeep_FarmFirst (x_0 : Option Addr) (x_0l : Nat) (x_0c : Nat) (x_1 : Int) (x_2 : Int) (x_3 : Int) (x_4 : Int) (l : Option Addr) (ll : Nat) (lc : Nat) (w : World) (Q : Value → World → Prop) : Prop :=
  ∀ b0 : Nat, w.heap.size ≤ b0 → ∀ w1, Ext w w1 →
  FnP Try.prog F_shiftbellkeep_farms #[] w1 fun v2 w2 =>
   Ext w1 w2 ∧
   ∃ t3 : Bool, v2 = (.bool t3) ∧
   ((t3 = false) →
    ∀ w4, Ext w w4 →
    Q (.bool false) w4) ∧
   ((t3 = true) →
    ∀ w4, ExtB [] [b0] w w4 →
    FnP Try.prog F_shiftbellkeep_played #[(.agg #[(.slice x_0 x_0l x_0c), (.int .i64 x_1), (.int .i64 x_2), (.int .i64 x_3), (.int .i64 x_4)]), (.slice l ll lc)] w4 fun v5 w5 =>
     Ext w4 w5 ∧
     ∃ t6 : Option Addr, v5 = (.pointer t6) ∧
     (((t6 = none) ∨ (80 < (ll : Int))) →
      ∀ w7, Ext w5 w7 →
      Q (.bool true) w7) ∧
     (((t6 ≠ none) ∧ ((ll : Int) ≤ 80)) →
      ∀ w7, ExtB [] [b0] w5 w7 →
      FnP Try.prog F_farm_Farm_Hosts #[(.pointer t6)] w7 fun v8 w8 =>
       Ext w7 w8 ∧
       ∃ t9 : Option Addr, ∃ tl10 : Nat, ∃ tc11 : Nat, v8 = (.slice t9 tl10 tc11) ∧
       ∀ w12, ExtB [] [b0] w8 w12 →
       FnP Try.prog F_farm_Farm_Plan #[(.pointer t6)] w12 fun v13 w13 =>
        Kept [b0] w12 w13 ∧
        ∃ t14 : Option Addr, ∃ tl15 : Nat, ∃ tc16 : Nat, ∃ t17 : Int, v13 = (.tuple #[(.slice t14 tl15 tc16), (.int .i64 t17)]) ∧
        ∀ w18, ExtB [] [b0] w13 w18 →
        FnP Try.prog F_farm_Farm_Jobs #[(.pointer t6)] w18 fun v19 w19 =>
         Ext w18 w19 ∧
         ∃ t20 : Option Addr, ∃ tl21 : Nat, ∃ tc22 : Nat, v19 = (.slice t20 tl21 tc22) ∧
         ∃ (I23 : Int → Option Addr → Nat → Nat → Int → World → Prop) (M23 : Int → Option Addr → Nat → Nat → Int → World → Nat), I23 1048576 t9 tl10 tc11 0 w19 ∧
         ∀ (last24 : Int) (hosts25 : Option Addr) (hostsl25 : Nat) (hostsc25 : Nat) (k26 : Int) (w27 : World), I23 last24 hosts25 hostsl25 hostsc25 k26 w27 →
          (((k26 < (tl15 : Int)) →
           t14 ≠ none ∧
           (0 : Int) ≤ k26 ∧
           (k26 : Int) < (tl15 : Int) ∧
           (pIdx t14 k26 2) ≠ none ∧
           ∃ t28 : Int, cell w27 (pIdx t14 k26 2) 0 = some (.int .i64 t28) ∧
           ∃ t29 : Int, cell w27 (pIdx t14 k26 2) 1 = some (.int .i64 t29) ∧
           ∀ b30 : Nat, w27.heap.size ≤ b30 → (((((t28 < 1) ∨ ((tl21 : Int) < t28)) ∨ (t29 < 0)) ∨ ((hostsl25 : Int) ≤ t29)) →
            ∀ w31, Ext w27 w31 →
            Q (.bool false) w31) ∧
           (((((1 ≤ t28) ∧ (t28 ≤ (tl21 : Int))) ∧ (0 ≤ t29)) ∧ (t29 < (hostsl25 : Int))) →
            InR .i64 (t28 - 1) ∧
            t20 ≠ none ∧
            (0 : Int) ≤ (t28 - 1) ∧
            ((t28 - 1) : Int) < (tl21 : Int) ∧
            (pIdx t20 (t28 - 1) 16) ≠ none ∧
            ∃ t31 : ByteArray, cell w27 (pIdx t20 (t28 - 1) 16) 0 = some (.string t31) ∧
            ∃ t32 : Int, cell w27 (pIdx t20 (t28 - 1) 16) 1 = some (.int .i64 t32) ∧
            ∃ t33 : Int, cell w27 (pIdx t20 (t28 - 1) 16) 2 = some (.int .i64 t33) ∧
            ∃ t34 : Int, cell w27 (pIdx t20 (t28 - 1) 16) 3 = some (.int .i64 t34) ∧
            ∃ t35 : Int, cell w27 (pIdx t20 (t28 - 1) 16) 4 = some (.int .i64 t35) ∧
            ∃ t36 : Int, cell w27 (pIdx t20 (t28 - 1) 16) 5 = some (.int .i64 t36) ∧
            ∃ t37 : ByteArray, cell w27 (pIdx t20 (t28 - 1) 16) 6 = some (.string t37) ∧
            ∃ t38 : ByteArray, cell w27 (pIdx t20 (t28 - 1) 16) 7 = some (.string t38) ∧
            ∃ t39 : Int, cell w27 (pIdx t20 (t28 - 1) 16) 8 = some (.int .i64 t39) ∧
            ∃ t40 : Option Addr, ∃ tl41 : Nat, ∃ tc42 : Nat, cell w27 (pIdx t20 (t28 - 1) 16) 9 = some (.slice t40 tl41 tc42) ∧
            ∃ t43 : Option Addr, ∃ tl44 : Nat, ∃ tc45 : Nat, cell w27 (pIdx t20 (t28 - 1) 16) 10 = some (.slice t43 tl44 tc45) ∧
            ∃ t46 : Int, cell w27 (pIdx t20 (t28 - 1) 16) 11 = some (.int .i64 t46) ∧
            ∃ t47 : Int, cell w27 (pIdx t20 (t28 - 1) 16) 12 = some (.int .i64 t47) ∧
            ∃ t48 : Int, cell w27 (pIdx t20 (t28 - 1) 16) 13 = some (.int .i64 t48) ∧
            ∃ t49 : Int, cell w27 (pIdx t20 (t28 - 1) 16) 14 = some (.int .i64 t49) ∧
            ∃ t50 : Int, cell w27 (pIdx t20 (t28 - 1) 16) 15 = some (.int .i64 t50) ∧
            ∀ b51 : Nat, w27.heap.size ≤ b51 → ∀ w52, Ext w27 w52 →
            FnP Try.prog F_host_Best #[(.slice hosts25 hostsl25 hostsc25), (.agg #[(.int .i64 t36), (.string t37), (.string t38), (.int .i64 t39), (.slice t40 tl41 tc42)]), (.agg #[(.int .i64 t33), (.int .i64 t34), (.int .i64 t35)])] w52 fun v53 w53 =>
             Ext w52 w53 ∧
             ∃ t54 : Int, ∃ t55 : Int, v53 = (.tuple #[(.int .i64 t54), (.int .i64 t55)]) ∧
             ((((t55 ≠ 0) ∨ (t54 ≠ t29)) ∨ (last24 < t32)) →
              ∀ w56, Ext w27 w56 →
              Q (.bool false) w56) ∧
             ((((t55 = 0) ∧ (t54 = t29)) ∧ (t32 ≤ last24)) →
              ∀ w56, ExtB [] [b0, b30, b51] w27 w56 →
              FnP Try.prog F_host_Take #[(.slice hosts25 hostsl25 hostsc25), (.int .i64 t54), (.agg #[(.int .i64 t33), (.int .i64 t34), (.int .i64 t35)])] w56 fun v57 w57 =>
               Ext w56 w57 ∧
               ∃ t58 : Option Addr, ∃ tl59 : Nat, ∃ tc60 : Nat, ∃ t61 : Int, v57 = (.tuple #[(.slice t58 tl59 tc60), (.int .i64 t61)]) ∧
               ((t61 ≠ 0) →
                ∀ w62, Ext w57 w62 →
                Q (.bool false) w62) ∧
               ((t61 = 0) →
                InR .i64 (k26 + 1) ∧
                (I23 t32 t58 tl59 tc60 (k26 + 1) w57 ∧ M23 t32 t58 tl59 tc60 (k26 + 1) w57 < M23 last24 hosts25 hostsl25 hostsc25 k26 w27)))))) ∧
          (((tl15 : Int) ≤ k26) →
           ∀ w28, ExtB [] [b0] w27 w28 →
           FnP Try.prog F_farm_Farm_Hosts #[(.pointer t6)] w28 fun v29 w29 =>
            Ext w28 w29 ∧
            ∃ t30 : Option Addr, ∃ tl31 : Nat, ∃ tc32 : Nat, v29 = (.slice t30 tl31 tc32) ∧
            ∀ w33, Ext w29 w33 →
            FnP Try.prog F_shiftbellkeep_sameHosts #[(.slice hosts25 hostsl25 hostsc25), (.slice t30 tl31 tc32)] w33 fun v34 w34 =>
             Ext w33 w34 ∧
             ∃ t35 : Bool, v34 = (.bool t35) ∧
             ∀ w36, Ext w29 w36 →
             Q (.bool t35) w36)))

theorem ok_shiftbellkeep_FarmFirst (x_0 : Option Addr) (x_0l : Nat) (x_0c : Nat) (x_1 : Int) (x_2 : Int) (x_3 : Int) (x_4 : Int) (l : Option Addr) (ll : Nat) (lc : Nat) (w : World) (Q : Value → World → Prop) (h : wp_shiftbellkeep_FarmFirst x_0 x_0l x_0c x_1 x_2 x_3 x_4 l ll lc w Q) : FnP Try.prog F_shiftbellkeep_FarmFirst #[(.agg #[(.slice x_0 x_0l x_0c), (.int .i64 x_1), (.int .i64 x_2), (.int .i64 x_3), (.int .i64 x_4)]), (.slice l ll lc)] w Q := by
  have e_ : wp_shiftbellkeep_FarmFirst x_0 x_0l x_0c x_1 x_2 x_3 x_4 l ll lc w Q = Runs Try.prog Q ({ N := 116, wrap := [], pub := [], muts := [29, 61, 17, 24], joins := [] } : Cfg) Try.f7 (Try.f7.body.getD .skip) [.agg [.slc x_0 x_0l x_0c, .int .i64 x_1, .int .i64 x_2, .int .i64 x_3, .int .i64 x_4], .sc (.slc l ll lc)] w := by kernel_rfl
  rw [e_] at h
  exact runs_fn h Try.func7 (by kernel_rfl) (fun args w => Try.call7 args w) (by kernel_rfl) (by kernel_rfl) rfl rfl

theorem open_shiftbellkeep_FarmFirst (W : World) (R : Array Value → Prop) (h : ∀ x_0 : Option Addr, ∀ x_0l : Nat, ∀ x_0c : Nat, SlcArg Try.prog W 50 x_0 x_0l x_0c → ∀ x_1 : Int, InR .i64 x_1 → ∀ x_2 : Int, InR .i64 x_2 → ∀ x_3 : Int, InR .i64 x_3 → ∀ x_4 : Int, InR .i64 x_4 → ∀ l : Option Addr, ∀ ll : Nat, ∀ lc : Nat, SlcArg Try.prog W 70 l ll lc → R #[(.agg #[(.slice x_0 x_0l x_0c), (.int .i64 x_1), (.int .i64 x_2), (.int .i64 x_3), (.int .i64 x_4)]), (.slice l ll lc)]) (args : Array Value) (hg : GoodAll Try.prog W Try.f7.params.toList args.toList) : R args := by
  have e_ : (ArgsAll Try.prog W Try.f7.params.toList fun l => R l.toArray) = (∀ x_0 : Option Addr, ∀ x_0l : Nat, ∀ x_0c : Nat, SlcArg Try.prog W 50 x_0 x_0l x_0c → ∀ x_1 : Int, InR .i64 x_1 → ∀ x_2 : Int, InR .i64 x_2 → ∀ x_3 : Int, InR .i64 x_3 → ∀ x_4 : Int, InR .i64 x_4 → ∀ l : Option Addr, ∀ ll : Nat, ∀ lc : Nat, SlcArg Try.prog W 70 l ll lc → R #[(.agg #[(.slice x_0 x_0l x_0c), (.int .i64 x_1), (.int .i64 x_2), (.int .i64 x_3), (.int .i64 x_4)]), (.slice l ll lc)]) := by kernel_rfl
  exact args_open (by rw [e_]; exact h) args hg
-- wit 7 #[(.agg #[(.slice none 0 0), (.int .i64 0), (.int .i64 0), (.int .i64 0), (.int .i64 0)]), (.slice none 0 0)]

/-- shiftbell/shiftbellkeep.FarmStays -/
def wp_shiftbellkeep_FarmStays (x_0 : Option Addr) (x_0l : Nat) (x_0c : Nat) (x_1 : Int) (x_2 : Int) (x_3 : Int) (x_4 : Int) (l : Option Addr) (ll : Nat) (lc : Nat) (m : Option Addr) (ml : Nat) (mc : Nat) (w : World) (Q : Value → World → Prop) : Prop :=
  ∀ b0 : Nat, w.heap.size ≤ b0 → ∀ w1, Ext w w1 →
  FnP Try.prog F_shiftbellkeep_farms #[] w1 fun v2 w2 =>
   Ext w1 w2 ∧
   ∃ t3 : Bool, v2 = (.bool t3) ∧
   ((t3 = false) →
    ∀ w4, Ext w w4 →
    Q (.bool false) w4) ∧
   ((t3 = true) →
    ∀ w4, ExtB [] [b0] w w4 →
    FnP Try.prog F_shiftbellkeep_played #[(.agg #[(.slice x_0 x_0l x_0c), (.int .i64 x_1), (.int .i64 x_2), (.int .i64 x_3), (.int .i64 x_4)]), (.slice l ll lc)] w4 fun v5 w5 =>
     Ext w4 w5 ∧
     ∃ t6 : Option Addr, v5 = (.pointer t6) ∧
     ((t6 ≠ none) →
      InR .i64 ((ll : Int) + (ml : Int))) ∧
     (((t6 = none) ∨ (80 < ((ll : Int) + (ml : Int)))) →
      ∀ w7, Ext w5 w7 →
      Q (.bool true) w7) ∧
     (((t6 ≠ none) ∧ (((ll : Int) + (ml : Int)) ≤ 80)) →
      ∀ w7, ExtB [] [b0] w5 w7 →
      FnP Try.prog F_farm_Farm_Jobs #[(.pointer t6)] w7 fun v8 w8 =>
       Ext w7 w8 ∧
       ∃ t9 : Option Addr, ∃ tl10 : Nat, ∃ tc11 : Nat, v8 = (.slice t9 tl10 tc11) ∧
       ∀ w12, Ext w8 w12 →
       FnP Try.prog F_farm_Farm_Now #[(.pointer t6)] w12 fun v13 w13 =>
        Ext w12 w13 ∧
        ∃ t14 : Int, v13 = (.int .i64 t14) ∧
        ∃ (I15 : Int → World → Prop) (M15 : Int → World → Nat), I15 0 w8 ∧
        ∀ (k16 : Int) (w17 : World), I15 k16 w17 →
         (((k16 < (ml : Int)) →
          m ≠ none ∧
          (0 : Int) ≤ k16 ∧
          (k16 : Int) < (ml : Int) ∧
          (pIdx m k16 15) ≠ none ∧
          ∃ t18 : Int, cell w17 (pIdx m k16 15) 0 = some (.int .i64 t18) ∧
          ∃ t19 : ByteArray, cell w17 (pIdx m k16 15) 1 = some (.string t19) ∧
          ∃ t20 : Int, cell w17 (pIdx m k16 15) 2 = some (.int .i64 t20) ∧
          ∃ t21 : Int, cell w17 (pIdx m k16 15) 3 = some (.int .i64 t21) ∧
          ∃ t22 : Int, cell w17 (pIdx m k16 15) 4 = some (.int .i64 t22) ∧
          ∃ t23 : Int, cell w17 (pIdx m k16 15) 5 = some (.int .i64 t23) ∧
          ∃ t24 : Int, cell w17 (pIdx m k16 15) 6 = some (.int .i64 t24) ∧
          ∃ t25 : ByteArray, cell w17 (pIdx m k16 15) 7 = some (.string t25) ∧
          ∃ t26 : ByteArray, cell w17 (pIdx m k16 15) 8 = some (.string t26) ∧
          ∃ t27 : Int, cell w17 (pIdx m k16 15) 9 = some (.int .i64 t27) ∧
          ∃ t28 : Option Addr, ∃ tl29 : Nat, ∃ tc30 : Nat, cell w17 (pIdx m k16 15) 10 = some (.slice t28 tl29 tc30) ∧
          ∃ t31 : Option Addr, ∃ tl32 : Nat, ∃ tc33 : Nat, cell w17 (pIdx m k16 15) 11 = some (.slice t31 tl32 tc33) ∧
          ∃ t34 : Int, cell w17 (pIdx m k16 15) 12 = some (.int .i64 t34) ∧
          ∃ t35 : Int, cell w17 (pIdx m k16 15) 13 = some (.int .i64 t35) ∧
          ∃ t36 : Bool, cell w17 (pIdx m k16 15) 14 = some (.bool t36) ∧
          ∀ b37 : Nat, w17.heap.size ≤ b37 → ∀ w38, ExtB [] [b0, b37] w17 w38 →
          FnP Try.prog F_farm_Farm_Do #[(.pointer t6), (.agg #[(.int .i64 t18), (.string t19), (.int .i64 t20), (.int .i64 t21), (.int .i64 t22), (.int .i64 t23), (.int .i64 t24), (.string t25), (.string t26), (.int .i64 t27), (.slice t28 tl29 tc30), (.slice t31 tl32 tc33), (.int .i64 t34), (.int .i64 t35), (.bool t36)])] w38 fun v39 w39 =>
           Kept [b0, b37] w38 w39 ∧
           ∃ t40 : Int, v39 = (.int .i64 t40) ∧
           InR .i64 (k16 + 1) ∧
           (I15 (k16 + 1) w39 ∧ M15 (k16 + 1) w39 < M15 k16 w17))) ∧
         (((ml : Int) ≤ k16) →
          ∀ w18, ExtB [] [b0] w17 w18 →
          FnP Try.prog F_farm_Farm_Jobs #[(.pointer t6)] w18 fun v19 w19 =>
           Ext w18 w19 ∧
           ∃ t20 : Option Addr, ∃ tl21 : Nat, ∃ tc22 : Nat, v19 = (.slice t20 tl21 tc22) ∧
           (((tl21 : Int) < (tl10 : Int)) →
            ∀ w23, Ext w19 w23 →
            Q (.bool false) w23) ∧
           (((tl10 : Int) ≤ (tl21 : Int)) →
            ∀ w23, Ext w19 w23 →
            FnP Try.prog F_farm_Farm_Now #[(.pointer t6)] w23 fun v24 w24 =>
             Ext w23 w24 ∧
             ∃ t25 : Int, v24 = (.int .i64 t25) ∧
             ((t25 < t14) →
              ∀ w26, Ext w19 w26 →
              Q (.bool false) w26) ∧
             ((t14 ≤ t25) →
              ∃ (I26 : Int → World → Prop) (M26 : Int → World → Nat), I26 0 w19 ∧
              ∀ (k27 : Int) (w28 : World), I26 k27 w28 →
               (((k27 < (tl10 : Int)) →
                t9 ≠ none ∧
                (0 : Int) ≤ k27 ∧
                (k27 : Int) < (tl10 : Int) ∧
                (pIdx t9 k27 16) ≠ none ∧
                ∃ t29 : ByteArray, cell w28 (pIdx t9 k27 16) 0 = some (.string t29) ∧
                ∃ t30 : Int, cell w28 (pIdx t9 k27 16) 1 = some (.int .i64 t30) ∧
                ∃ t31 : Int, cell w28 (pIdx t9 k27 16) 2 = some (.int .i64 t31) ∧
                ∃ t32 : Int, cell w28 (pIdx t9 k27 16) 3 = some (.int .i64 t32) ∧
                ∃ t33 : Int, cell w28 (pIdx t9 k27 16) 4 = some (.int .i64 t33) ∧
                ∃ t34 : Int, cell w28 (pIdx t9 k27 16) 5 = some (.int .i64 t34) ∧
                ∃ t35 : ByteArray, cell w28 (pIdx t9 k27 16) 6 = some (.string t35) ∧
                ∃ t36 : ByteArray, cell w28 (pIdx t9 k27 16) 7 = some (.string t36) ∧
                ∃ t37 : Int, cell w28 (pIdx t9 k27 16) 8 = some (.int .i64 t37) ∧
                ∃ t38 : Option Addr, ∃ tl39 : Nat, ∃ tc40 : Nat, cell w28 (pIdx t9 k27 16) 9 = some (.slice t38 tl39 tc40) ∧
                ∃ t41 : Option Addr, ∃ tl42 : Nat, ∃ tc43 : Nat, cell w28 (pIdx t9 k27 16) 10 = some (.slice t41 tl42 tc43) ∧
                ∃ t44 : Int, cell w28 (pIdx t9 k27 16) 11 = some (.int .i64 t44) ∧
                ∃ t45 : Int, cell w28 (pIdx t9 k27 16) 12 = some (.int .i64 t45) ∧
                ∃ t46 : Int, cell w28 (pIdx t9 k27 16) 13 = some (.int .i64 t46) ∧
                ∃ t47 : Int, cell w28 (pIdx t9 k27 16) 14 = some (.int .i64 t47) ∧
                ∃ t48 : Int, cell w28 (pIdx t9 k27 16) 15 = some (.int .i64 t48) ∧
                ∀ b49 : Nat, w28.heap.size ≤ b49 → ((3 ≤ t44) →
                 InR .i64 (k27 + 1)) ∧
                ((3 ≤ t44) →
                 (0 : Int) ≤ k27) ∧
                ((3 ≤ t44) →
                 (k27 : Int) ≤ (k27 + 1)) ∧
                ((3 ≤ t44) →
                 ((k27 + 1) : Int) ≤ (tc22 : Int)) ∧
                ((3 ≤ t44) →
                 InR .i64 (k27 + 1)) ∧
                ((3 ≤ t44) →
                 (0 : Int) ≤ k27) ∧
                ((3 ≤ t44) →
                 (k27 : Int) ≤ (k27 + 1)) ∧
                ((3 ≤ t44) →
                 ((k27 + 1) : Int) ≤ (tc11 : Int)) ∧
                (((3 ≤ t44) →
                 ∀ w50, Ext w28 w50 →
                 FnP Try.prog F_shiftbellkeep_sameStates #[(.slice (pCut t20 tc22 k27 16) ((k27 + 1) - k27).toNat (tc22 - k27.toNat)), (.slice (pCut t9 tc11 k27 16) ((k27 + 1) - k27).toNat (tc11 - k27.toNat))] w50 fun v51 w51 =>
                  Ext w50 w51 ∧
                  ∃ t52 : Bool, v51 = (.bool t52) ∧
                  ((t52 = true) →
                   t20 ≠ none) ∧
                  ((t52 = true) →
                   (0 : Int) ≤ k27) ∧
                  ((t52 = true) →
                   (k27 : Int) < (tl21 : Int)) ∧
                  ((t52 = true) →
                   (pIdx t20 k27 16) ≠ none) ∧
                  ((t52 = false) →
                   ∀ w53, Ext w28 w53 →
                   Q (.bool false) w53) ∧
                  ((t52 = true) →
                   (pAdd (pIdx t20 k27 16) 0) ≠ none ∧
                   ∃ t53 : ByteArray, cell w28 (pAdd (pIdx t20 k27 16) 0) 0 = some (.string t53) ∧
                   ∃ t54 : Int, cell w28 (pAdd (pIdx t20 k27 16) 0) 1 = some (.int .i64 t54) ∧
                   ∃ t55 : Int, cell w28 (pAdd (pIdx t20 k27 16) 0) 2 = some (.int .i64 t55) ∧
                   ∃ t56 : Int, cell w28 (pAdd (pIdx t20 k27 16) 0) 3 = some (.int .i64 t56) ∧
                   ∃ t57 : Int, cell w28 (pAdd (pIdx t20 k27 16) 0) 4 = some (.int .i64 t57) ∧
                   ∃ t58 : Int, cell w28 (pAdd (pIdx t20 k27 16) 0) 5 = some (.int .i64 t58) ∧
                   ∃ t59 : ByteArray, cell w28 (pAdd (pIdx t20 k27 16) 0) 6 = some (.string t59) ∧
                   ∃ t60 : ByteArray, cell w28 (pAdd (pIdx t20 k27 16) 0) 7 = some (.string t60) ∧
                   ∃ t61 : Int, cell w28 (pAdd (pIdx t20 k27 16) 0) 8 = some (.int .i64 t61) ∧
                   ∃ t62 : Option Addr, ∃ tl63 : Nat, ∃ tc64 : Nat, cell w28 (pAdd (pIdx t20 k27 16) 0) 9 = some (.slice t62 tl63 tc64) ∧
                   ∃ t65 : Option Addr, ∃ tl66 : Nat, ∃ tc67 : Nat, cell w28 (pAdd (pIdx t20 k27 16) 0) 10 = some (.slice t65 tl66 tc67) ∧
                   ∀ w68, Ext w28 w68 →
                   FnP Try.prog F_shiftbellkeep_sameJob #[(.agg #[(.string t29), (.int .i64 t30), (.int .i64 t31), (.int .i64 t32), (.int .i64 t33), (.int .i64 t34), (.string t35), (.string t36), (.int .i64 t37), (.slice t38 tl39 tc40), (.slice t41 tl42 tc43)]), (.agg #[(.string t53), (.int .i64 t54), (.int .i64 t55), (.int .i64 t56), (.int .i64 t57), (.int .i64 t58), (.string t59), (.string t60), (.int .i64 t61), (.slice t62 tl63 tc64), (.slice t65 tl66 tc67)])] w68 fun v69 w69 =>
                    Ext w68 w69 ∧
                    ∃ t70 : Bool, v69 = (.bool t70) ∧
                    ((t70 = true) →
                     t20 ≠ none) ∧
                    ((t70 = true) →
                     (0 : Int) ≤ k27) ∧
                    ((t70 = true) →
                     (k27 : Int) < (tl21 : Int)) ∧
                    ((t70 = true) →
                     (pIdx t20 k27 16) ≠ none) ∧
                    ((t70 = false) →
                     ∀ w71, Ext w28 w71 →
                     Q (.bool false) w71) ∧
                    ((t70 = true) →
                     ∃ t71 : Int, cell w28 (pAdd (pIdx t20 k27 16) 15) 0 = some (.int .i64 t71) ∧
                     ((t71 < t48) →
                      ∀ w72, Ext w28 w72 →
                      Q (.bool false) w72) ∧
                     ((t48 ≤ t71) →
                      InR .i64 (k27 + 1) ∧
                      (I26 (k27 + 1) w28 ∧ M26 (k27 + 1) w28 < M26 k27 w28)))))) ∧
                ((t44 < 3) →
                 t20 ≠ none ∧
                 (0 : Int) ≤ k27 ∧
                 (k27 : Int) < (tl21 : Int) ∧
                 (pIdx t20 k27 16) ≠ none ∧
                 (pAdd (pIdx t20 k27 16) 0) ≠ none ∧
                 ∃ t50 : ByteArray, cell w28 (pAdd (pIdx t20 k27 16) 0) 0 = some (.string t50) ∧
                 ∃ t51 : Int, cell w28 (pAdd (pIdx t20 k27 16) 0) 1 = some (.int .i64 t51) ∧
                 ∃ t52 : Int, cell w28 (pAdd (pIdx t20 k27 16) 0) 2 = some (.int .i64 t52) ∧
                 ∃ t53 : Int, cell w28 (pAdd (pIdx t20 k27 16) 0) 3 = some (.int .i64 t53) ∧
                 ∃ t54 : Int, cell w28 (pAdd (pIdx t20 k27 16) 0) 4 = some (.int .i64 t54) ∧
                 ∃ t55 : Int, cell w28 (pAdd (pIdx t20 k27 16) 0) 5 = some (.int .i64 t55) ∧
                 ∃ t56 : ByteArray, cell w28 (pAdd (pIdx t20 k27 16) 0) 6 = some (.string t56) ∧
                 ∃ t57 : ByteArray, cell w28 (pAdd (pIdx t20 k27 16) 0) 7 = some (.string t57) ∧
                 ∃ t58 : Int, cell w28 (pAdd (pIdx t20 k27 16) 0) 8 = some (.int .i64 t58) ∧
                 ∃ t59 : Option Addr, ∃ tl60 : Nat, ∃ tc61 : Nat, cell w28 (pAdd (pIdx t20 k27 16) 0) 9 = some (.slice t59 tl60 tc61) ∧
                 ∃ t62 : Option Addr, ∃ tl63 : Nat, ∃ tc64 : Nat, cell w28 (pAdd (pIdx t20 k27 16) 0) 10 = some (.slice t62 tl63 tc64) ∧
                 ∀ w65, Ext w28 w65 →
                 FnP Try.prog F_shiftbellkeep_sameJob #[(.agg #[(.string t29), (.int .i64 t30), (.int .i64 t31), (.int .i64 t32), (.int .i64 t33), (.int .i64 t34), (.string t35), (.string t36), (.int .i64 t37), (.slice t38 tl39 tc40), (.slice t41 tl42 tc43)]), (.agg #[(.string t50), (.int .i64 t51), (.int .i64 t52), (.int .i64 t53), (.int .i64 t54), (.int .i64 t55), (.string t56), (.string t57), (.int .i64 t58), (.slice t59 tl60 tc61), (.slice t62 tl63 tc64)])] w65 fun v66 w66 =>
                  Ext w65 w66 ∧
                  ∃ t67 : Bool, v66 = (.bool t67) ∧
                  ((t67 = true) →
                   t20 ≠ none) ∧
                  ((t67 = true) →
                   (0 : Int) ≤ k27) ∧
                  ((t67 = true) →
                   (k27 : Int) < (tl21 : Int)) ∧
                  ((t67 = true) →
                   (pIdx t20 k27 16) ≠ none) ∧
                  ((t67 = false) →
                   ∀ w68, Ext w28 w68 →
                   Q (.bool false) w68) ∧
                  ((t67 = true) →
                   ∃ t68 : Int, cell w28 (pAdd (pIdx t20 k27 16) 15) 0 = some (.int .i64 t68) ∧
                   ((t68 < t48) →
                    ∀ w69, Ext w28 w69 →
                    Q (.bool false) w69) ∧
                   ((t48 ≤ t68) →
                    InR .i64 (k27 + 1) ∧
                    (I26 (k27 + 1) w28 ∧ M26 (k27 + 1) w28 < M26 k27 w28)))))) ∧
               (((tl10 : Int) ≤ k27) →
                ∀ w29, Ext w28 w29 →
                Q (.bool true) w29))))))

theorem ok_shiftbellkeep_FarmStays (x_0 : Option Addr) (x_0l : Nat) (x_0c : Nat) (x_1 : Int) (x_2 : Int) (x_3 : Int) (x_4 : Int) (l : Option Addr) (ll : Nat) (lc : Nat) (m : Option Addr) (ml : Nat) (mc : Nat) (w : World) (Q : Value → World → Prop) (h : wp_shiftbellkeep_FarmStays x_0 x_0l x_0c x_1 x_2 x_3 x_4 l ll lc m ml mc w Q) : FnP Try.prog F_shiftbellkeep_FarmStays #[(.agg #[(.slice x_0 x_0l x_0c), (.int .i64 x_1), (.int .i64 x_2), (.int .i64 x_3), (.int .i64 x_4)]), (.slice l ll lc), (.slice m ml mc)] w Q := by
  have e_ : wp_shiftbellkeep_FarmStays x_0 x_0l x_0c x_1 x_2 x_3 x_4 l ll lc m ml mc w Q = Runs Try.prog Q ({ N := 103, wrap := [], pub := [], muts := [29, 61, 17, 24], joins := [] } : Cfg) Try.f8 (Try.f8.body.getD .skip) [.agg [.slc x_0 x_0l x_0c, .int .i64 x_1, .int .i64 x_2, .int .i64 x_3, .int .i64 x_4], .sc (.slc l ll lc), .sc (.slc m ml mc)] w := by kernel_rfl
  rw [e_] at h
  exact runs_fn h Try.func8 (by kernel_rfl) (fun args w => Try.call8 args w) (by kernel_rfl) (by kernel_rfl) rfl rfl

theorem open_shiftbellkeep_FarmStays (W : World) (R : Array Value → Prop) (h : ∀ x_0 : Option Addr, ∀ x_0l : Nat, ∀ x_0c : Nat, SlcArg Try.prog W 50 x_0 x_0l x_0c → ∀ x_1 : Int, InR .i64 x_1 → ∀ x_2 : Int, InR .i64 x_2 → ∀ x_3 : Int, InR .i64 x_3 → ∀ x_4 : Int, InR .i64 x_4 → ∀ l : Option Addr, ∀ ll : Nat, ∀ lc : Nat, SlcArg Try.prog W 70 l ll lc → ∀ m : Option Addr, ∀ ml : Nat, ∀ mc : Nat, SlcArg Try.prog W 70 m ml mc → R #[(.agg #[(.slice x_0 x_0l x_0c), (.int .i64 x_1), (.int .i64 x_2), (.int .i64 x_3), (.int .i64 x_4)]), (.slice l ll lc), (.slice m ml mc)]) (args : Array Value) (hg : GoodAll Try.prog W Try.f8.params.toList args.toList) : R args := by
  have e_ : (ArgsAll Try.prog W Try.f8.params.toList fun l => R l.toArray) = (∀ x_0 : Option Addr, ∀ x_0l : Nat, ∀ x_0c : Nat, SlcArg Try.prog W 50 x_0 x_0l x_0c → ∀ x_1 : Int, InR .i64 x_1 → ∀ x_2 : Int, InR .i64 x_2 → ∀ x_3 : Int, InR .i64 x_3 → ∀ x_4 : Int, InR .i64 x_4 → ∀ l : Option Addr, ∀ ll : Nat, ∀ lc : Nat, SlcArg Try.prog W 70 l ll lc → ∀ m : Option Addr, ∀ ml : Nat, ∀ mc : Nat, SlcArg Try.prog W 70 m ml mc → R #[(.agg #[(.slice x_0 x_0l x_0c), (.int .i64 x_1), (.int .i64 x_2), (.int .i64 x_3), (.int .i64 x_4)]), (.slice l ll lc), (.slice m ml mc)]) := by kernel_rfl
  exact args_open (by rw [e_]; exact h) args hg
-- wit 8 #[(.agg #[(.slice none 0 0), (.int .i64 0), (.int .i64 0), (.int .i64 0), (.int .i64 0)]), (.slice none 0 0), (.slice none 0 0)]

/-- shiftbell/shiftbellkeep.FarmOne -/
def wp_shiftbellkeep_FarmOne (x_0 : Option Addr) (x_0l : Nat) (x_0c : Nat) (x_1 : Int) (x_2 : Int) (x_3 : Int) (x_4 : Int) (l : Option Addr) (ll : Nat) (lc : Nat) (y_0 : Int) (y_1 : ByteArray) (y_2 : Int) (y_3 : Int) (y_4 : Int) (y_5 : Int) (y_6 : Int) (y_7 : ByteArray) (y_8 : ByteArray) (y_9 : Int) (y_10 : Option Addr) (y_10l : Nat) (y_10c : Nat) (y_11 : Option Addr) (y_11l : Nat) (y_11c : Nat) (y_12 : Int) (y_13 : Int) (y_14 : Bool) (w : World) (Q : Value → World → Prop) : Prop :=
  ∀ b0 : Nat, w.heap.size ≤ b0 → ∀ b1 : Nat, w.heap.size ≤ b1 → ∀ w2, Ext w w2 →
  FnP Try.prog F_shiftbellkeep_farms #[] w2 fun v3 w3 =>
   Ext w2 w3 ∧
   ∃ t4 : Bool, v3 = (.bool t4) ∧
   ((t4 = false) →
    ∀ w5, Ext w w5 →
    Q (.bool false) w5) ∧
   ((t4 = true) →
    ∀ w5, ExtB [] [b0, b1] w w5 →
    FnP Try.prog F_shiftbellkeep_played #[(.agg #[(.slice x_0 x_0l x_0c), (.int .i64 x_1), (.int .i64 x_2), (.int .i64 x_3), (.int .i64 x_4)]), (.slice l ll lc)] w5 fun v6 w6 =>
     Ext w5 w6 ∧
     ∃ t7 : Option Addr, v6 = (.pointer t7) ∧
     ∀ w8, ExtB [] [b0, b1] w6 w8 →
     FnP Try.prog F_shiftbellkeep_played #[(.agg #[(.slice x_0 x_0l x_0c), (.int .i64 x_1), (.int .i64 x_2), (.int .i64 x_3), (.int .i64 x_4)]), (.slice l ll lc)] w8 fun v9 w9 =>
      Ext w8 w9 ∧
      ∃ t10 : Option Addr, v9 = (.pointer t10) ∧
      ((((t7 = none) ∨ (t10 = none)) ∨ (80 < (ll : Int))) →
       ∀ w11, Ext w9 w11 →
       Q (.bool true) w11) ∧
      ((((t7 ≠ none) ∧ (t10 ≠ none)) ∧ ((ll : Int) ≤ 80)) →
       ∀ w11, ExtB [] [b0, b1] w9 w11 →
       FnP Try.prog F_farm_Farm_Do #[(.pointer t7), (.agg #[(.int .i64 y_0), (.string y_1), (.int .i64 y_2), (.int .i64 y_3), (.int .i64 y_4), (.int .i64 y_5), (.int .i64 y_6), (.string y_7), (.string y_8), (.int .i64 y_9), (.slice y_10 y_10l y_10c), (.slice y_11 y_11l y_11c), (.int .i64 y_12), (.int .i64 y_13), (.bool y_14)])] w11 fun v12 w12 =>
        Kept [b0, b1] w11 w12 ∧
        ∃ t13 : Int, v12 = (.int .i64 t13) ∧
        ((t13 = 0) →
         ∀ w14, Ext w12 w14 →
         Q (.bool true) w14) ∧
        ((t13 ≠ 0) →
         ∀ w14, Ext w12 w14 →
         FnP Try.prog F_shiftbellkeep_sameFarm #[(.pointer t7), (.pointer t10)] w14 fun v15 w15 =>
          Ext w14 w15 ∧
          ∃ t16 : Bool, v15 = (.bool t16) ∧
          ∀ w17, Ext w12 w17 →
          Q (.bool t16) w17)))

theorem ok_shiftbellkeep_FarmOne (x_0 : Option Addr) (x_0l : Nat) (x_0c : Nat) (x_1 : Int) (x_2 : Int) (x_3 : Int) (x_4 : Int) (l : Option Addr) (ll : Nat) (lc : Nat) (y_0 : Int) (y_1 : ByteArray) (y_2 : Int) (y_3 : Int) (y_4 : Int) (y_5 : Int) (y_6 : Int) (y_7 : ByteArray) (y_8 : ByteArray) (y_9 : Int) (y_10 : Option Addr) (y_10l : Nat) (y_10c : Nat) (y_11 : Option Addr) (y_11l : Nat) (y_11c : Nat) (y_12 : Int) (y_13 : Int) (y_14 : Bool) (w : World) (Q : Value → World → Prop) (h : wp_shiftbellkeep_FarmOne x_0 x_0l x_0c x_1 x_2 x_3 x_4 l ll lc y_0 y_1 y_2 y_3 y_4 y_5 y_6 y_7 y_8 y_9 y_10 y_10l y_10c y_11 y_11l y_11c y_12 y_13 y_14 w Q) : FnP Try.prog F_shiftbellkeep_FarmOne #[(.agg #[(.slice x_0 x_0l x_0c), (.int .i64 x_1), (.int .i64 x_2), (.int .i64 x_3), (.int .i64 x_4)]), (.slice l ll lc), (.agg #[(.int .i64 y_0), (.string y_1), (.int .i64 y_2), (.int .i64 y_3), (.int .i64 y_4), (.int .i64 y_5), (.int .i64 y_6), (.string y_7), (.string y_8), (.int .i64 y_9), (.slice y_10 y_10l y_10c), (.slice y_11 y_11l y_11c), (.int .i64 y_12), (.int .i64 y_13), (.bool y_14)])] w Q := by
  have e_ : wp_shiftbellkeep_FarmOne x_0 x_0l x_0c x_1 x_2 x_3 x_4 l ll lc y_0 y_1 y_2 y_3 y_4 y_5 y_6 y_7 y_8 y_9 y_10 y_10l y_10c y_11 y_11l y_11c y_12 y_13 y_14 w Q = Runs Try.prog Q ({ N := 37, wrap := [], pub := [], muts := [29, 61, 17, 24], joins := [] } : Cfg) Try.f9 (Try.f9.body.getD .skip) [.agg [.slc x_0 x_0l x_0c, .int .i64 x_1, .int .i64 x_2, .int .i64 x_3, .int .i64 x_4], .sc (.slc l ll lc), .agg [.int .i64 y_0, .str y_1, .int .i64 y_2, .int .i64 y_3, .int .i64 y_4, .int .i64 y_5, .int .i64 y_6, .str y_7, .str y_8, .int .i64 y_9, .slc y_10 y_10l y_10c, .slc y_11 y_11l y_11c, .int .i64 y_12, .int .i64 y_13, .bool (.atom true y_14)]] w := by kernel_rfl
  rw [e_] at h
  exact runs_fn h Try.func9 (by kernel_rfl) (fun args w => Try.call9 args w) (by kernel_rfl) (by kernel_rfl) rfl rfl

theorem open_shiftbellkeep_FarmOne (W : World) (R : Array Value → Prop) (h : ∀ x_0 : Option Addr, ∀ x_0l : Nat, ∀ x_0c : Nat, SlcArg Try.prog W 50 x_0 x_0l x_0c → ∀ x_1 : Int, InR .i64 x_1 → ∀ x_2 : Int, InR .i64 x_2 → ∀ x_3 : Int, InR .i64 x_3 → ∀ x_4 : Int, InR .i64 x_4 → ∀ l : Option Addr, ∀ ll : Nat, ∀ lc : Nat, SlcArg Try.prog W 70 l ll lc → ∀ y_0 : Int, InR .i64 y_0 → ∀ y_1 : ByteArray, y_1.size ≤ 9223372036854775807 → ∀ y_2 : Int, InR .i64 y_2 → ∀ y_3 : Int, InR .i64 y_3 → ∀ y_4 : Int, InR .i64 y_4 → ∀ y_5 : Int, InR .i64 y_5 → ∀ y_6 : Int, InR .i64 y_6 → ∀ y_7 : ByteArray, y_7.size ≤ 9223372036854775807 → ∀ y_8 : ByteArray, y_8.size ≤ 9223372036854775807 → ∀ y_9 : Int, InR .i64 y_9 → ∀ y_10 : Option Addr, ∀ y_10l : Nat, ∀ y_10c : Nat, SlcArg Try.prog W 37 y_10 y_10l y_10c → ∀ y_11 : Option Addr, ∀ y_11l : Nat, ∀ y_11c : Nat, SlcArg Try.prog W 3 y_11 y_11l y_11c → ∀ y_12 : Int, InR .i64 y_12 → ∀ y_13 : Int, InR .i64 y_13 → ∀ y_14 : Bool, R #[(.agg #[(.slice x_0 x_0l x_0c), (.int .i64 x_1), (.int .i64 x_2), (.int .i64 x_3), (.int .i64 x_4)]), (.slice l ll lc), (.agg #[(.int .i64 y_0), (.string y_1), (.int .i64 y_2), (.int .i64 y_3), (.int .i64 y_4), (.int .i64 y_5), (.int .i64 y_6), (.string y_7), (.string y_8), (.int .i64 y_9), (.slice y_10 y_10l y_10c), (.slice y_11 y_11l y_11c), (.int .i64 y_12), (.int .i64 y_13), (.bool y_14)])]) (args : Array Value) (hg : GoodAll Try.prog W Try.f9.params.toList args.toList) : R args := by
  have e_ : (ArgsAll Try.prog W Try.f9.params.toList fun l => R l.toArray) = (∀ x_0 : Option Addr, ∀ x_0l : Nat, ∀ x_0c : Nat, SlcArg Try.prog W 50 x_0 x_0l x_0c → ∀ x_1 : Int, InR .i64 x_1 → ∀ x_2 : Int, InR .i64 x_2 → ∀ x_3 : Int, InR .i64 x_3 → ∀ x_4 : Int, InR .i64 x_4 → ∀ l : Option Addr, ∀ ll : Nat, ∀ lc : Nat, SlcArg Try.prog W 70 l ll lc → ∀ y_0 : Int, InR .i64 y_0 → ∀ y_1 : ByteArray, y_1.size ≤ 9223372036854775807 → ∀ y_2 : Int, InR .i64 y_2 → ∀ y_3 : Int, InR .i64 y_3 → ∀ y_4 : Int, InR .i64 y_4 → ∀ y_5 : Int, InR .i64 y_5 → ∀ y_6 : Int, InR .i64 y_6 → ∀ y_7 : ByteArray, y_7.size ≤ 9223372036854775807 → ∀ y_8 : ByteArray, y_8.size ≤ 9223372036854775807 → ∀ y_9 : Int, InR .i64 y_9 → ∀ y_10 : Option Addr, ∀ y_10l : Nat, ∀ y_10c : Nat, SlcArg Try.prog W 37 y_10 y_10l y_10c → ∀ y_11 : Option Addr, ∀ y_11l : Nat, ∀ y_11c : Nat, SlcArg Try.prog W 3 y_11 y_11l y_11c → ∀ y_12 : Int, InR .i64 y_12 → ∀ y_13 : Int, InR .i64 y_13 → ∀ y_14 : Bool, R #[(.agg #[(.slice x_0 x_0l x_0c), (.int .i64 x_1), (.int .i64 x_2), (.int .i64 x_3), (.int .i64 x_4)]), (.slice l ll lc), (.agg #[(.int .i64 y_0), (.string y_1), (.int .i64 y_2), (.int .i64 y_3), (.int .i64 y_4), (.int .i64 y_5), (.int .i64 y_6), (.string y_7), (.string y_8), (.int .i64 y_9), (.slice y_10 y_10l y_10c), (.slice y_11 y_11l y_11c), (.int .i64 y_12), (.int .i64 y_13), (.bool y_14)])]) := by kernel_rfl
  exact args_open (by rw [e_]; exact h) args hg
-- wit 9 #[(.agg #[(.slice none 0 0), (.int .i64 0), (.int .i64 0), (.int .i64 0), (.int .i64 0)]), (.slice none 0 0), (.agg #[(.int .i64 0), (.string (⟨#[]⟩ : ByteArray)), (.int .i64 0), (.int .i64 0), (.int .i64 0), (.int .i64 0), (.int .i64 0), (.string (⟨#[]⟩ : ByteArray)), (.string (⟨#[]⟩ : ByteArray)), (.int .i64 0), (.slice none 0 0), (.slice none 0 0), (.int .i64 0), (.int .i64 0), (.bool false)])]

end Go.Proofs.Ytblafknmfblgfaa
