/- The texts of this seat's functions: what each computes, as its symbolic run says it. -/
import Derived.Test.YtdhhggfplacenaaDoorRows
import Derived.Test.YtdhhggfplacenaaDoorSxD
import Derived.Test.YtdhhggfplacenaaDoorSxN
import Derived.Test.YtdhhggfplacenaaDoorTxt
import Derived.Test.YtdhhggfplacenaaDoorTxtB
set_option linter.unusedVariables false
set_option linter.unusedSimpArgs false
set_option maxRecDepth 100000
namespace Go.Proofs.YtdhhggfplacenaaDoor
open Go.Sx Go.RowKit

abbrev F_shiftbellkeep_AskNorm : FuncId := 7
abbrev F_ask_Norm : FuncId := 20
abbrev F_shiftbellkeep_sameAsk : FuncId := 21
abbrev F_shiftbellkeep_plain : FuncId := 22
abbrev F_ask_norm : FuncId := 40
abbrev F_slices_EqualFunc_api_Ask_api_Ask_api_Ask_api_Ask : FuncId := 42
abbrev F_slices_ContainsFunc_api_Ask_api_Ask : FuncId := 43
abbrev F_shiftbellkeep_plain_1 : FuncId := 44
abbrev F_slices_IndexFunc_api_Ask_api_Ask : FuncId := 57

/-- shiftbell/ask.Norm -/
def wp_ask_Norm (x_0 : Int) (x_1 : ByteArray) (x_2 : ByteArray) (x_3 : Int) (x_4 : Option Addr) (x_4l : Nat) (x_4c : Nat) (w : World) (Q : Value → World → Prop) : Prop :=
  ∀ b0 : Nat, w.heap.size ≤ b0 → ∀ b1 : Nat, w.heap.size ≤ b1 → ∀ w2, Ext w w2 →
  FnP Tryd.prog F_ask_Check #[(.agg #[(.int .i64 x_0), (.string x_1), (.string x_2), (.int .i64 x_3), (.slice x_4 x_4l x_4c)])] w2 fun v3 w3 =>
   Ext w2 w3 ∧
   ∃ t4 : Int, v3 = (.int .i64 t4) ∧
   ((t4 ≠ 0) →
    ∀ w5, Ext w w5 →
    Q (.tuple #[(.agg #[(.int .i64 0), (.string (⟨#[]⟩ : ByteArray)), (.string (⟨#[]⟩ : ByteArray)), (.int .i64 0), (.slice none 0 0)]), (.int .i64 t4)]) w5) ∧
   ((t4 = 0) →
    ∀ w5, ExtB [] [b0, b1] w w5 →
    FnP Tryd.prog F_ask_norm #[(.agg #[(.int .i64 x_0), (.string x_1), (.string x_2), (.int .i64 x_3), (.slice x_4 x_4l x_4c)]), (.bool false)] w5 fun v6 w6 =>
     Ext w5 w6 ∧
     ∃ t_07 : Int, ∃ t_18 : ByteArray, ∃ t_29 : ByteArray, ∃ t_310 : Int, ∃ t_411 : Option Addr, ∃ t_4l12 : Nat, ∃ t_4c13 : Nat, v6 = (.agg #[(.int .i64 t_07), (.string t_18), (.string t_29), (.int .i64 t_310), (.slice t_411 t_4l12 t_4c13)]) ∧
     ∀ b14 : Nat, w6.heap.size ≤ b14 → ∀ w15, Ext w6 w15 →
     FnP Tryd.prog F_ask_count #[(.agg #[(.int .i64 t_07), (.string t_18), (.string t_29), (.int .i64 t_310), (.slice t_411 t_4l12 t_4c13)])] w15 fun v16 w16 =>
      Ext w15 w16 ∧
      ∃ t17 : Int, v16 = (.int .i64 t17) ∧
      ((60 < t17) →
       ∀ w18, ExtB [b1] [] w6 w18 →
       Q (.tuple #[(.agg #[(.int .i64 0), (.string (⟨#[]⟩ : ByteArray)), (.string (⟨#[]⟩ : ByteArray)), (.int .i64 0), (.slice none 0 0)]), (.int .i64 2)]) w18) ∧
      ((t17 ≤ 60) →
       ∀ w18, ExtB [b1] [] w6 w18 →
       Q (.tuple #[(.agg #[(.int .i64 t_07), (.string t_18), (.string t_29), (.int .i64 t_310), (.slice t_411 t_4l12 t_4c13)]), (.int .i64 0)]) w18))

theorem ok_ask_Norm (x_0 : Int) (x_1 : ByteArray) (x_2 : ByteArray) (x_3 : Int) (x_4 : Option Addr) (x_4l : Nat) (x_4c : Nat) (w : World) (Q : Value → World → Prop) (h : wp_ask_Norm x_0 x_1 x_2 x_3 x_4 x_4l x_4c w Q) : FnP Tryd.prog F_ask_Norm #[(.agg #[(.int .i64 x_0), (.string x_1), (.string x_2), (.int .i64 x_3), (.slice x_4 x_4l x_4c)])] w Q := by
  have e_ : wp_ask_Norm x_0 x_1 x_2 x_3 x_4 x_4l x_4c w Q = Runs Tryd.prog Q ({ N := 19, wrap := [], pub := [], muts := [], joins := [] } : Cfg) Tryd.f20 (Tryd.f20.body.getD .skip) [.agg [.int .i64 x_0, .str x_1, .str x_2, .int .i64 x_3, .slc x_4 x_4l x_4c]] w := by kernel_rfl
  rw [e_] at h
  exact runs_fn h Tryd.func20 (by kernel_rfl) (fun args w => Tryd.call20 args w) (by kernel_rfl) (by kernel_rfl) rfl rfl

/-- shiftbell/ask.norm -/
def wp_ask_norm (x_0 : Int) (x_1 : ByteArray) (x_2 : ByteArray) (x_3 : Int) (x_4 : Option Addr) (x_4l : Nat) (x_4c : Nat) (not : Bool) (w : World) (Q : Value → World → Prop) : Prop :=
  ∀ b0 : Nat, w.heap.size ≤ b0 → ∀ b1 : Nat, w.heap.size ≤ b1 → ((x_0 = 4) →
   x_4 ≠ none ∧
   (0 : Int) ≤ 0 ∧
   (0 : Int) < (x_4l : Int) ∧
   (pIdx x_4 0 5) ≠ none ∧
   ∃ t2 : Int, cell w (pIdx x_4 0 5) 0 = some (.int .i64 t2) ∧
   ∃ t3 : ByteArray, cell w (pIdx x_4 0 5) 1 = some (.string t3) ∧
   ∃ t4 : ByteArray, cell w (pIdx x_4 0 5) 2 = some (.string t4) ∧
   ∃ t5 : Int, cell w (pIdx x_4 0 5) 3 = some (.int .i64 t5) ∧
   ∃ t6 : Option Addr, ∃ tl7 : Nat, ∃ tc8 : Nat, cell w (pIdx x_4 0 5) 4 = some (.slice t6 tl7 tc8) ∧
   ∀ w9, ExtB [] [b0, b1] w w9 →
   FnP Tryd.prog F_ask_norm #[(.agg #[(.int .i64 t2), (.string t3), (.string t4), (.int .i64 t5), (.slice t6 tl7 tc8)]), (.bool (!not))] w9 fun v10 w10 =>
    Ext w9 w10 ∧
    ∃ t_011 : Int, ∃ t_112 : ByteArray, ∃ t_213 : ByteArray, ∃ t_314 : Int, ∃ t_415 : Option Addr, ∃ t_4l16 : Nat, ∃ t_4c17 : Nat, v10 = (.agg #[(.int .i64 t_011), (.string t_112), (.string t_213), (.int .i64 t_314), (.slice t_415 t_4l16 t_4c17)]) ∧
    ∀ w18, ExtB [b1] [] w10 w18 →
    Q (.agg #[(.int .i64 t_011), (.string t_112), (.string t_213), (.int .i64 t_314), (.slice t_415 t_4l16 t_4c17)]) w18) ∧
  ((x_0 ≠ 4) →
   ((x_0 = 5) →
    ((x_0 = 5) →
     ((not = true) →
      InR .i64 (11 - x_0) ∧
      x_4 ≠ none ∧
      (0 : Int) ≤ 0 ∧
      (0 : Int) < (x_4l : Int) ∧
      (pIdx x_4 0 5) ≠ none ∧
      ∃ t2 : Int, cell w (pIdx x_4 0 5) 0 = some (.int .i64 t2) ∧
      ∃ t3 : ByteArray, cell w (pIdx x_4 0 5) 1 = some (.string t3) ∧
      ∃ t4 : ByteArray, cell w (pIdx x_4 0 5) 2 = some (.string t4) ∧
      ∃ t5 : Int, cell w (pIdx x_4 0 5) 3 = some (.int .i64 t5) ∧
      ∃ t6 : Option Addr, ∃ tl7 : Nat, ∃ tc8 : Nat, cell w (pIdx x_4 0 5) 4 = some (.slice t6 tl7 tc8) ∧
      x_4 ≠ none ∧
      (0 : Int) ≤ 1 ∧
      (1 : Int) < (x_4l : Int) ∧
      (pIdx x_4 1 5) ≠ none ∧
      ∃ t9 : Int, cell w (pIdx x_4 1 5) 0 = some (.int .i64 t9) ∧
      ∃ t10 : ByteArray, cell w (pIdx x_4 1 5) 1 = some (.string t10) ∧
      ∃ t11 : ByteArray, cell w (pIdx x_4 1 5) 2 = some (.string t11) ∧
      ∃ t12 : Int, cell w (pIdx x_4 1 5) 3 = some (.int .i64 t12) ∧
      ∃ t13 : Option Addr, ∃ tl14 : Nat, ∃ tc15 : Nat, cell w (pIdx x_4 1 5) 4 = some (.slice t13 tl14 tc15) ∧
      ∀ w16, ExtB [] [b0, b1] w w16 →
      FnP Tryd.prog F_ask_norm #[(.agg #[(.int .i64 t2), (.string t3), (.string t4), (.int .i64 t5), (.slice t6 tl7 tc8)]), (.bool not)] w16 fun v17 w17 =>
       Ext w16 w17 ∧
       ∃ t_018 : Int, ∃ t_119 : ByteArray, ∃ t_220 : ByteArray, ∃ t_321 : Int, ∃ t_422 : Option Addr, ∃ t_4l23 : Nat, ∃ t_4c24 : Nat, v17 = (.agg #[(.int .i64 t_018), (.string t_119), (.string t_220), (.int .i64 t_321), (.slice t_422 t_4l23 t_4c24)]) ∧
       ∀ w25, ExtB [] [b0, b1] w17 w25 →
       FnP Tryd.prog F_ask_norm #[(.agg #[(.int .i64 t9), (.string t10), (.string t11), (.int .i64 t12), (.slice t13 tl14 tc15)]), (.bool not)] w25 fun v26 w26 =>
        Ext w25 w26 ∧
        ∃ t_027 : Int, ∃ t_128 : ByteArray, ∃ t_229 : ByteArray, ∃ t_330 : Int, ∃ t_431 : Option Addr, ∃ t_4l32 : Nat, ∃ t_4c33 : Nat, v26 = (.agg #[(.int .i64 t_027), (.string t_128), (.string t_229), (.int .i64 t_330), (.slice t_431 t_4l32 t_4c33)]) ∧
        ∀ w34, ExtB [] [b0, b1] w26 w34 →
        Run Tryd.prog (.buildSlice 30 2 [(0, (.agg #[(.int .i64 t_018), (.string t_119), (.string t_220), (.int .i64 t_321), (.slice t_422 t_4l23 t_4c24)])), (1, (.agg #[(.int .i64 t_027), (.string t_128), (.string t_229), (.int .i64 t_330), (.slice t_431 t_4l32 t_4c33)]))]) w34 fun v35 w35 =>
         Ext w34 w35 ∧
         ∃ t36 : Option Addr, ∃ tl37 : Nat, ∃ tc38 : Nat, v35 = (.slice t36 tl37 tc38) ∧
         ∀ w39, ExtB [b1] [] w35 w39 →
         Q (.agg #[(.int .i64 (11 - x_0)), (.string (⟨#[]⟩ : ByteArray)), (.string (⟨#[]⟩ : ByteArray)), (.int .i64 0), (.slice t36 tl37 tc38)]) w39) ∧
     ((not = false) →
      x_4 ≠ none ∧
      (0 : Int) ≤ 0 ∧
      (0 : Int) < (x_4l : Int) ∧
      (pIdx x_4 0 5) ≠ none ∧
      ∃ t2 : Int, cell w (pIdx x_4 0 5) 0 = some (.int .i64 t2) ∧
      ∃ t3 : ByteArray, cell w (pIdx x_4 0 5) 1 = some (.string t3) ∧
      ∃ t4 : ByteArray, cell w (pIdx x_4 0 5) 2 = some (.string t4) ∧
      ∃ t5 : Int, cell w (pIdx x_4 0 5) 3 = some (.int .i64 t5) ∧
      ∃ t6 : Option Addr, ∃ tl7 : Nat, ∃ tc8 : Nat, cell w (pIdx x_4 0 5) 4 = some (.slice t6 tl7 tc8) ∧
      x_4 ≠ none ∧
      (0 : Int) ≤ 1 ∧
      (1 : Int) < (x_4l : Int) ∧
      (pIdx x_4 1 5) ≠ none ∧
      ∃ t9 : Int, cell w (pIdx x_4 1 5) 0 = some (.int .i64 t9) ∧
      ∃ t10 : ByteArray, cell w (pIdx x_4 1 5) 1 = some (.string t10) ∧
      ∃ t11 : ByteArray, cell w (pIdx x_4 1 5) 2 = some (.string t11) ∧
      ∃ t12 : Int, cell w (pIdx x_4 1 5) 3 = some (.int .i64 t12) ∧
      ∃ t13 : Option Addr, ∃ tl14 : Nat, ∃ tc15 : Nat, cell w (pIdx x_4 1 5) 4 = some (.slice t13 tl14 tc15) ∧
      ∀ w16, ExtB [] [b0, b1] w w16 →
      FnP Tryd.prog F_ask_norm #[(.agg #[(.int .i64 t2), (.string t3), (.string t4), (.int .i64 t5), (.slice t6 tl7 tc8)]), (.bool not)] w16 fun v17 w17 =>
       Ext w16 w17 ∧
       ∃ t_018 : Int, ∃ t_119 : ByteArray, ∃ t_220 : ByteArray, ∃ t_321 : Int, ∃ t_422 : Option Addr, ∃ t_4l23 : Nat, ∃ t_4c24 : Nat, v17 = (.agg #[(.int .i64 t_018), (.string t_119), (.string t_220), (.int .i64 t_321), (.slice t_422 t_4l23 t_4c24)]) ∧
       ∀ w25, ExtB [] [b0, b1] w17 w25 →
       FnP Tryd.prog F_ask_norm #[(.agg #[(.int .i64 t9), (.string t10), (.string t11), (.int .i64 t12), (.slice t13 tl14 tc15)]), (.bool not)] w25 fun v26 w26 =>
        Ext w25 w26 ∧
        ∃ t_027 : Int, ∃ t_128 : ByteArray, ∃ t_229 : ByteArray, ∃ t_330 : Int, ∃ t_431 : Option Addr, ∃ t_4l32 : Nat, ∃ t_4c33 : Nat, v26 = (.agg #[(.int .i64 t_027), (.string t_128), (.string t_229), (.int .i64 t_330), (.slice t_431 t_4l32 t_4c33)]) ∧
        ∀ w34, ExtB [] [b0, b1] w26 w34 →
        Run Tryd.prog (.buildSlice 30 2 [(0, (.agg #[(.int .i64 t_018), (.string t_119), (.string t_220), (.int .i64 t_321), (.slice t_422 t_4l23 t_4c24)])), (1, (.agg #[(.int .i64 t_027), (.string t_128), (.string t_229), (.int .i64 t_330), (.slice t_431 t_4l32 t_4c33)]))]) w34 fun v35 w35 =>
         Ext w34 w35 ∧
         ∃ t36 : Option Addr, ∃ tl37 : Nat, ∃ tc38 : Nat, v35 = (.slice t36 tl37 tc38) ∧
         ∀ w39, ExtB [b1] [] w35 w39 →
         Q (.agg #[(.int .i64 x_0), (.string (⟨#[]⟩ : ByteArray)), (.string (⟨#[]⟩ : ByteArray)), (.int .i64 0), (.slice t36 tl37 tc38)]) w39)) ∧
    ((x_0 ≠ 5) →
     ((not = true) →
      ∀ w2, ExtB [] [b0, b1] w w2 →
      Run Tryd.prog (.buildSlice 30 1 [(0, (.agg #[(.int .i64 x_0), (.string x_1), (.string x_2), (.int .i64 x_3), (.slice x_4 x_4l x_4c)]))]) w2 fun v3 w3 =>
       Ext w2 w3 ∧
       ∃ t4 : Option Addr, ∃ tl5 : Nat, ∃ tc6 : Nat, v3 = (.slice t4 tl5 tc6) ∧
       ∀ w7, ExtB [b1] [] w3 w7 →
       Q (.agg #[(.int .i64 4), (.string (⟨#[]⟩ : ByteArray)), (.string (⟨#[]⟩ : ByteArray)), (.int .i64 0), (.slice t4 tl5 tc6)]) w7) ∧
     ((not = false) →
      ∀ w2, Ext w w2 →
      Q (.agg #[(.int .i64 x_0), (.string x_1), (.string x_2), (.int .i64 x_3), (.slice x_4 x_4l x_4c)]) w2))) ∧
   ((x_0 ≠ 5) →
    ((x_0 = 6) →
     ((not = true) →
      InR .i64 (11 - x_0) ∧
      x_4 ≠ none ∧
      (0 : Int) ≤ 0 ∧
      (0 : Int) < (x_4l : Int) ∧
      (pIdx x_4 0 5) ≠ none ∧
      ∃ t2 : Int, cell w (pIdx x_4 0 5) 0 = some (.int .i64 t2) ∧
      ∃ t3 : ByteArray, cell w (pIdx x_4 0 5) 1 = some (.string t3) ∧
      ∃ t4 : ByteArray, cell w (pIdx x_4 0 5) 2 = some (.string t4) ∧
      ∃ t5 : Int, cell w (pIdx x_4 0 5) 3 = some (.int .i64 t5) ∧
      ∃ t6 : Option Addr, ∃ tl7 : Nat, ∃ tc8 : Nat, cell w (pIdx x_4 0 5) 4 = some (.slice t6 tl7 tc8) ∧
      x_4 ≠ none ∧
      (0 : Int) ≤ 1 ∧
      (1 : Int) < (x_4l : Int) ∧
      (pIdx x_4 1 5) ≠ none ∧
      ∃ t9 : Int, cell w (pIdx x_4 1 5) 0 = some (.int .i64 t9) ∧
      ∃ t10 : ByteArray, cell w (pIdx x_4 1 5) 1 = some (.string t10) ∧
      ∃ t11 : ByteArray, cell w (pIdx x_4 1 5) 2 = some (.string t11) ∧
      ∃ t12 : Int, cell w (pIdx x_4 1 5) 3 = some (.int .i64 t12) ∧
      ∃ t13 : Option Addr, ∃ tl14 : Nat, ∃ tc15 : Nat, cell w (pIdx x_4 1 5) 4 = some (.slice t13 tl14 tc15) ∧
      ∀ w16, ExtB [] [b0, b1] w w16 →
      FnP Tryd.prog F_ask_norm #[(.agg #[(.int .i64 t2), (.string t3), (.string t4), (.int .i64 t5), (.slice t6 tl7 tc8)]), (.bool not)] w16 fun v17 w17 =>
       Ext w16 w17 ∧
       ∃ t_018 : Int, ∃ t_119 : ByteArray, ∃ t_220 : ByteArray, ∃ t_321 : Int, ∃ t_422 : Option Addr, ∃ t_4l23 : Nat, ∃ t_4c24 : Nat, v17 = (.agg #[(.int .i64 t_018), (.string t_119), (.string t_220), (.int .i64 t_321), (.slice t_422 t_4l23 t_4c24)]) ∧
       ∀ w25, ExtB [] [b0, b1] w17 w25 →
       FnP Tryd.prog F_ask_norm #[(.agg #[(.int .i64 t9), (.string t10), (.string t11), (.int .i64 t12), (.slice t13 tl14 tc15)]), (.bool not)] w25 fun v26 w26 =>
        Ext w25 w26 ∧
        ∃ t_027 : Int, ∃ t_128 : ByteArray, ∃ t_229 : ByteArray, ∃ t_330 : Int, ∃ t_431 : Option Addr, ∃ t_4l32 : Nat, ∃ t_4c33 : Nat, v26 = (.agg #[(.int .i64 t_027), (.string t_128), (.string t_229), (.int .i64 t_330), (.slice t_431 t_4l32 t_4c33)]) ∧
        ∀ w34, ExtB [] [b0, b1] w26 w34 →
        Run Tryd.prog (.buildSlice 30 2 [(0, (.agg #[(.int .i64 t_018), (.string t_119), (.string t_220), (.int .i64 t_321), (.slice t_422 t_4l23 t_4c24)])), (1, (.agg #[(.int .i64 t_027), (.string t_128), (.string t_229), (.int .i64 t_330), (.slice t_431 t_4l32 t_4c33)]))]) w34 fun v35 w35 =>
         Ext w34 w35 ∧
         ∃ t36 : Option Addr, ∃ tl37 : Nat, ∃ tc38 : Nat, v35 = (.slice t36 tl37 tc38) ∧
         ∀ w39, ExtB [b1] [] w35 w39 →
         Q (.agg #[(.int .i64 (11 - x_0)), (.string (⟨#[]⟩ : ByteArray)), (.string (⟨#[]⟩ : ByteArray)), (.int .i64 0), (.slice t36 tl37 tc38)]) w39) ∧
     ((not = false) →
      x_4 ≠ none ∧
      (0 : Int) ≤ 0 ∧
      (0 : Int) < (x_4l : Int) ∧
      (pIdx x_4 0 5) ≠ none ∧
      ∃ t2 : Int, cell w (pIdx x_4 0 5) 0 = some (.int .i64 t2) ∧
      ∃ t3 : ByteArray, cell w (pIdx x_4 0 5) 1 = some (.string t3) ∧
      ∃ t4 : ByteArray, cell w (pIdx x_4 0 5) 2 = some (.string t4) ∧
      ∃ t5 : Int, cell w (pIdx x_4 0 5) 3 = some (.int .i64 t5) ∧
      ∃ t6 : Option Addr, ∃ tl7 : Nat, ∃ tc8 : Nat, cell w (pIdx x_4 0 5) 4 = some (.slice t6 tl7 tc8) ∧
      x_4 ≠ none ∧
      (0 : Int) ≤ 1 ∧
      (1 : Int) < (x_4l : Int) ∧
      (pIdx x_4 1 5) ≠ none ∧
      ∃ t9 : Int, cell w (pIdx x_4 1 5) 0 = some (.int .i64 t9) ∧
      ∃ t10 : ByteArray, cell w (pIdx x_4 1 5) 1 = some (.string t10) ∧
      ∃ t11 : ByteArray, cell w (pIdx x_4 1 5) 2 = some (.string t11) ∧
      ∃ t12 : Int, cell w (pIdx x_4 1 5) 3 = some (.int .i64 t12) ∧
      ∃ t13 : Option Addr, ∃ tl14 : Nat, ∃ tc15 : Nat, cell w (pIdx x_4 1 5) 4 = some (.slice t13 tl14 tc15) ∧
      ∀ w16, ExtB [] [b0, b1] w w16 →
      FnP Tryd.prog F_ask_norm #[(.agg #[(.int .i64 t2), (.string t3), (.string t4), (.int .i64 t5), (.slice t6 tl7 tc8)]), (.bool not)] w16 fun v17 w17 =>
       Ext w16 w17 ∧
       ∃ t_018 : Int, ∃ t_119 : ByteArray, ∃ t_220 : ByteArray, ∃ t_321 : Int, ∃ t_422 : Option Addr, ∃ t_4l23 : Nat, ∃ t_4c24 : Nat, v17 = (.agg #[(.int .i64 t_018), (.string t_119), (.string t_220), (.int .i64 t_321), (.slice t_422 t_4l23 t_4c24)]) ∧
       ∀ w25, ExtB [] [b0, b1] w17 w25 →
       FnP Tryd.prog F_ask_norm #[(.agg #[(.int .i64 t9), (.string t10), (.string t11), (.int .i64 t12), (.slice t13 tl14 tc15)]), (.bool not)] w25 fun v26 w26 =>
        Ext w25 w26 ∧
        ∃ t_027 : Int, ∃ t_128 : ByteArray, ∃ t_229 : ByteArray, ∃ t_330 : Int, ∃ t_431 : Option Addr, ∃ t_4l32 : Nat, ∃ t_4c33 : Nat, v26 = (.agg #[(.int .i64 t_027), (.string t_128), (.string t_229), (.int .i64 t_330), (.slice t_431 t_4l32 t_4c33)]) ∧
        ∀ w34, ExtB [] [b0, b1] w26 w34 →
        Run Tryd.prog (.buildSlice 30 2 [(0, (.agg #[(.int .i64 t_018), (.string t_119), (.string t_220), (.int .i64 t_321), (.slice t_422 t_4l23 t_4c24)])), (1, (.agg #[(.int .i64 t_027), (.string t_128), (.string t_229), (.int .i64 t_330), (.slice t_431 t_4l32 t_4c33)]))]) w34 fun v35 w35 =>
         Ext w34 w35 ∧
         ∃ t36 : Option Addr, ∃ tl37 : Nat, ∃ tc38 : Nat, v35 = (.slice t36 tl37 tc38) ∧
         ∀ w39, ExtB [b1] [] w35 w39 →
         Q (.agg #[(.int .i64 x_0), (.string (⟨#[]⟩ : ByteArray)), (.string (⟨#[]⟩ : ByteArray)), (.int .i64 0), (.slice t36 tl37 tc38)]) w39)) ∧
    ((x_0 ≠ 6) →
     ((not = true) →
      ∀ w2, ExtB [] [b0, b1] w w2 →
      Run Tryd.prog (.buildSlice 30 1 [(0, (.agg #[(.int .i64 x_0), (.string x_1), (.string x_2), (.int .i64 x_3), (.slice x_4 x_4l x_4c)]))]) w2 fun v3 w3 =>
       Ext w2 w3 ∧
       ∃ t4 : Option Addr, ∃ tl5 : Nat, ∃ tc6 : Nat, v3 = (.slice t4 tl5 tc6) ∧
       ∀ w7, ExtB [b1] [] w3 w7 →
       Q (.agg #[(.int .i64 4), (.string (⟨#[]⟩ : ByteArray)), (.string (⟨#[]⟩ : ByteArray)), (.int .i64 0), (.slice t4 tl5 tc6)]) w7) ∧
     ((not = false) →
      ∀ w2, Ext w w2 →
      Q (.agg #[(.int .i64 x_0), (.string x_1), (.string x_2), (.int .i64 x_3), (.slice x_4 x_4l x_4c)]) w2))))

theorem ok_ask_norm (x_0 : Int) (x_1 : ByteArray) (x_2 : ByteArray) (x_3 : Int) (x_4 : Option Addr) (x_4l : Nat) (x_4c : Nat) (not : Bool) (w : World) (Q : Value → World → Prop) (h : wp_ask_norm x_0 x_1 x_2 x_3 x_4 x_4l x_4c not w Q) : FnP Tryd.prog F_ask_norm #[(.agg #[(.int .i64 x_0), (.string x_1), (.string x_2), (.int .i64 x_3), (.slice x_4 x_4l x_4c)]), (.bool not)] w Q := by
  have e_ : wp_ask_norm x_0 x_1 x_2 x_3 x_4 x_4l x_4c not w Q = Runs Tryd.prog Q ({ N := 45, wrap := [], pub := [], muts := [], joins := [] } : Cfg) Tryd.f40 (Tryd.f40.body.getD .skip) [.agg [.int .i64 x_0, .str x_1, .str x_2, .int .i64 x_3, .slc x_4 x_4l x_4c], .sc (.bool (.atom true not))] w := by kernel_rfl
  rw [e_] at h
  exact runs_fn h Tryd.func40 (by kernel_rfl) (fun args w => Tryd.call40 args w) (by kernel_rfl) (by kernel_rfl) rfl rfl

/-- shiftbell/shiftbellkeep.sameAsk -/
def wp_shiftbellkeep_sameAsk (a_0 : Int) (a_1 : ByteArray) (a_2 : ByteArray) (a_3 : Int) (a_4 : Option Addr) (a_4l : Nat) (a_4c : Nat) (b_0 : Int) (b_1 : ByteArray) (b_2 : ByteArray) (b_3 : Int) (b_4 : Option Addr) (b_4l : Nat) (b_4c : Nat) (w : World) (Q : Value → World → Prop) : Prop :=
  ∀ b0 : Nat, w.heap.size ≤ b0 → ∀ b1 : Nat, w.heap.size ≤ b1 → (((((a_0 = b_0) ∧ (a_1 = b_1)) ∧ (a_2 = b_2)) ∧ (a_3 = b_3)) →
   ∀ w2, Ext w w2 →
   FnP Tryd.prog F_slices_EqualFunc_api_Ask_api_Ask_api_Ask_api_Ask #[(.slice a_4 a_4l a_4c), (.slice b_4 b_4l b_4c), (.func (.func 21) #[] #[])] w2 fun v3 w3 =>
    Ext w2 w3 ∧
    ∃ t4 : Bool, v3 = (.bool t4) ∧
    ∀ w5, Ext w w5 →
    Q (.bool t4) w5) ∧
  (((((a_0 ≠ b_0) ∨ (a_1 ≠ b_1)) ∨ (a_2 ≠ b_2)) ∨ (a_3 ≠ b_3)) →
   ∀ w2, Ext w w2 →
   Q (.bool false) w2)

theorem ok_shiftbellkeep_sameAsk (a_0 : Int) (a_1 : ByteArray) (a_2 : ByteArray) (a_3 : Int) (a_4 : Option Addr) (a_4l : Nat) (a_4c : Nat) (b_0 : Int) (b_1 : ByteArray) (b_2 : ByteArray) (b_3 : Int) (b_4 : Option Addr) (b_4l : Nat) (b_4c : Nat) (w : World) (Q : Value → World → Prop) (h : wp_shiftbellkeep_sameAsk a_0 a_1 a_2 a_3 a_4 a_4l a_4c b_0 b_1 b_2 b_3 b_4 b_4l b_4c w Q) : FnP Tryd.prog F_shiftbellkeep_sameAsk #[(.agg #[(.int .i64 a_0), (.string a_1), (.string a_2), (.int .i64 a_3), (.slice a_4 a_4l a_4c)]), (.agg #[(.int .i64 b_0), (.string b_1), (.string b_2), (.int .i64 b_3), (.slice b_4 b_4l b_4c)])] w Q := by
  have e_ : wp_shiftbellkeep_sameAsk a_0 a_1 a_2 a_3 a_4 a_4l a_4c b_0 b_1 b_2 b_3 b_4 b_4l b_4c w Q = Runs Tryd.prog Q ({ N := 38, wrap := [], pub := [], muts := [], joins := [] } : Cfg) Tryd.f21 (Tryd.f21.body.getD .skip) [.agg [.int .i64 a_0, .str a_1, .str a_2, .int .i64 a_3, .slc a_4 a_4l a_4c], .agg [.int .i64 b_0, .str b_1, .str b_2, .int .i64 b_3, .slc b_4 b_4l b_4c]] w := by kernel_rfl
  rw [e_] at h
  exact runs_fn h Tryd.func21 (by kernel_rfl) (fun args w => Tryd.call21 args w) (by kernel_rfl) (by kernel_rfl) rfl rfl

/-- slices.EqualFunc[[]shiftbell/api.Ask,[]shiftbell/api.Ask,shiftbell/api.Ask,shiftbell/api.Ask] -/
def wp_slices_EqualFunc_api_Ask_api_Ask_api_Ask_api_Ask (s1 : Option Addr) (s1l : Nat) (s1c : Nat) (s2 : Option Addr) (s2l : Nat) (s2c : Nat) (eq : Value) (w : World) (Q : Value → World → Prop) : Prop :=
  (((s1l : Int) ≠ (s2l : Int)) →
   ∀ w0, Ext w w0 →
   Q (.bool false) w0) ∧
  (((s1l : Int) = (s2l : Int)) →
   ∃ (I0 : Int → World → Prop) (M0 : Int → World → Nat), I0 0 w ∧
   ∀ (k1 : Int) (w2 : World), I0 k1 w2 →
    ((k1 < (s1l : Int)) →
     s1 ≠ none ∧
     (0 : Int) ≤ k1 ∧
     (k1 : Int) < (s1l : Int) ∧
     (pIdx s1 k1 5) ≠ none ∧
     ∃ t3 : Int, cell w2 (pIdx s1 k1 5) 0 = some (.int .i64 t3) ∧
     ∃ t4 : ByteArray, cell w2 (pIdx s1 k1 5) 1 = some (.string t4) ∧
     ∃ t5 : ByteArray, cell w2 (pIdx s1 k1 5) 2 = some (.string t5) ∧
     ∃ t6 : Int, cell w2 (pIdx s1 k1 5) 3 = some (.int .i64 t6) ∧
     ∃ t7 : Option Addr, ∃ tl8 : Nat, ∃ tc9 : Nat, cell w2 (pIdx s1 k1 5) 4 = some (.slice t7 tl8 tc9) ∧
     ∀ b10 : Nat, w2.heap.size ≤ b10 → s2 ≠ none ∧
     (0 : Int) ≤ k1 ∧
     (k1 : Int) < (s2l : Int) ∧
     (pIdx s2 k1 5) ≠ none ∧
     ∃ t11 : Int, cell w2 (pIdx s2 k1 5) 0 = some (.int .i64 t11) ∧
     ∃ t12 : ByteArray, cell w2 (pIdx s2 k1 5) 1 = some (.string t12) ∧
     ∃ t13 : ByteArray, cell w2 (pIdx s2 k1 5) 2 = some (.string t13) ∧
     ∃ t14 : Int, cell w2 (pIdx s2 k1 5) 3 = some (.int .i64 t14) ∧
     ∃ t15 : Option Addr, ∃ tl16 : Nat, ∃ tc17 : Nat, cell w2 (pIdx s2 k1 5) 4 = some (.slice t15 tl16 tc17) ∧
     ∀ b18 : Nat, w2.heap.size ≤ b18 → ∀ w19, Ext w2 w19 →
     FnVP Tryd.prog eq [(.agg #[(.int .i64 t3), (.string t4), (.string t5), (.int .i64 t6), (.slice t7 tl8 tc9)]), (.agg #[(.int .i64 t11), (.string t12), (.string t13), (.int .i64 t14), (.slice t15 tl16 tc17)])] w19 fun v20 w20 =>
      Ext w19 w20 ∧
      ∃ t21 : Bool, v20 = (.bool t21) ∧
      ((t21 = false) →
       ∀ w22, Ext w2 w22 →
       Q (.bool false) w22) ∧
      ((t21 = true) →
       InR .i64 (k1 + 1) ∧
       (I0 (k1 + 1) w2 ∧ M0 (k1 + 1) w2 < M0 k1 w2))) ∧
    (((s1l : Int) ≤ k1) →
     ∀ w3, Ext w2 w3 →
     Q (.bool true) w3))

theorem ok_slices_EqualFunc_api_Ask_api_Ask_api_Ask_api_Ask (s1 : Option Addr) (s1l : Nat) (s1c : Nat) (s2 : Option Addr) (s2l : Nat) (s2c : Nat) (eq : Value) (w : World) (Q : Value → World → Prop) (h : wp_slices_EqualFunc_api_Ask_api_Ask_api_Ask_api_Ask s1 s1l s1c s2 s2l s2c eq w Q) : FnP Tryd.prog F_slices_EqualFunc_api_Ask_api_Ask_api_Ask_api_Ask #[(.slice s1 s1l s1c), (.slice s2 s2l s2c), eq] w Q := by
  have e_ : wp_slices_EqualFunc_api_Ask_api_Ask_api_Ask_api_Ask s1 s1l s1c s2 s2l s2c eq w Q = Runs Tryd.prog Q ({ N := 32, wrap := [], pub := [], muts := [], joins := [] } : Cfg) Tryd.f42 (Tryd.f42.body.getD .skip) [.sc (.slc s1 s1l s1c), .sc (.slc s2 s2l s2c), .sc (.val eq)] w := by kernel_rfl
  rw [e_] at h
  exact runs_fn h Tryd.func42 (by kernel_rfl) (fun args w => Tryd.call42 args w) (by kernel_rfl) (by kernel_rfl) rfl rfl

/-- shiftbell/shiftbellkeep.plain -/
def wp_shiftbellkeep_plain (x_0 : Int) (x_1 : ByteArray) (x_2 : ByteArray) (x_3 : Int) (x_4 : Option Addr) (x_4l : Nat) (x_4c : Nat) (w : World) (Q : Value → World → Prop) : Prop :=
  ∀ b0 : Nat, w.heap.size ≤ b0 → ((x_0 = 4) →
   (((x_4l : Int) = 1) →
    x_4 ≠ none)) ∧
  ((x_0 = 4) →
   (((x_4l : Int) = 1) →
    (0 : Int) ≤ 0)) ∧
  ((x_0 = 4) →
   (((x_4l : Int) = 1) →
    (0 : Int) < (x_4l : Int))) ∧
  ((x_0 = 4) →
   (((x_4l : Int) = 1) →
    (pIdx x_4 0 5) ≠ none)) ∧
  ((x_0 ≠ 4) →
   ∀ w1, Ext w w1 →
   FnP Tryd.prog F_slices_ContainsFunc_api_Ask_api_Ask #[(.slice x_4 x_4l x_4c), (.func (.func 44) #[] #[])] w1 fun v2 w2 =>
    Ext w1 w2 ∧
    ∃ t3 : Bool, v2 = (.bool t3) ∧
    ∀ w4, Ext w w4 →
    Q (.bool (!t3)) w4) ∧
  ((x_0 = 4) →
   (((x_4l : Int) = 1) →
    ∃ t1 : Option Addr, ∃ tl2 : Nat, ∃ tc3 : Nat, cell w (pAdd (pIdx x_4 0 5) 4) 0 = some (.slice t1 tl2 tc3) ∧
    (((tl2 : Int) = 0) →
     ∀ w4, Ext w w4 →
     FnP Tryd.prog F_slices_ContainsFunc_api_Ask_api_Ask #[(.slice x_4 x_4l x_4c), (.func (.func 44) #[] #[])] w4 fun v5 w5 =>
      Ext w4 w5 ∧
      ∃ t6 : Bool, v5 = (.bool t6) ∧
      ∀ w7, Ext w w7 →
      Q (.bool (!t6)) w7) ∧
    (((tl2 : Int) ≠ 0) →
     ∀ w4, Ext w w4 →
     Q (.bool false) w4)) ∧
   (((x_4l : Int) ≠ 1) →
    ∀ w1, Ext w w1 →
    Q (.bool false) w1))

theorem ok_shiftbellkeep_plain (x_0 : Int) (x_1 : ByteArray) (x_2 : ByteArray) (x_3 : Int) (x_4 : Option Addr) (x_4l : Nat) (x_4c : Nat) (w : World) (Q : Value → World → Prop) (h : wp_shiftbellkeep_plain x_0 x_1 x_2 x_3 x_4 x_4l x_4c w Q) : FnP Tryd.prog F_shiftbellkeep_plain #[(.agg #[(.int .i64 x_0), (.string x_1), (.string x_2), (.int .i64 x_3), (.slice x_4 x_4l x_4c)])] w Q := by
  have e_ : wp_shiftbellkeep_plain x_0 x_1 x_2 x_3 x_4 x_4l x_4c w Q = Runs Tryd.prog Q ({ N := 27, wrap := [], pub := [], muts := [], joins := [] } : Cfg) Tryd.f22 (Tryd.f22.body.getD .skip) [.agg [.int .i64 x_0, .str x_1, .str x_2, .int .i64 x_3, .slc x_4 x_4l x_4c]] w := by kernel_rfl
  rw [e_] at h
  exact runs_fn h Tryd.func22 (by kernel_rfl) (fun args w => Tryd.call22 args w) (by kernel_rfl) (by kernel_rfl) rfl rfl

/-- shiftbell/shiftbellkeep.plain$1 -/
def wp_shiftbellkeep_plain_1 (y_0 : Int) (y_1 : ByteArray) (y_2 : ByteArray) (y_3 : Int) (y_4 : Option Addr) (y_4l : Nat) (y_4c : Nat) (w : World) (Q : Value → World → Prop) : Prop :=
  ∀ b0 : Nat, w.heap.size ≤ b0 → ∀ w1, Ext w w1 →
  FnP Tryd.prog F_shiftbellkeep_plain #[(.agg #[(.int .i64 y_0), (.string y_1), (.string y_2), (.int .i64 y_3), (.slice y_4 y_4l y_4c)])] w1 fun v2 w2 =>
   Ext w1 w2 ∧
   ∃ t3 : Bool, v2 = (.bool t3) ∧
   ∀ w4, Ext w w4 →
   Q (.bool (!t3)) w4

theorem ok_shiftbellkeep_plain_1 (y_0 : Int) (y_1 : ByteArray) (y_2 : ByteArray) (y_3 : Int) (y_4 : Option Addr) (y_4l : Nat) (y_4c : Nat) (w : World) (Q : Value → World → Prop) (h : wp_shiftbellkeep_plain_1 y_0 y_1 y_2 y_3 y_4 y_4l y_4c w Q) : FnP Tryd.prog F_shiftbellkeep_plain_1 #[(.agg #[(.int .i64 y_0), (.string y_1), (.string y_2), (.int .i64 y_3), (.slice y_4 y_4l y_4c)])] w Q := by
  have e_ : wp_shiftbellkeep_plain_1 y_0 y_1 y_2 y_3 y_4 y_4l y_4c w Q = Runs Tryd.prog Q ({ N := 6, wrap := [], pub := [], muts := [], joins := [] } : Cfg) Tryd.f44 (Tryd.f44.body.getD .skip) [.agg [.int .i64 y_0, .str y_1, .str y_2, .int .i64 y_3, .slc y_4 y_4l y_4c]] w := by kernel_rfl
  rw [e_] at h
  exact runs_fn h Tryd.func44 (by kernel_rfl) (fun args w => Tryd.call44 args w) (by kernel_rfl) (by kernel_rfl) rfl rfl

/-- slices.ContainsFunc[[]shiftbell/api.Ask,shiftbell/api.Ask] -/
def wp_slices_ContainsFunc_api_Ask_api_Ask (s : Option Addr) (sl : Nat) (sc : Nat) (f : Value) (w : World) (Q : Value → World → Prop) : Prop :=
  ∀ w0, Ext w w0 →
  FnP Tryd.prog F_slices_IndexFunc_api_Ask_api_Ask #[(.slice s sl sc), f] w0 fun v1 w1 =>
   Ext w0 w1 ∧
   ∃ t2 : Int, v1 = (.int .i64 t2) ∧
   ∀ w3, Ext w w3 →
   Q (.bool (decide (0 ≤ t2))) w3

theorem ok_slices_ContainsFunc_api_Ask_api_Ask (s : Option Addr) (sl : Nat) (sc : Nat) (f : Value) (w : World) (Q : Value → World → Prop) (h : wp_slices_ContainsFunc_api_Ask_api_Ask s sl sc f w Q) : FnP Tryd.prog F_slices_ContainsFunc_api_Ask_api_Ask #[(.slice s sl sc), f] w Q := by
  have e_ : wp_slices_ContainsFunc_api_Ask_api_Ask s sl sc f w Q = Runs Tryd.prog Q ({ N := 9, wrap := [], pub := [], muts := [], joins := [] } : Cfg) Tryd.f43 (Tryd.f43.body.getD .skip) [.sc (.slc s sl sc), .sc (.val f)] w := by kernel_rfl
  rw [e_] at h
  exact runs_fn h Tryd.func43 (by kernel_rfl) (fun args w => Tryd.call43 args w) (by kernel_rfl) (by kernel_rfl) rfl rfl

/-- slices.IndexFunc[[]shiftbell/api.Ask,shiftbell/api.Ask] -/
def wp_slices_IndexFunc_api_Ask_api_Ask (s : Option Addr) (sl : Nat) (sc : Nat) (f : Value) (w : World) (Q : Value → World → Prop) : Prop :=
  ∃ (I0 : Int → World → Prop) (M0 : Int → World → Nat), I0 0 w ∧
  ∀ (k1 : Int) (w2 : World), I0 k1 w2 →
   ((k1 < (sl : Int)) →
    s ≠ none ∧
    (0 : Int) ≤ k1 ∧
    (k1 : Int) < (sl : Int) ∧
    (pIdx s k1 5) ≠ none ∧
    ∃ t3 : Int, cell w2 (pIdx s k1 5) 0 = some (.int .i64 t3) ∧
    ∃ t4 : ByteArray, cell w2 (pIdx s k1 5) 1 = some (.string t4) ∧
    ∃ t5 : ByteArray, cell w2 (pIdx s k1 5) 2 = some (.string t5) ∧
    ∃ t6 : Int, cell w2 (pIdx s k1 5) 3 = some (.int .i64 t6) ∧
    ∃ t7 : Option Addr, ∃ tl8 : Nat, ∃ tc9 : Nat, cell w2 (pIdx s k1 5) 4 = some (.slice t7 tl8 tc9) ∧
    ∀ w10, Ext w2 w10 →
    FnVP Tryd.prog f [(.agg #[(.int .i64 t3), (.string t4), (.string t5), (.int .i64 t6), (.slice t7 tl8 tc9)])] w10 fun v11 w11 =>
     Ext w10 w11 ∧
     ∃ t12 : Bool, v11 = (.bool t12) ∧
     ((t12 = true) →
      ∀ w13, Ext w2 w13 →
      Q (.int .i64 k1) w13) ∧
     ((t12 = false) →
      InR .i64 (k1 + 1) ∧
      (I0 (k1 + 1) w2 ∧ M0 (k1 + 1) w2 < M0 k1 w2))) ∧
   (((sl : Int) ≤ k1) →
    ∀ w3, Ext w2 w3 →
    Q (.int .i64 (-1)) w3)

theorem ok_slices_IndexFunc_api_Ask_api_Ask (s : Option Addr) (sl : Nat) (sc : Nat) (f : Value) (w : World) (Q : Value → World → Prop) (h : wp_slices_IndexFunc_api_Ask_api_Ask s sl sc f w Q) : FnP Tryd.prog F_slices_IndexFunc_api_Ask_api_Ask #[(.slice s sl sc), f] w Q := by
  have e_ : wp_slices_IndexFunc_api_Ask_api_Ask s sl sc f w Q = Runs Tryd.prog Q ({ N := 19, wrap := [], pub := [], muts := [], joins := [] } : Cfg) Tryd.f57 (Tryd.f57.body.getD .skip) [.sc (.slc s sl sc), .sc (.val f)] w := by kernel_rfl
  rw [e_] at h
  exact runs_fn h Tryd.func57 (by kernel_rfl) (fun args w => Tryd.call57 args w) (by kernel_rfl) (by kernel_rfl) rfl rfl

/-- shiftbell/shiftbellkeep.AskNorm -/
def wp_shiftbellkeep_AskNorm (x_0 : Int) (x_1 : ByteArray) (x_2 : ByteArray) (x_3 : Int) (x_4 : Option Addr) (x_4l : Nat) (x_4c : Nat) (h_v_0 : ByteArray) (h_v_1 : Option Addr) (h_v_1l : Nat) (h_v_1c : Nat) (h_v_2 : Int) (h_v_3 : Int) (h_v_4 : Int) (h_v_5 : Int) (h_v_6 : Int) (h_v_7 : Int) (w : World) (Q : Value → World → Prop) : Prop :=
  ∀ b0 : Nat, w.heap.size ≤ b0 → ∀ b1 : Nat, w.heap.size ≤ b1 → ∀ w2, Ext w w2 →
  FnP Tryd.prog F_shiftbellkeep_asks #[] w2 fun v3 w3 =>
   Ext w2 w3 ∧
   ∃ t4 : Bool, v3 = (.bool t4) ∧
   ((t4 = false) →
    ∀ w5, Ext w w5 →
    Q (.bool false) w5) ∧
   ((t4 = true) →
    ∀ w5, ExtB [] [b0, b1] w w5 →
    FnP Tryd.prog F_ask_Norm #[(.agg #[(.int .i64 x_0), (.string x_1), (.string x_2), (.int .i64 x_3), (.slice x_4 x_4l x_4c)])] w5 fun v6 w6 =>
     Ext w5 w6 ∧
     ∃ t_07 : Int, ∃ t_18 : ByteArray, ∃ t_29 : ByteArray, ∃ t_310 : Int, ∃ t_411 : Option Addr, ∃ t_4l12 : Nat, ∃ t_4c13 : Nat, ∃ t14 : Int, v6 = (.tuple #[(.agg #[(.int .i64 t_07), (.string t_18), (.string t_29), (.int .i64 t_310), (.slice t_411 t_4l12 t_4c13)]), (.int .i64 t14)]) ∧
     ∀ b15 : Nat, w6.heap.size ≤ b15 → ((t14 ≠ 0) →
      ∀ w16, Ext w6 w16 →
      FnP Tryd.prog F_shiftbellkeep_sameAsk #[(.agg #[(.int .i64 t_07), (.string t_18), (.string t_29), (.int .i64 t_310), (.slice t_411 t_4l12 t_4c13)]), (.agg #[(.int .i64 0), (.string (⟨#[]⟩ : ByteArray)), (.string (⟨#[]⟩ : ByteArray)), (.int .i64 0), (.slice none 0 0)])] w16 fun v17 w17 =>
       Ext w16 w17 ∧
       ∃ t18 : Bool, v17 = (.bool t18) ∧
       ∀ w19, Ext w6 w19 →
       Q (.bool t18) w19) ∧
     ((t14 = 0) →
      ∀ w16, ExtB [] [b0, b1, b15] w6 w16 →
      FnP Tryd.prog F_ask_Norm #[(.agg #[(.int .i64 t_07), (.string t_18), (.string t_29), (.int .i64 t_310), (.slice t_411 t_4l12 t_4c13)])] w16 fun v17 w17 =>
       Ext w16 w17 ∧
       ∃ t_018 : Int, ∃ t_119 : ByteArray, ∃ t_220 : ByteArray, ∃ t_321 : Int, ∃ t_422 : Option Addr, ∃ t_4l23 : Nat, ∃ t_4c24 : Nat, ∃ t25 : Int, v17 = (.tuple #[(.agg #[(.int .i64 t_018), (.string t_119), (.string t_220), (.int .i64 t_321), (.slice t_422 t_4l23 t_4c24)]), (.int .i64 t25)]) ∧
       ∀ b26 : Nat, w17.heap.size ≤ b26 → ∀ w27, Ext w17 w27 →
       FnP Tryd.prog F_ask_Holds #[(.agg #[(.int .i64 x_0), (.string x_1), (.string x_2), (.int .i64 x_3), (.slice x_4 x_4l x_4c)]), (.agg #[(.string h_v_0), (.slice h_v_1 h_v_1l h_v_1c), (.int .i64 h_v_2), (.int .i64 h_v_3), (.int .i64 h_v_4), (.int .i64 h_v_5), (.int .i64 h_v_6), (.int .i64 h_v_7)])] w27 fun v28 w28 =>
        Ext w27 w28 ∧
        ∃ t29 : Bool, ∃ t30 : Int, v28 = (.tuple #[(.bool t29), (.int .i64 t30)]) ∧
        ∀ w31, Ext w17 w31 →
        FnP Tryd.prog F_ask_Holds #[(.agg #[(.int .i64 t_07), (.string t_18), (.string t_29), (.int .i64 t_310), (.slice t_411 t_4l12 t_4c13)]), (.agg #[(.string h_v_0), (.slice h_v_1 h_v_1l h_v_1c), (.int .i64 h_v_2), (.int .i64 h_v_3), (.int .i64 h_v_4), (.int .i64 h_v_5), (.int .i64 h_v_6), (.int .i64 h_v_7)])] w31 fun v32 w32 =>
         Ext w31 w32 ∧
         ∃ t33 : Bool, ∃ t34 : Int, v32 = (.tuple #[(.bool t33), (.int .i64 t34)]) ∧
         ∀ w35, ExtB [] [b0, b1, b15, b26] w17 w35 →
         Run Tryd.prog (.buildSlice 59 3 [(0, (.int .i64 t25)), (1, (.int .i64 t30)), (2, (.int .i64 t34))]) w35 fun v36 w36 =>
          Ext w35 w36 ∧
          ∃ t37 : Option Addr, ∃ tl38 : Nat, ∃ tc39 : Nat, v36 = (.slice t37 tl38 tc39) ∧
          ∀ w40, Ext w36 w40 →
          FnP Tryd.prog F_shiftbellkeep_good #[(.slice t37 tl38 tc39)] w40 fun v41 w41 =>
           Ext w40 w41 ∧
           ∃ t42 : Bool, v41 = (.bool t42) ∧
           ((t42 = true) →
            ∀ w43, Ext w36 w43 →
            FnP Tryd.prog F_shiftbellkeep_plain #[(.agg #[(.int .i64 t_07), (.string t_18), (.string t_29), (.int .i64 t_310), (.slice t_411 t_4l12 t_4c13)])] w43 fun v44 w44 =>
             Ext w43 w44 ∧
             ∃ t45 : Bool, v44 = (.bool t45) ∧
             ((t45 = true) →
              ∀ w46, Ext w36 w46 →
              FnP Tryd.prog F_shiftbellkeep_sameAsk #[(.agg #[(.int .i64 t_07), (.string t_18), (.string t_29), (.int .i64 t_310), (.slice t_411 t_4l12 t_4c13)]), (.agg #[(.int .i64 t_018), (.string t_119), (.string t_220), (.int .i64 t_321), (.slice t_422 t_4l23 t_4c24)])] w46 fun v47 w47 =>
               Ext w46 w47 ∧
               ∃ t48 : Bool, v47 = (.bool t48) ∧
               ∀ w49, Ext w36 w49 →
               Q (.bool (t48 && ((t29 && t33) || ((!t29) && (!t33))))) w49) ∧
             ((t45 = false) →
              ∀ w46, Ext w36 w46 →
              Q (.bool false) w46)) ∧
           ((t42 = false) →
            ∀ w43, Ext w36 w43 →
            Q (.bool false) w43)))

theorem ok_shiftbellkeep_AskNorm (x_0 : Int) (x_1 : ByteArray) (x_2 : ByteArray) (x_3 : Int) (x_4 : Option Addr) (x_4l : Nat) (x_4c : Nat) (h_v_0 : ByteArray) (h_v_1 : Option Addr) (h_v_1l : Nat) (h_v_1c : Nat) (h_v_2 : Int) (h_v_3 : Int) (h_v_4 : Int) (h_v_5 : Int) (h_v_6 : Int) (h_v_7 : Int) (w : World) (Q : Value → World → Prop) (h : wp_shiftbellkeep_AskNorm x_0 x_1 x_2 x_3 x_4 x_4l x_4c h_v_0 h_v_1 h_v_1l h_v_1c h_v_2 h_v_3 h_v_4 h_v_5 h_v_6 h_v_7 w Q) : FnP Tryd.prog F_shiftbellkeep_AskNorm #[(.agg #[(.int .i64 x_0), (.string x_1), (.string x_2), (.int .i64 x_3), (.slice x_4 x_4l x_4c)]), (.agg #[(.string h_v_0), (.slice h_v_1 h_v_1l h_v_1c), (.int .i64 h_v_2), (.int .i64 h_v_3), (.int .i64 h_v_4), (.int .i64 h_v_5), (.int .i64 h_v_6), (.int .i64 h_v_7)])] w Q := by
  have e_ : wp_shiftbellkeep_AskNorm x_0 x_1 x_2 x_3 x_4 x_4l x_4c h_v_0 h_v_1 h_v_1l h_v_1c h_v_2 h_v_3 h_v_4 h_v_5 h_v_6 h_v_7 w Q = Runs Tryd.prog Q ({ N := 61, wrap := [], pub := [], muts := [], joins := [] } : Cfg) Tryd.f7 (Tryd.f7.body.getD .skip) [.agg [.int .i64 x_0, .str x_1, .str x_2, .int .i64 x_3, .slc x_4 x_4l x_4c], .agg [.str h_v_0, .slc h_v_1 h_v_1l h_v_1c, .int .i64 h_v_2, .int .i64 h_v_3, .int .i64 h_v_4, .int .i64 h_v_5, .int .i64 h_v_6, .int .i64 h_v_7]] w := by kernel_rfl
  rw [e_] at h
  exact runs_fn h Tryd.func7 (by kernel_rfl) (fun args w => Tryd.call7 args w) (by kernel_rfl) (by kernel_rfl) rfl rfl

theorem open_shiftbellkeep_AskNorm (W : World) (R : Array Value → Prop) (h : ∀ x_0 : Int, InR .i64 x_0 → ∀ x_1 : ByteArray, x_1.size ≤ 9223372036854775807 → ∀ x_2 : ByteArray, x_2.size ≤ 9223372036854775807 → ∀ x_3 : Int, InR .i64 x_3 → ∀ x_4 : Option Addr, ∀ x_4l : Nat, ∀ x_4c : Nat, SlcArg Tryd.prog W 32 x_4 x_4l x_4c → ∀ h_v_0 : ByteArray, h_v_0.size ≤ 9223372036854775807 → ∀ h_v_1 : Option Addr, ∀ h_v_1l : Nat, ∀ h_v_1c : Nat, SlcArg Tryd.prog W 67 h_v_1 h_v_1l h_v_1c → ∀ h_v_2 : Int, InR .i64 h_v_2 → ∀ h_v_3 : Int, InR .i64 h_v_3 → ∀ h_v_4 : Int, InR .i64 h_v_4 → ∀ h_v_5 : Int, InR .i64 h_v_5 → ∀ h_v_6 : Int, InR .i64 h_v_6 → ∀ h_v_7 : Int, InR .i64 h_v_7 → R #[(.agg #[(.int .i64 x_0), (.string x_1), (.string x_2), (.int .i64 x_3), (.slice x_4 x_4l x_4c)]), (.agg #[(.string h_v_0), (.slice h_v_1 h_v_1l h_v_1c), (.int .i64 h_v_2), (.int .i64 h_v_3), (.int .i64 h_v_4), (.int .i64 h_v_5), (.int .i64 h_v_6), (.int .i64 h_v_7)])]) (args : Array Value) (hg : GoodAll Tryd.prog W Tryd.f7.params.toList args.toList) : R args := by
  have e_ : (ArgsAll Tryd.prog W Tryd.f7.params.toList fun l => R l.toArray) = (∀ x_0 : Int, InR .i64 x_0 → ∀ x_1 : ByteArray, x_1.size ≤ 9223372036854775807 → ∀ x_2 : ByteArray, x_2.size ≤ 9223372036854775807 → ∀ x_3 : Int, InR .i64 x_3 → ∀ x_4 : Option Addr, ∀ x_4l : Nat, ∀ x_4c : Nat, SlcArg Tryd.prog W 32 x_4 x_4l x_4c → ∀ h_v_0 : ByteArray, h_v_0.size ≤ 9223372036854775807 → ∀ h_v_1 : Option Addr, ∀ h_v_1l : Nat, ∀ h_v_1c : Nat, SlcArg Tryd.prog W 67 h_v_1 h_v_1l h_v_1c → ∀ h_v_2 : Int, InR .i64 h_v_2 → ∀ h_v_3 : Int, InR .i64 h_v_3 → ∀ h_v_4 : Int, InR .i64 h_v_4 → ∀ h_v_5 : Int, InR .i64 h_v_5 → ∀ h_v_6 : Int, InR .i64 h_v_6 → ∀ h_v_7 : Int, InR .i64 h_v_7 → R #[(.agg #[(.int .i64 x_0), (.string x_1), (.string x_2), (.int .i64 x_3), (.slice x_4 x_4l x_4c)]), (.agg #[(.string h_v_0), (.slice h_v_1 h_v_1l h_v_1c), (.int .i64 h_v_2), (.int .i64 h_v_3), (.int .i64 h_v_4), (.int .i64 h_v_5), (.int .i64 h_v_6), (.int .i64 h_v_7)])]) := by kernel_rfl
  exact args_open (by rw [e_]; exact h) args hg
-- wit 7 #[(.agg #[(.int .i64 0), (.string (⟨#[]⟩ : ByteArray)), (.string (⟨#[]⟩ : ByteArray)), (.int .i64 0), (.slice none 0 0)]), (.agg #[(.string (⟨#[]⟩ : ByteArray)), (.slice none 0 0), (.int .i64 0), (.int .i64 0), (.int .i64 0), (.int .i64 0), (.int .i64 0), (.int .i64 0)])]

end Go.Proofs.YtdhhggfplacenaaDoor
