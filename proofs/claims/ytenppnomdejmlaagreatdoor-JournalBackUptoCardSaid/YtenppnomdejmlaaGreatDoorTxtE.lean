/- The texts of this seat's functions: what each computes, as its symbolic run says it. -/
import Derived.Test.YtenppnomdejmlaaGreatDoorRows
import Derived.Test.YtenppnomdejmlaaGreatDoorSxD
import Derived.Test.YtenppnomdejmlaaGreatDoorSxN
import Derived.Test.YtenppnomdejmlaaGreatDoorTxt
import Derived.Test.YtenppnomdejmlaaGreatDoorTxtD
set_option linter.unusedVariables false
set_option linter.unusedSimpArgs false
set_option maxRecDepth 100000
namespace Go.Proofs.YtenppnomdejmlaaGreatDoor
open Go.Sx Go.RowKit

abbrev F_ask_Read : FuncId := 30
abbrev F_ask_reader_ask : FuncId := 49
abbrev F_ask_reader_two : FuncId := 68

/-- (*shiftbell/ask.reader).ask -/
def wp_ask_reader_ask (r : Option Addr) (w : World) (Q : Value → World → Prop) : Prop :=
  ∀ b0 : Nat, w.heap.size ≤ b0 → r ≠ none ∧
  r ≠ none ∧
  ∃ t1 : Int, cell w (pAdd r 1) 0 = some (.int .i64 t1) ∧
  ((t1 = 0) →
   ∀ w2, Ext w w2 →
   Q (.tuple #[(.agg #[(.int .i64 0), (.string (⟨#[]⟩ : ByteArray)), (.string (⟨#[]⟩ : ByteArray)), (.int .i64 0), (.slice none 0 0)]), (.bool false)]) w2) ∧
  ((t1 ≠ 0) →
   r ≠ none ∧
   r ≠ none ∧
   ∃ t2 : Int, cell w (pAdd r 1) 0 = some (.int .i64 t2) ∧
   InR .i64 (t2 - 1) ∧
   r ≠ none ∧
   r ≠ none ∧
   Store w (pAdd r 1) [(.int .i64 (t2 - 1))] [b0] fun w3 =>
    ∀ w4, ExtB [] [b0] w3 w4 →
    FnP Tryz.prog F_ask_reader_take #[(.pointer r), (.int .u8 63)] w4 fun v5 w5 =>
     Kept [b0] w4 w5 ∧
     ∃ t6 : Bool, v5 = (.bool t6) ∧
     (((t6 = true) →
      ∀ w7, ExtB [] [b0] w5 w7 →
      FnP Tryz.prog F_ask_reader_word #[(.pointer r)] w7 fun v8 w8 =>
       Kept [b0] w7 w8 ∧
       ∃ t9 : ByteArray, v8 = (.string t9) ∧
       ∀ w10, ExtB [b0] [] w8 w10 →
       Q (.tuple #[(.agg #[(.int .i64 1), (.string t9), (.string (⟨#[]⟩ : ByteArray)), (.int .i64 0), (.slice none 0 0)]), (.bool true)]) w10)) ∧
     ((t6 = false) →
      ∀ w7, ExtB [] [b0] w5 w7 →
      FnP Tryz.prog F_ask_reader_take #[(.pointer r), (.int .u8 33)] w7 fun v8 w8 =>
       Kept [b0] w7 w8 ∧
       ∃ t9 : Bool, v8 = (.bool t9) ∧
       (((t9 = true) →
        ∀ w10, ExtB [] [b0] w8 w10 →
        FnP Tryz.prog F_ask_reader_ask #[(.pointer r)] w10 fun v11 w11 =>
         Kept [b0] w10 w11 ∧
         ∃ t_012 : Int, ∃ t_113 : ByteArray, ∃ t_214 : ByteArray, ∃ t_315 : Int, ∃ t_416 : Option Addr, ∃ t_4l17 : Nat, ∃ t_4c18 : Nat, ∃ t19 : Bool, v11 = (.tuple #[(.agg #[(.int .i64 t_012), (.string t_113), (.string t_214), (.int .i64 t_315), (.slice t_416 t_4l17 t_4c18)]), (.bool t19)]) ∧
         ∀ b20 : Nat, w11.heap.size ≤ b20 → ∀ w21, ExtB [] [b0, b20] w11 w21 →
         Run Tryz.prog (.buildSlice 24 1 [(0, (.agg #[(.int .i64 t_012), (.string t_113), (.string t_214), (.int .i64 t_315), (.slice t_416 t_4l17 t_4c18)]))]) w21 fun v22 w22 =>
          Ext w21 w22 ∧
          ∃ t23 : Option Addr, ∃ tl24 : Nat, ∃ tc25 : Nat, v22 = (.slice t23 tl24 tc25) ∧
          ∀ w26, ExtB [b0] [] w22 w26 →
          Q (.tuple #[(.agg #[(.int .i64 4), (.string (⟨#[]⟩ : ByteArray)), (.string (⟨#[]⟩ : ByteArray)), (.int .i64 0), (.slice t23 tl24 tc25)]), (.bool t19)]) w26)) ∧
       ((t9 = false) →
        ∀ w10, ExtB [] [b0] w8 w10 →
        FnP Tryz.prog F_ask_reader_take #[(.pointer r), (.int .u8 40)] w10 fun v11 w11 =>
         Kept [b0] w10 w11 ∧
         ∃ t12 : Bool, v11 = (.bool t12) ∧
         (((t12 = true) →
          ∀ w13, ExtB [] [b0] w11 w13 →
          FnP Tryz.prog F_ask_reader_two #[(.pointer r)] w13 fun v14 w14 =>
           Kept [b0] w13 w14 ∧
           ∃ t_015 : Int, ∃ t_116 : ByteArray, ∃ t_217 : ByteArray, ∃ t_318 : Int, ∃ t_419 : Option Addr, ∃ t_4l20 : Nat, ∃ t_4c21 : Nat, ∃ t22 : Bool, v14 = (.tuple #[(.agg #[(.int .i64 t_015), (.string t_116), (.string t_217), (.int .i64 t_318), (.slice t_419 t_4l20 t_4c21)]), (.bool t22)]) ∧
           ∀ w23, ExtB [b0] [] w14 w23 →
           Q (.tuple #[(.agg #[(.int .i64 t_015), (.string t_116), (.string t_217), (.int .i64 t_318), (.slice t_419 t_4l20 t_4c21)]), (.bool t22)]) w23)) ∧
         ((t12 = false) →
          ∀ w13, ExtB [] [b0] w11 w13 →
          FnP Tryz.prog F_ask_reader_word #[(.pointer r)] w13 fun v14 w14 =>
           Kept [b0] w13 w14 ∧
           ∃ t15 : ByteArray, v14 = (.string t15) ∧
           ∀ w16, ExtB [] [b0] w14 w16 →
           FnP Tryz.prog F_ask_reader_take #[(.pointer r), (.int .u8 62)] w16 fun v17 w17 =>
            Kept [b0] w16 w17 ∧
            ∃ t18 : Bool, v17 = (.bool t18) ∧
            (((t18 = true) →
             ∀ w19, ExtB [] [b0] w17 w19 →
             FnP Tryz.prog F_ask_reader_take #[(.pointer r), (.int .u8 61)] w19 fun v20 w20 =>
              Kept [b0] w19 w20 ∧
              ∃ t21 : Bool, v20 = (.bool t21) ∧
              ((t21 = false) →
               ∀ w22, ExtB [b0] [] w20 w22 →
               Q (.tuple #[(.agg #[(.int .i64 0), (.string (⟨#[]⟩ : ByteArray)), (.string (⟨#[]⟩ : ByteArray)), (.int .i64 0), (.slice none 0 0)]), (.bool false)]) w22) ∧
              ((t21 = true) →
               ∀ w22, ExtB [] [b0] w20 w22 →
               FnP Tryz.prog F_ask_reader_word #[(.pointer r)] w22 fun v23 w23 =>
                Kept [b0] w22 w23 ∧
                ∃ t24 : ByteArray, v23 = (.string t24) ∧
                ∀ w25, ExtB [] [b0] w23 w25 →
                FnP Tryz.prog F_strconv_ParseInt #[(.string t24), (.int .i64 10), (.int .i64 64)] w25 fun v26 w26 =>
                 Ext w25 w26 ∧
                 ∃ t27 : Int, ∃ t28 : Value, v26 = (.tuple #[(.int .i64 t27), t28]) ∧
                 ∃ (J29 : Bool → Int → ByteArray → ByteArray → Int → Option Addr → Nat → Nat → World → Prop), ((∀ w37, Ext w26 w37 →
                  Run Tryz.prog (.eq .eql 67 false true t28 .nilIface) w37 fun v38 w38 =>
                   Ext w37 w38 ∧
                   ∃ t39 : Bool, v38 = (.bool t39) ∧
                   J29 t39 3 t15 (⟨#[]⟩ : ByteArray) t27 none 0 0 w26) ∧
                  ∀ w37, ExtB [b0] [] w26 w37 →
                  Run Tryz.prog (.eq .eql 67 false true t28 .nilIface) w37 fun v38 w38 =>
                   Ext w37 w38 ∧
                   ∃ t39 : Bool, v38 = (.bool t39) ∧
                   J29 t39 3 t15 (⟨#[]⟩ : ByteArray) t27 none 0 0 w26) ∧
                 ∀ (ok_ask_Read : Bool) (c31 : Int) (c32 : ByteArray) (c33 : ByteArray) (c34 : Int) (c35 : Option Addr) (cl35 : Nat) (cc35 : Nat) (w36 : World), J29 ok_ask_Read c31 c32 c33 c34 c35 cl35 cc35 w36 →
                  ∀ w37, ExtB [b0] [] w36 w37 →
                  Q (.tuple #[(.agg #[(.int .i64 c31), (.string c32), (.string c33), (.int .i64 c34), (.slice c35 cl35 cc35)]), (.bool ok_ask_Read)]) w37))) ∧
            ((t18 = false) →
             ∀ w19, ExtB [] [b0] w17 w19 →
             FnP Tryz.prog F_ask_reader_take #[(.pointer r), (.int .u8 61)] w19 fun v20 w20 =>
              Kept [b0] w19 w20 ∧
              ∃ t21 : Bool, v20 = (.bool t21) ∧
              ((t21 = false) →
               ∀ w22, ExtB [b0] [] w20 w22 →
               Q (.tuple #[(.agg #[(.int .i64 0), (.string (⟨#[]⟩ : ByteArray)), (.string (⟨#[]⟩ : ByteArray)), (.int .i64 0), (.slice none 0 0)]), (.bool false)]) w22) ∧
              ((t21 = true) →
               ∀ w22, ExtB [] [b0] w20 w22 →
               FnP Tryz.prog F_ask_reader_word #[(.pointer r)] w22 fun v23 w23 =>
                Kept [b0] w22 w23 ∧
                ∃ t24 : ByteArray, v23 = (.string t24) ∧
                ∀ w25, ExtB [b0] [] w23 w25 →
                Q (.tuple #[(.agg #[(.int .i64 2), (.string t15), (.string t24), (.int .i64 0), (.slice none 0 0)]), (.bool true)]) w25))))))

theorem ok_ask_reader_ask (r : Option Addr) (w : World) (Q : Value → World → Prop) (h : wp_ask_reader_ask r w Q) : FnP Tryz.prog F_ask_reader_ask #[(.pointer r)] w Q := by
  have e_ : wp_ask_reader_ask r w Q = Runs Tryz.prog Q ({ N := 74, wrap := [], pub := [], muts := [66, 67, 49, 68], joins := [] } : Cfg) Tryz.f49 (Tryz.f49.body.getD .skip) [.sc (.ptr r)] w := by kernel_rfl
  rw [e_] at h
  exact runs_fn h Tryz.func49 (by kernel_rfl) (fun args w => Tryz.call49 args w) (by kernel_rfl) (by kernel_rfl) rfl rfl

/-- (*shiftbell/ask.reader).two -/
def wp_ask_reader_two (r : Option Addr) (w : World) (Q : Value → World → Prop) : Prop :=
  ∀ b0 : Nat, w.heap.size ≤ b0 → ∀ w1, ExtB [] [b0] w w1 →
  FnP Tryz.prog F_ask_reader_ask #[(.pointer r)] w1 fun v2 w2 =>
   Kept [b0] w1 w2 ∧
   ∃ t_03 : Int, ∃ t_14 : ByteArray, ∃ t_25 : ByteArray, ∃ t_36 : Int, ∃ t_47 : Option Addr, ∃ t_4l8 : Nat, ∃ t_4c9 : Nat, ∃ t10 : Bool, v2 = (.tuple #[(.agg #[(.int .i64 t_03), (.string t_14), (.string t_25), (.int .i64 t_36), (.slice t_47 t_4l8 t_4c9)]), (.bool t10)]) ∧
   ∀ b11 : Nat, w2.heap.size ≤ b11 → ((t10 = false) →
    ∀ w12, ExtB [b0] [] w2 w12 →
    Q (.tuple #[(.agg #[(.int .i64 0), (.string (⟨#[]⟩ : ByteArray)), (.string (⟨#[]⟩ : ByteArray)), (.int .i64 0), (.slice none 0 0)]), (.bool false)]) w12) ∧
   ((t10 = true) →
    ∀ w12, ExtB [] [b0, b11] w2 w12 →
    FnP Tryz.prog F_ask_reader_take #[(.pointer r), (.int .u8 124)] w12 fun v13 w13 =>
     Kept [b0, b11] w12 w13 ∧
     ∃ t14 : Bool, v13 = (.bool t14) ∧
     (((t14 = true) →
      ∀ w15, ExtB [] [b0, b11] w13 w15 →
      FnP Tryz.prog F_ask_reader_ask #[(.pointer r)] w15 fun v16 w16 =>
       Kept [b0, b11] w15 w16 ∧
       ∃ t_017 : Int, ∃ t_118 : ByteArray, ∃ t_219 : ByteArray, ∃ t_320 : Int, ∃ t_421 : Option Addr, ∃ t_4l22 : Nat, ∃ t_4c23 : Nat, ∃ t24 : Bool, v16 = (.tuple #[(.agg #[(.int .i64 t_017), (.string t_118), (.string t_219), (.int .i64 t_320), (.slice t_421 t_4l22 t_4c23)]), (.bool t24)]) ∧
       ∀ b25 : Nat, w16.heap.size ≤ b25 → ∃ (J26 : Bool → Int → ByteArray → ByteArray → Int → Option Addr → Nat → Nat → World → Prop), ((((∀ w34, ExtB [] [b0, b11, b25] w16 w34 →
        Run Tryz.prog (.buildSlice 24 2 [(0, (.agg #[(.int .i64 t_03), (.string t_14), (.string t_25), (.int .i64 t_36), (.slice t_47 t_4l8 t_4c9)])), (1, (.agg #[(.int .i64 t_017), (.string t_118), (.string t_219), (.int .i64 t_320), (.slice t_421 t_4l22 t_4c23)]))]) w34 fun v35 w35 =>
         Ext w34 w35 ∧
         ∃ t36 : Option Addr, ∃ tl37 : Nat, ∃ tc38 : Nat, v35 = (.slice t36 tl37 tc38) ∧
         (((t24 = true) →
          ∀ w39, ExtB [] [b0, b11, b25] w35 w39 →
          FnP Tryz.prog F_ask_reader_take #[(.pointer r), (.int .u8 41)] w39 fun v40 w40 =>
           Kept [b0, b11, b25] w39 w40 ∧
           ∃ t41 : Bool, v40 = (.bool t41) ∧
           J26 t41 6 (⟨#[]⟩ : ByteArray) (⟨#[]⟩ : ByteArray) 0 t36 tl37 tc38 w40)) ∧
         ((t24 = false) →
          J26 false 6 (⟨#[]⟩ : ByteArray) (⟨#[]⟩ : ByteArray) 0 t36 tl37 tc38 w35)) ∧
        (((t24 = true) →
         ∀ w34, ExtB [] [b0, b11, b25] w16 w34 →
         FnP Tryz.prog F_ask_reader_take #[(.pointer r), (.int .u8 41)] w34 fun v35 w35 =>
          Kept [b0, b11, b25] w34 w35 ∧
          ∃ t36 : Bool, v35 = (.bool t36) ∧
          ∀ w37, ExtB [] [b0, b11, b25] w35 w37 →
          Run Tryz.prog (.buildSlice 24 2 [(0, (.agg #[(.int .i64 t_03), (.string t_14), (.string t_25), (.int .i64 t_36), (.slice t_47 t_4l8 t_4c9)])), (1, (.agg #[(.int .i64 t_017), (.string t_118), (.string t_219), (.int .i64 t_320), (.slice t_421 t_4l22 t_4c23)]))]) w37 fun v38 w38 =>
           Ext w37 w38 ∧
           ∃ t39 : Option Addr, ∃ tl40 : Nat, ∃ tc41 : Nat, v38 = (.slice t39 tl40 tc41) ∧
           J26 t36 6 (⟨#[]⟩ : ByteArray) (⟨#[]⟩ : ByteArray) 0 t39 tl40 tc41 w38)) ∧
        ((t24 = false) →
         ∀ w34, ExtB [] [b0, b11, b25] w16 w34 →
         Run Tryz.prog (.buildSlice 24 2 [(0, (.agg #[(.int .i64 t_03), (.string t_14), (.string t_25), (.int .i64 t_36), (.slice t_47 t_4l8 t_4c9)])), (1, (.agg #[(.int .i64 t_017), (.string t_118), (.string t_219), (.int .i64 t_320), (.slice t_421 t_4l22 t_4c23)]))]) w34 fun v35 w35 =>
          Ext w34 w35 ∧
          ∃ t36 : Option Addr, ∃ tl37 : Nat, ∃ tc38 : Nat, v35 = (.slice t36 tl37 tc38) ∧
          J26 false 6 (⟨#[]⟩ : ByteArray) (⟨#[]⟩ : ByteArray) 0 t36 tl37 tc38 w35)) ∧
        (((t24 = true) →
         ∀ w34, ExtB [] [b0, b11, b25] w16 w34 →
         FnP Tryz.prog F_ask_reader_take #[(.pointer r), (.int .u8 41)] w34 fun v35 w35 =>
          Kept [b0, b11, b25] w34 w35 ∧
          ∃ t36 : Bool, v35 = (.bool t36) ∧
          ∀ w37, ExtB [] [b0, b11, b25] w35 w37 →
          Run Tryz.prog (.buildSlice 24 2 [(0, (.agg #[(.int .i64 t_03), (.string t_14), (.string t_25), (.int .i64 t_36), (.slice t_47 t_4l8 t_4c9)])), (1, (.agg #[(.int .i64 t_017), (.string t_118), (.string t_219), (.int .i64 t_320), (.slice t_421 t_4l22 t_4c23)]))]) w37 fun v38 w38 =>
           Ext w37 w38 ∧
           ∃ t39 : Option Addr, ∃ tl40 : Nat, ∃ tc41 : Nat, v38 = (.slice t39 tl40 tc41) ∧
           J26 t36 6 (⟨#[]⟩ : ByteArray) (⟨#[]⟩ : ByteArray) 0 t39 tl40 tc41 w38)) ∧
        ((t24 = false) →
         ∀ w34, ExtB [] [b0, b11, b25] w16 w34 →
         Run Tryz.prog (.buildSlice 24 2 [(0, (.agg #[(.int .i64 t_03), (.string t_14), (.string t_25), (.int .i64 t_36), (.slice t_47 t_4l8 t_4c9)])), (1, (.agg #[(.int .i64 t_017), (.string t_118), (.string t_219), (.int .i64 t_320), (.slice t_421 t_4l22 t_4c23)]))]) w34 fun v35 w35 =>
          Ext w34 w35 ∧
          ∃ t36 : Option Addr, ∃ tl37 : Nat, ∃ tc38 : Nat, v35 = (.slice t36 tl37 tc38) ∧
          J26 false 6 (⟨#[]⟩ : ByteArray) (⟨#[]⟩ : ByteArray) 0 t36 tl37 tc38 w35)) ∧
        (((∀ w34, ExtB [] [b0, b11, b25] w16 w34 →
        Run Tryz.prog (.buildSlice 24 2 [(0, (.agg #[(.int .i64 t_03), (.string t_14), (.string t_25), (.int .i64 t_36), (.slice t_47 t_4l8 t_4c9)])), (1, (.agg #[(.int .i64 t_017), (.string t_118), (.string t_219), (.int .i64 t_320), (.slice t_421 t_4l22 t_4c23)]))]) w34 fun v35 w35 =>
         Ext w34 w35 ∧
         ∃ t36 : Option Addr, ∃ tl37 : Nat, ∃ tc38 : Nat, v35 = (.slice t36 tl37 tc38) ∧
         (((t24 = true) →
          ∀ w39, ExtB [] [b0, b11, b25] w35 w39 →
          FnP Tryz.prog F_ask_reader_take #[(.pointer r), (.int .u8 41)] w39 fun v40 w40 =>
           Kept [b0, b11, b25] w39 w40 ∧
           ∃ t41 : Bool, v40 = (.bool t41) ∧
           J26 t41 6 (⟨#[]⟩ : ByteArray) (⟨#[]⟩ : ByteArray) 0 t36 tl37 tc38 w40)) ∧
         ((t24 = false) →
          J26 false 6 (⟨#[]⟩ : ByteArray) (⟨#[]⟩ : ByteArray) 0 t36 tl37 tc38 w35)) ∧
        (((t24 = true) →
         ∀ w34, ExtB [] [b0, b11, b25] w16 w34 →
         FnP Tryz.prog F_ask_reader_take #[(.pointer r), (.int .u8 41)] w34 fun v35 w35 =>
          Kept [b0, b11, b25] w34 w35 ∧
          ∃ t36 : Bool, v35 = (.bool t36) ∧
          ∀ w37, ExtB [] [b0, b11, b25] w35 w37 →
          Run Tryz.prog (.buildSlice 24 2 [(0, (.agg #[(.int .i64 t_03), (.string t_14), (.string t_25), (.int .i64 t_36), (.slice t_47 t_4l8 t_4c9)])), (1, (.agg #[(.int .i64 t_017), (.string t_118), (.string t_219), (.int .i64 t_320), (.slice t_421 t_4l22 t_4c23)]))]) w37 fun v38 w38 =>
           Ext w37 w38 ∧
           ∃ t39 : Option Addr, ∃ tl40 : Nat, ∃ tc41 : Nat, v38 = (.slice t39 tl40 tc41) ∧
           J26 t36 6 (⟨#[]⟩ : ByteArray) (⟨#[]⟩ : ByteArray) 0 t39 tl40 tc41 w38)) ∧
        ((t24 = false) →
         ∀ w34, ExtB [] [b0, b11, b25] w16 w34 →
         Run Tryz.prog (.buildSlice 24 2 [(0, (.agg #[(.int .i64 t_03), (.string t_14), (.string t_25), (.int .i64 t_36), (.slice t_47 t_4l8 t_4c9)])), (1, (.agg #[(.int .i64 t_017), (.string t_118), (.string t_219), (.int .i64 t_320), (.slice t_421 t_4l22 t_4c23)]))]) w34 fun v35 w35 =>
          Ext w34 w35 ∧
          ∃ t36 : Option Addr, ∃ tl37 : Nat, ∃ tc38 : Nat, v35 = (.slice t36 tl37 tc38) ∧
          J26 false 6 (⟨#[]⟩ : ByteArray) (⟨#[]⟩ : ByteArray) 0 t36 tl37 tc38 w35)) ∧
        (((t24 = true) →
         ∀ w34, ExtB [] [b0, b11, b25] w16 w34 →
         FnP Tryz.prog F_ask_reader_take #[(.pointer r), (.int .u8 41)] w34 fun v35 w35 =>
          Kept [b0, b11, b25] w34 w35 ∧
          ∃ t36 : Bool, v35 = (.bool t36) ∧
          ∀ w37, ExtB [] [b0, b11, b25] w35 w37 →
          Run Tryz.prog (.buildSlice 24 2 [(0, (.agg #[(.int .i64 t_03), (.string t_14), (.string t_25), (.int .i64 t_36), (.slice t_47 t_4l8 t_4c9)])), (1, (.agg #[(.int .i64 t_017), (.string t_118), (.string t_219), (.int .i64 t_320), (.slice t_421 t_4l22 t_4c23)]))]) w37 fun v38 w38 =>
           Ext w37 w38 ∧
           ∃ t39 : Option Addr, ∃ tl40 : Nat, ∃ tc41 : Nat, v38 = (.slice t39 tl40 tc41) ∧
           J26 t36 6 (⟨#[]⟩ : ByteArray) (⟨#[]⟩ : ByteArray) 0 t39 tl40 tc41 w38)) ∧
        ((t24 = false) →
         ∀ w34, ExtB [] [b0, b11, b25] w16 w34 →
         Run Tryz.prog (.buildSlice 24 2 [(0, (.agg #[(.int .i64 t_03), (.string t_14), (.string t_25), (.int .i64 t_36), (.slice t_47 t_4l8 t_4c9)])), (1, (.agg #[(.int .i64 t_017), (.string t_118), (.string t_219), (.int .i64 t_320), (.slice t_421 t_4l22 t_4c23)]))]) w34 fun v35 w35 =>
          Ext w34 w35 ∧
          ∃ t36 : Option Addr, ∃ tl37 : Nat, ∃ tc38 : Nat, v35 = (.slice t36 tl37 tc38) ∧
          J26 false 6 (⟨#[]⟩ : ByteArray) (⟨#[]⟩ : ByteArray) 0 t36 tl37 tc38 w35)) ∧
        (((t24 = true) →
         ∀ w34, ExtB [] [b0, b11, b25] w16 w34 →
         FnP Tryz.prog F_ask_reader_take #[(.pointer r), (.int .u8 41)] w34 fun v35 w35 =>
          Kept [b0, b11, b25] w34 w35 ∧
          ∃ t36 : Bool, v35 = (.bool t36) ∧
          ∀ w37, ExtB [] [b0, b11, b25] w35 w37 →
          Run Tryz.prog (.buildSlice 24 2 [(0, (.agg #[(.int .i64 t_03), (.string t_14), (.string t_25), (.int .i64 t_36), (.slice t_47 t_4l8 t_4c9)])), (1, (.agg #[(.int .i64 t_017), (.string t_118), (.string t_219), (.int .i64 t_320), (.slice t_421 t_4l22 t_4c23)]))]) w37 fun v38 w38 =>
           Ext w37 w38 ∧
           ∃ t39 : Option Addr, ∃ tl40 : Nat, ∃ tc41 : Nat, v38 = (.slice t39 tl40 tc41) ∧
           J26 t36 6 (⟨#[]⟩ : ByteArray) (⟨#[]⟩ : ByteArray) 0 t39 tl40 tc41 w38)) ∧
        ((t24 = false) →
         ∀ w34, ExtB [] [b0, b11, b25] w16 w34 →
         Run Tryz.prog (.buildSlice 24 2 [(0, (.agg #[(.int .i64 t_03), (.string t_14), (.string t_25), (.int .i64 t_36), (.slice t_47 t_4l8 t_4c9)])), (1, (.agg #[(.int .i64 t_017), (.string t_118), (.string t_219), (.int .i64 t_320), (.slice t_421 t_4l22 t_4c23)]))]) w34 fun v35 w35 =>
          Ext w34 w35 ∧
          ∃ t36 : Option Addr, ∃ tl37 : Nat, ∃ tc38 : Nat, v35 = (.slice t36 tl37 tc38) ∧
          J26 false 6 (⟨#[]⟩ : ByteArray) (⟨#[]⟩ : ByteArray) 0 t36 tl37 tc38 w35)) ∧
       ∀ (ok_strings_Split : Bool) (c28 : Int) (c29 : ByteArray) (c30 : ByteArray) (c31 : Int) (c32 : Option Addr) (cl32 : Nat) (cc32 : Nat) (w33 : World), J26 ok_strings_Split c28 c29 c30 c31 c32 cl32 cc32 w33 →
        ∀ w34, ExtB [b0] [] w33 w34 →
        Q (.tuple #[(.agg #[(.int .i64 c28), (.string c29), (.string c30), (.int .i64 c31), (.slice c32 cl32 cc32)]), (.bool ok_strings_Split)]) w34)) ∧
     ((t14 = false) →
      ∀ w15, ExtB [] [b0, b11] w13 w15 →
      FnP Tryz.prog F_ask_reader_take #[(.pointer r), (.int .u8 38)] w15 fun v16 w16 =>
       Kept [b0, b11] w15 w16 ∧
       ∃ t17 : Bool, v16 = (.bool t17) ∧
       ((t17 = false) →
        ∀ w18, ExtB [b0] [] w16 w18 →
        Q (.tuple #[(.agg #[(.int .i64 0), (.string (⟨#[]⟩ : ByteArray)), (.string (⟨#[]⟩ : ByteArray)), (.int .i64 0), (.slice none 0 0)]), (.bool false)]) w18) ∧
       ((t17 = true) →
        ∀ w18, ExtB [] [b0, b11] w16 w18 →
        FnP Tryz.prog F_ask_reader_ask #[(.pointer r)] w18 fun v19 w19 =>
         Kept [b0, b11] w18 w19 ∧
         ∃ t_020 : Int, ∃ t_121 : ByteArray, ∃ t_222 : ByteArray, ∃ t_323 : Int, ∃ t_424 : Option Addr, ∃ t_4l25 : Nat, ∃ t_4c26 : Nat, ∃ t27 : Bool, v19 = (.tuple #[(.agg #[(.int .i64 t_020), (.string t_121), (.string t_222), (.int .i64 t_323), (.slice t_424 t_4l25 t_4c26)]), (.bool t27)]) ∧
         ∀ b28 : Nat, w19.heap.size ≤ b28 → ∃ (J29 : Bool → Int → ByteArray → ByteArray → Int → Option Addr → Nat → Nat → World → Prop), ((((∀ w37, ExtB [] [b0, b11, b28] w19 w37 →
          Run Tryz.prog (.buildSlice 24 2 [(0, (.agg #[(.int .i64 t_03), (.string t_14), (.string t_25), (.int .i64 t_36), (.slice t_47 t_4l8 t_4c9)])), (1, (.agg #[(.int .i64 t_020), (.string t_121), (.string t_222), (.int .i64 t_323), (.slice t_424 t_4l25 t_4c26)]))]) w37 fun v38 w38 =>
           Ext w37 w38 ∧
           ∃ t39 : Option Addr, ∃ tl40 : Nat, ∃ tc41 : Nat, v38 = (.slice t39 tl40 tc41) ∧
           (((t27 = true) →
            ∀ w42, ExtB [] [b0, b11, b28] w38 w42 →
            FnP Tryz.prog F_ask_reader_take #[(.pointer r), (.int .u8 41)] w42 fun v43 w43 =>
             Kept [b0, b11, b28] w42 w43 ∧
             ∃ t44 : Bool, v43 = (.bool t44) ∧
             J29 t44 5 (⟨#[]⟩ : ByteArray) (⟨#[]⟩ : ByteArray) 0 t39 tl40 tc41 w43)) ∧
           ((t27 = false) →
            J29 false 5 (⟨#[]⟩ : ByteArray) (⟨#[]⟩ : ByteArray) 0 t39 tl40 tc41 w38)) ∧
          (((t27 = true) →
           ∀ w37, ExtB [] [b0, b11, b28] w19 w37 →
           FnP Tryz.prog F_ask_reader_take #[(.pointer r), (.int .u8 41)] w37 fun v38 w38 =>
            Kept [b0, b11, b28] w37 w38 ∧
            ∃ t39 : Bool, v38 = (.bool t39) ∧
            ∀ w40, ExtB [] [b0, b11, b28] w38 w40 →
            Run Tryz.prog (.buildSlice 24 2 [(0, (.agg #[(.int .i64 t_03), (.string t_14), (.string t_25), (.int .i64 t_36), (.slice t_47 t_4l8 t_4c9)])), (1, (.agg #[(.int .i64 t_020), (.string t_121), (.string t_222), (.int .i64 t_323), (.slice t_424 t_4l25 t_4c26)]))]) w40 fun v41 w41 =>
             Ext w40 w41 ∧
             ∃ t42 : Option Addr, ∃ tl43 : Nat, ∃ tc44 : Nat, v41 = (.slice t42 tl43 tc44) ∧
             J29 t39 5 (⟨#[]⟩ : ByteArray) (⟨#[]⟩ : ByteArray) 0 t42 tl43 tc44 w41)) ∧
          ((t27 = false) →
           ∀ w37, ExtB [] [b0, b11, b28] w19 w37 →
           Run Tryz.prog (.buildSlice 24 2 [(0, (.agg #[(.int .i64 t_03), (.string t_14), (.string t_25), (.int .i64 t_36), (.slice t_47 t_4l8 t_4c9)])), (1, (.agg #[(.int .i64 t_020), (.string t_121), (.string t_222), (.int .i64 t_323), (.slice t_424 t_4l25 t_4c26)]))]) w37 fun v38 w38 =>
            Ext w37 w38 ∧
            ∃ t39 : Option Addr, ∃ tl40 : Nat, ∃ tc41 : Nat, v38 = (.slice t39 tl40 tc41) ∧
            J29 false 5 (⟨#[]⟩ : ByteArray) (⟨#[]⟩ : ByteArray) 0 t39 tl40 tc41 w38)) ∧
          (((t27 = true) →
           ∀ w37, ExtB [] [b0, b11, b28] w19 w37 →
           FnP Tryz.prog F_ask_reader_take #[(.pointer r), (.int .u8 41)] w37 fun v38 w38 =>
            Kept [b0, b11, b28] w37 w38 ∧
            ∃ t39 : Bool, v38 = (.bool t39) ∧
            ∀ w40, ExtB [] [b0, b11, b28] w38 w40 →
            Run Tryz.prog (.buildSlice 24 2 [(0, (.agg #[(.int .i64 t_03), (.string t_14), (.string t_25), (.int .i64 t_36), (.slice t_47 t_4l8 t_4c9)])), (1, (.agg #[(.int .i64 t_020), (.string t_121), (.string t_222), (.int .i64 t_323), (.slice t_424 t_4l25 t_4c26)]))]) w40 fun v41 w41 =>
             Ext w40 w41 ∧
             ∃ t42 : Option Addr, ∃ tl43 : Nat, ∃ tc44 : Nat, v41 = (.slice t42 tl43 tc44) ∧
             J29 t39 5 (⟨#[]⟩ : ByteArray) (⟨#[]⟩ : ByteArray) 0 t42 tl43 tc44 w41)) ∧
          ((t27 = false) →
           ∀ w37, ExtB [] [b0, b11, b28] w19 w37 →
           Run Tryz.prog (.buildSlice 24 2 [(0, (.agg #[(.int .i64 t_03), (.string t_14), (.string t_25), (.int .i64 t_36), (.slice t_47 t_4l8 t_4c9)])), (1, (.agg #[(.int .i64 t_020), (.string t_121), (.string t_222), (.int .i64 t_323), (.slice t_424 t_4l25 t_4c26)]))]) w37 fun v38 w38 =>
            Ext w37 w38 ∧
            ∃ t39 : Option Addr, ∃ tl40 : Nat, ∃ tc41 : Nat, v38 = (.slice t39 tl40 tc41) ∧
            J29 false 5 (⟨#[]⟩ : ByteArray) (⟨#[]⟩ : ByteArray) 0 t39 tl40 tc41 w38)) ∧
          (((∀ w37, ExtB [] [b0, b11, b28] w19 w37 →
          Run Tryz.prog (.buildSlice 24 2 [(0, (.agg #[(.int .i64 t_03), (.string t_14), (.string t_25), (.int .i64 t_36), (.slice t_47 t_4l8 t_4c9)])), (1, (.agg #[(.int .i64 t_020), (.string t_121), (.string t_222), (.int .i64 t_323), (.slice t_424 t_4l25 t_4c26)]))]) w37 fun v38 w38 =>
           Ext w37 w38 ∧
           ∃ t39 : Option Addr, ∃ tl40 : Nat, ∃ tc41 : Nat, v38 = (.slice t39 tl40 tc41) ∧
           (((t27 = true) →
            ∀ w42, ExtB [] [b0, b11, b28] w38 w42 →
            FnP Tryz.prog F_ask_reader_take #[(.pointer r), (.int .u8 41)] w42 fun v43 w43 =>
             Kept [b0, b11, b28] w42 w43 ∧
             ∃ t44 : Bool, v43 = (.bool t44) ∧
             J29 t44 5 (⟨#[]⟩ : ByteArray) (⟨#[]⟩ : ByteArray) 0 t39 tl40 tc41 w43)) ∧
           ((t27 = false) →
            J29 false 5 (⟨#[]⟩ : ByteArray) (⟨#[]⟩ : ByteArray) 0 t39 tl40 tc41 w38)) ∧
          (((t27 = true) →
           ∀ w37, ExtB [] [b0, b11, b28] w19 w37 →
           FnP Tryz.prog F_ask_reader_take #[(.pointer r), (.int .u8 41)] w37 fun v38 w38 =>
            Kept [b0, b11, b28] w37 w38 ∧
            ∃ t39 : Bool, v38 = (.bool t39) ∧
            ∀ w40, ExtB [] [b0, b11, b28] w38 w40 →
            Run Tryz.prog (.buildSlice 24 2 [(0, (.agg #[(.int .i64 t_03), (.string t_14), (.string t_25), (.int .i64 t_36), (.slice t_47 t_4l8 t_4c9)])), (1, (.agg #[(.int .i64 t_020), (.string t_121), (.string t_222), (.int .i64 t_323), (.slice t_424 t_4l25 t_4c26)]))]) w40 fun v41 w41 =>
             Ext w40 w41 ∧
             ∃ t42 : Option Addr, ∃ tl43 : Nat, ∃ tc44 : Nat, v41 = (.slice t42 tl43 tc44) ∧
             J29 t39 5 (⟨#[]⟩ : ByteArray) (⟨#[]⟩ : ByteArray) 0 t42 tl43 tc44 w41)) ∧
          ((t27 = false) →
           ∀ w37, ExtB [] [b0, b11, b28] w19 w37 →
           Run Tryz.prog (.buildSlice 24 2 [(0, (.agg #[(.int .i64 t_03), (.string t_14), (.string t_25), (.int .i64 t_36), (.slice t_47 t_4l8 t_4c9)])), (1, (.agg #[(.int .i64 t_020), (.string t_121), (.string t_222), (.int .i64 t_323), (.slice t_424 t_4l25 t_4c26)]))]) w37 fun v38 w38 =>
            Ext w37 w38 ∧
            ∃ t39 : Option Addr, ∃ tl40 : Nat, ∃ tc41 : Nat, v38 = (.slice t39 tl40 tc41) ∧
            J29 false 5 (⟨#[]⟩ : ByteArray) (⟨#[]⟩ : ByteArray) 0 t39 tl40 tc41 w38)) ∧
          (((t27 = true) →
           ∀ w37, ExtB [] [b0, b11, b28] w19 w37 →
           FnP Tryz.prog F_ask_reader_take #[(.pointer r), (.int .u8 41)] w37 fun v38 w38 =>
            Kept [b0, b11, b28] w37 w38 ∧
            ∃ t39 : Bool, v38 = (.bool t39) ∧
            ∀ w40, ExtB [] [b0, b11, b28] w38 w40 →
            Run Tryz.prog (.buildSlice 24 2 [(0, (.agg #[(.int .i64 t_03), (.string t_14), (.string t_25), (.int .i64 t_36), (.slice t_47 t_4l8 t_4c9)])), (1, (.agg #[(.int .i64 t_020), (.string t_121), (.string t_222), (.int .i64 t_323), (.slice t_424 t_4l25 t_4c26)]))]) w40 fun v41 w41 =>
             Ext w40 w41 ∧
             ∃ t42 : Option Addr, ∃ tl43 : Nat, ∃ tc44 : Nat, v41 = (.slice t42 tl43 tc44) ∧
             J29 t39 5 (⟨#[]⟩ : ByteArray) (⟨#[]⟩ : ByteArray) 0 t42 tl43 tc44 w41)) ∧
          ((t27 = false) →
           ∀ w37, ExtB [] [b0, b11, b28] w19 w37 →
           Run Tryz.prog (.buildSlice 24 2 [(0, (.agg #[(.int .i64 t_03), (.string t_14), (.string t_25), (.int .i64 t_36), (.slice t_47 t_4l8 t_4c9)])), (1, (.agg #[(.int .i64 t_020), (.string t_121), (.string t_222), (.int .i64 t_323), (.slice t_424 t_4l25 t_4c26)]))]) w37 fun v38 w38 =>
            Ext w37 w38 ∧
            ∃ t39 : Option Addr, ∃ tl40 : Nat, ∃ tc41 : Nat, v38 = (.slice t39 tl40 tc41) ∧
            J29 false 5 (⟨#[]⟩ : ByteArray) (⟨#[]⟩ : ByteArray) 0 t39 tl40 tc41 w38)) ∧
          (((t27 = true) →
           ∀ w37, ExtB [] [b0, b11, b28] w19 w37 →
           FnP Tryz.prog F_ask_reader_take #[(.pointer r), (.int .u8 41)] w37 fun v38 w38 =>
            Kept [b0, b11, b28] w37 w38 ∧
            ∃ t39 : Bool, v38 = (.bool t39) ∧
            ∀ w40, ExtB [] [b0, b11, b28] w38 w40 →
            Run Tryz.prog (.buildSlice 24 2 [(0, (.agg #[(.int .i64 t_03), (.string t_14), (.string t_25), (.int .i64 t_36), (.slice t_47 t_4l8 t_4c9)])), (1, (.agg #[(.int .i64 t_020), (.string t_121), (.string t_222), (.int .i64 t_323), (.slice t_424 t_4l25 t_4c26)]))]) w40 fun v41 w41 =>
             Ext w40 w41 ∧
             ∃ t42 : Option Addr, ∃ tl43 : Nat, ∃ tc44 : Nat, v41 = (.slice t42 tl43 tc44) ∧
             J29 t39 5 (⟨#[]⟩ : ByteArray) (⟨#[]⟩ : ByteArray) 0 t42 tl43 tc44 w41)) ∧
          ((t27 = false) →
           ∀ w37, ExtB [] [b0, b11, b28] w19 w37 →
           Run Tryz.prog (.buildSlice 24 2 [(0, (.agg #[(.int .i64 t_03), (.string t_14), (.string t_25), (.int .i64 t_36), (.slice t_47 t_4l8 t_4c9)])), (1, (.agg #[(.int .i64 t_020), (.string t_121), (.string t_222), (.int .i64 t_323), (.slice t_424 t_4l25 t_4c26)]))]) w37 fun v38 w38 =>
            Ext w37 w38 ∧
            ∃ t39 : Option Addr, ∃ tl40 : Nat, ∃ tc41 : Nat, v38 = (.slice t39 tl40 tc41) ∧
            J29 false 5 (⟨#[]⟩ : ByteArray) (⟨#[]⟩ : ByteArray) 0 t39 tl40 tc41 w38)) ∧
         ∀ (ok_ask_Read : Bool) (c31 : Int) (c32 : ByteArray) (c33 : ByteArray) (c34 : Int) (c35 : Option Addr) (cl35 : Nat) (cc35 : Nat) (w36 : World), J29 ok_ask_Read c31 c32 c33 c34 c35 cl35 cc35 w36 →
          ∀ w37, ExtB [b0] [] w36 w37 →
          Q (.tuple #[(.agg #[(.int .i64 c31), (.string c32), (.string c33), (.int .i64 c34), (.slice c35 cl35 cc35)]), (.bool ok_ask_Read)]) w37)))

theorem ok_ask_reader_two (r : Option Addr) (w : World) (Q : Value → World → Prop) (h : wp_ask_reader_two r w Q) : FnP Tryz.prog F_ask_reader_two #[(.pointer r)] w Q := by
  have e_ : wp_ask_reader_two r w Q = Runs Tryz.prog Q ({ N := 36, wrap := [], pub := [], muts := [66, 67, 49, 68], joins := [] } : Cfg) Tryz.f68 (Tryz.f68.body.getD .skip) [.sc (.ptr r)] w := by kernel_rfl
  rw [e_] at h
  exact runs_fn h Tryz.func68 (by kernel_rfl) (fun args w => Tryz.call68 args w) (by kernel_rfl) (by kernel_rfl) rfl rfl

/-- shiftbell/ask.Read -/
def wp_ask_Read (s : ByteArray) (w : World) (Q : Value → World → Prop) : Prop :=
  ∀ b0 : Nat, w.heap.size ≤ b0 → ((2000 < (s.size : Int)) →
   ∀ w1, Ext w w1 →
   Q (.tuple #[(.agg #[(.int .i64 0), (.string (⟨#[]⟩ : ByteArray)), (.string (⟨#[]⟩ : ByteArray)), (.int .i64 0), (.slice none 0 0)]), (.int .i64 2)]) w1) ∧
  (((s.size : Int) ≤ 2000) →
   ∀ w1, ExtB [] [b0] w w1 →
   New w1 102 [(.string s), (.int .i64 60)] fun p2 w2 =>
    ∀ w3, ExtB [] [b0] w2 w3 →
    FnP Tryz.prog F_ask_reader_ask #[(.pointer p2)] w3 fun v4 w4 =>
     Kept [b0] w3 w4 ∧
     ∃ t_05 : Int, ∃ t_16 : ByteArray, ∃ t_27 : ByteArray, ∃ t_38 : Int, ∃ t_49 : Option Addr, ∃ t_4l10 : Nat, ∃ t_4c11 : Nat, ∃ t12 : Bool, v4 = (.tuple #[(.agg #[(.int .i64 t_05), (.string t_16), (.string t_27), (.int .i64 t_38), (.slice t_49 t_4l10 t_4c11)]), (.bool t12)]) ∧
     ∀ b13 : Nat, w4.heap.size ≤ b13 → ((t12 = false) →
      ∀ w14, ExtB [b0] [] w4 w14 →
      Q (.tuple #[(.agg #[(.int .i64 0), (.string (⟨#[]⟩ : ByteArray)), (.string (⟨#[]⟩ : ByteArray)), (.int .i64 0), (.slice none 0 0)]), (.int .i64 3)]) w14) ∧
     ((t12 = true) →
      ∀ w14, Ext w4 w14 →
      FnP Tryz.prog F_ask_Text #[(.agg #[(.int .i64 t_05), (.string t_16), (.string t_27), (.int .i64 t_38), (.slice t_49 t_4l10 t_4c11)])] w14 fun v15 w15 =>
       Ext w14 w15 ∧
       ∃ t16 : ByteArray, ∃ t17 : Int, v15 = (.tuple #[(.string t16), (.int .i64 t17)]) ∧
       (((t17 ≠ 0) ∨ (t16 ≠ s)) →
        ∀ w18, ExtB [b0] [] w4 w18 →
        Q (.tuple #[(.agg #[(.int .i64 0), (.string (⟨#[]⟩ : ByteArray)), (.string (⟨#[]⟩ : ByteArray)), (.int .i64 0), (.slice none 0 0)]), (.int .i64 3)]) w18) ∧
       (((t17 = 0) ∧ (t16 = s)) →
        ∀ w18, ExtB [b0] [] w4 w18 →
        Q (.tuple #[(.agg #[(.int .i64 t_05), (.string t_16), (.string t_27), (.int .i64 t_38), (.slice t_49 t_4l10 t_4c11)]), (.int .i64 0)]) w18)))

theorem ok_ask_Read (s : ByteArray) (w : World) (Q : Value → World → Prop) (h : wp_ask_Read s w Q) : FnP Tryz.prog F_ask_Read #[(.string s)] w Q := by
  have e_ : wp_ask_Read s w Q = Runs Tryz.prog Q ({ N := 38, wrap := [], pub := [15], muts := [49], joins := [] } : Cfg) Tryz.f30 (Tryz.f30.body.getD .skip) [.sc (.str s)] w := by kernel_rfl
  rw [e_] at h
  exact runs_fn h Tryz.func30 (by kernel_rfl) (fun args w => Tryz.call30 args w) (by kernel_rfl) (by kernel_rfl) rfl rfl

end Go.Proofs.YtenppnomdejmlaaGreatDoor
