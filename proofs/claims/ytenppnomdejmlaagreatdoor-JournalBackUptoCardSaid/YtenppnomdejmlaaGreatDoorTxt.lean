/- The texts of this seat's functions: what each computes, as its symbolic run says it. -/
import Derived.Test.YtenppnomdejmlaaGreatDoorRows
import Derived.Test.YtenppnomdejmlaaGreatDoorSxD
import Derived.Test.YtenppnomdejmlaaGreatDoorSxN
set_option linter.unusedVariables false
set_option linter.unusedSimpArgs false
set_option maxRecDepth 100000
namespace Go.Proofs.YtenppnomdejmlaaGreatDoor
open Go.Sx Go.RowKit

abbrev F_event_Encode : FuncId := 6
abbrev F_bytes_Equal : FuncId := 9
abbrev F_event_Check : FuncId := 10
abbrev F_job_Text : FuncId := 15
abbrev F_event_number : FuncId := 16
abbrev F_event_plain : FuncId := 19
abbrev F_job_Check : FuncId := 20
abbrev F_journal_Frame : FuncId := 21
abbrev F_need_Text : FuncId := 22
abbrev F_strings_Join : FuncId := 24
abbrev F_strings_Split : FuncId := 27
abbrev F_need_Read : FuncId := 29
abbrev F_need_Check : FuncId := 34
abbrev F_ticket_Sum : FuncId := 36
abbrev F_need_text : FuncId := 37
abbrev F_strings_Cut : FuncId := 46
abbrev F_strconv_ParseInt : FuncId := 47
abbrev F_need_parts : FuncId := 48
abbrev F_strconv_FormatInt : FuncId := 53
abbrev T__0 : TypeId := 0
abbrev T_int64 : TypeId := 2
abbrev T_int : TypeId := 3
abbrev T_bool : TypeId := 4
abbrev T_uint8 : TypeId := 5
abbrev T_string : TypeId := 9
abbrev T_uintptr : TypeId := 12
abbrev T_int32 : TypeId := 21
abbrev T_Need : TypeId := 23
abbrev T_sl_Ask : TypeId := 24
abbrev T_Ask : TypeId := 26
abbrev T_sl_int : TypeId := 27
abbrev T_Job : TypeId := 29
abbrev T_Event : TypeId := 31
abbrev T_sl_uint8 : TypeId := 32
abbrev T_Errno : TypeId := 34
abbrev T_sl_uint8_Errno : TypeId := 35
abbrev T_Event_Errno : TypeId := 37
abbrev T_sl_Event : TypeId := 43
abbrev T_sl_Event_sl_uint8 : TypeId := 44
abbrev T_sl_Event_int : TypeId := 46
abbrev T_string_Errno : TypeId := 50
abbrev T_uint : TypeId := 53
abbrev T_Job_Errno : TypeId := 54
abbrev T_sl_string : TypeId := 64
abbrev T_error : TypeId := 67
abbrev T_int_error : TypeId := 68
abbrev T_Need_Errno : TypeId := 70
abbrev T_Ask_Errno : TypeId := 72
abbrev T_uint64 : TypeId := 79
abbrev T_ptr_strings_Builder : TypeId := 83
abbrev T_strings_Builder : TypeId := 85
abbrev T_string_string_bool : TypeId := 90
abbrev T_int64_error : TypeId := 92
abbrev T_sl_need_part : TypeId := 94
abbrev T_ptr_Need : TypeId := 96
abbrev T_ptr_int64 : TypeId := 97
abbrev T_need_part : TypeId := 99
abbrev T_ptr_ask_reader : TypeId := 100
abbrev T_ask_reader : TypeId := 102
abbrev T_Ask_bool : TypeId := 103
abbrev T_ptr_uint8 : TypeId := 108
abbrev T_strconv_Error : TypeId := 111
abbrev T_ptr_strconv_NumError : TypeId := 112
abbrev T_unsafe_Pointer : TypeId := 116
abbrev T_sl_uint8_string : TypeId := 122
abbrev T_int32_int : TypeId := 125
abbrev T_uint64_error : TypeId := 128
abbrev T_strconv_NumError : TypeId := 132
abbrev T_uint32 : TypeId := 137
abbrev T_ptr_errors_errorString : TypeId := 142
abbrev T_errors_errorString : TypeId := 144
abbrev T_strings_asciiSet : TypeId := 147
abbrev T_strings_asciiSet_bool : TypeId := 148
abbrev T_utf8_acceptRange : TypeId := 153
abbrev T_uint32_uint32 : TypeId := 155
abbrev T_ptr_strings_asciiSet : TypeId := 158
theorem elem_sl_Ask : slEl Tryz.prog 24 = some (26, 5, 72, (.agg #[(.int .i64 0), (.string (⟨#[]⟩ : ByteArray)), (.string (⟨#[]⟩ : ByteArray)), (.int .i64 0), (.slice none 0 0)])) := by kernel_rfl
theorem elem_sl_int : slEl Tryz.prog 27 = some (3, 1, 8, (.int .i64 0)) := by kernel_rfl
theorem elem_sl_uint8 : slEl Tryz.prog 32 = some (5, 1, 1, (.int .u8 0)) := by kernel_rfl
theorem elem_sl_Event : slEl Tryz.prog 43 = some (31, 15, 176, (.agg #[(.int .i64 0), (.string (⟨#[]⟩ : ByteArray)), (.int .i64 0), (.int .i64 0), (.int .i64 0), (.int .i64 0), (.int .i64 0), (.string (⟨#[]⟩ : ByteArray)), (.string (⟨#[]⟩ : ByteArray)), (.int .i64 0), (.slice none 0 0), (.slice none 0 0), (.int .i64 0), (.int .i64 0), (.bool false)])) := by kernel_rfl
theorem elem_sl_string : slEl Tryz.prog 64 = some (9, 1, 16, (.string (⟨#[]⟩ : ByteArray))) := by kernel_rfl
theorem elem_sl_need_part : slEl Tryz.prog 94 = some (99, 2, 24, (.agg #[(.string (⟨#[]⟩ : ByteArray)), (.pointer none)])) := by kernel_rfl

/-- shiftbell/ticket.Sum -/
def wp_ticket_Sum (key : Int) (s : ByteArray) (w : World) (Q : Value → World → Prop) : Prop :=
  ∀ w0, Ext w w0 →
  Run Tryz.prog (.convert 9 32 (.string s)) w0 fun v1 w1 =>
   Ext w0 w1 ∧
   ∃ t2 : Option Addr, ∃ tl3 : Nat, ∃ tc4 : Nat, v1 = (.slice t2 tl3 tc4) ∧
   ∃ (I5 : Int → Int → World → Prop) (M5 : Int → Int → World → Nat), I5 key 0 w1 ∧
   ∀ (u6 : Int) (k7 : Int) (w8 : World), I5 u6 k7 w8 →
    (((k7 < (tl3 : Int)) →
     t2 ≠ none ∧
     (0 : Int) ≤ k7 ∧
     (k7 : Int) < (tl3 : Int) ∧
     ∃ t9 : Int, cell w8 (pIdx t2 k7 1) 0 = some (.int .u8 t9) ∧
     InR .u64 t9 ∧
     InR .i64 (k7 + 1) ∧
     (I5 (iBit .xor .u64 (IntKind.wrap .u64 ((IntKind.wrap .u64 (u6 + t9)) * 11400714785074694791)) (iBit .shr .u64 (IntKind.wrap .u64 ((IntKind.wrap .u64 (u6 + t9)) * 11400714785074694791)) 31)) (k7 + 1) w8 ∧ M5 (iBit .xor .u64 (IntKind.wrap .u64 ((IntKind.wrap .u64 (u6 + t9)) * 11400714785074694791)) (iBit .shr .u64 (IntKind.wrap .u64 ((IntKind.wrap .u64 (u6 + t9)) * 11400714785074694791)) 31)) (k7 + 1) w8 < M5 u6 k7 w8))) ∧
    (((tl3 : Int) ≤ k7) →
     ∀ w9, Ext w8 w9 →
     Q (.int .u64 u6) w9)

theorem ok_ticket_Sum (key : Int) (s : ByteArray) (w : World) (Q : Value → World → Prop) (h : wp_ticket_Sum key s w Q) : FnP Tryz.prog F_ticket_Sum #[(.int .u64 key), (.string s)] w Q := by
  have e_ : wp_ticket_Sum key s w Q = Runs Tryz.prog Q ({ N := 27, wrap := [19, 20], pub := [], muts := [], joins := [] } : Cfg) Tryz.f36 (Tryz.f36.body.getD .skip) [.sc (.int .u64 key), .sc (.str s)] w := by kernel_rfl
  rw [e_] at h
  exact runs_fn h Tryz.func36 (by kernel_rfl) (fun args w => Tryz.call36 args w) (by kernel_rfl) (by kernel_rfl) rfl rfl

/-- shiftbell/event.plain -/
def wp_event_plain (j_0 : ByteArray) (j_1 : Int) (j_2 : Int) (j_3 : Int) (j_4 : Int) (j_5 : Int) (j_6 : ByteArray) (j_7 : ByteArray) (j_8 : Int) (j_9 : Option Addr) (j_9l : Nat) (j_9c : Nat) (j_10 : Option Addr) (j_10l : Nat) (j_10c : Nat) (w : World) (Q : Value → World → Prop) : Prop :=
  ∀ b0 : Nat, w.heap.size ≤ b0 → ((((j_0 = (⟨#[]⟩ : ByteArray)) ∧ (j_1 = 0)) →
   ∀ w1, Ext w w1 →
   Run Tryz.prog (.eq .eql 23 false false (.agg #[(.int .i64 j_2), (.int .i64 j_3), (.int .i64 j_4)]) (.agg #[(.int .i64 0), (.int .i64 0), (.int .i64 0)])) w1 fun v2 w2 =>
    Ext w1 w2 ∧
    ∃ t3 : Bool, v2 = (.bool t3) ∧
    ∀ w4, Ext w w4 →
    Q (.bool ((((((t3 && (decide ((j_10l : Int) = 0))) && (decide (j_5 = 0))) && (decide (j_6 = (⟨#[]⟩ : ByteArray)))) && (decide (j_7 = (⟨#[]⟩ : ByteArray)))) && (decide (j_8 = 0))) && (decide ((j_9l : Int) = 0)))) w4)) ∧
  (((j_0 ≠ (⟨#[]⟩ : ByteArray)) ∨ (j_1 ≠ 0)) →
   ∀ w1, Ext w w1 →
   Q (.bool false) w1)

theorem ok_event_plain (j_0 : ByteArray) (j_1 : Int) (j_2 : Int) (j_3 : Int) (j_4 : Int) (j_5 : Int) (j_6 : ByteArray) (j_7 : ByteArray) (j_8 : Int) (j_9 : Option Addr) (j_9l : Nat) (j_9c : Nat) (j_10 : Option Addr) (j_10l : Nat) (j_10c : Nat) (w : World) (Q : Value → World → Prop) (h : wp_event_plain j_0 j_1 j_2 j_3 j_4 j_5 j_6 j_7 j_8 j_9 j_9l j_9c j_10 j_10l j_10c w Q) : FnP Tryz.prog F_event_plain #[(.agg #[(.string j_0), (.int .i64 j_1), (.int .i64 j_2), (.int .i64 j_3), (.int .i64 j_4), (.int .i64 j_5), (.string j_6), (.string j_7), (.int .i64 j_8), (.slice j_9 j_9l j_9c), (.slice j_10 j_10l j_10c)])] w Q := by
  have e_ : wp_event_plain j_0 j_1 j_2 j_3 j_4 j_5 j_6 j_7 j_8 j_9 j_9l j_9c j_10 j_10l j_10c w Q = Runs Tryz.prog Q ({ N := 54, wrap := [], pub := [], muts := [], joins := [] } : Cfg) Tryz.f19 (Tryz.f19.body.getD .skip) [.agg [.str j_0, .int .i64 j_1, .int .i64 j_2, .int .i64 j_3, .int .i64 j_4, .int .i64 j_5, .str j_6, .str j_7, .int .i64 j_8, .slc j_9 j_9l j_9c, .slc j_10 j_10l j_10c]] w := by kernel_rfl
  rw [e_] at h
  exact runs_fn h Tryz.func19 (by kernel_rfl) (fun args w => Tryz.call19 args w) (by kernel_rfl) (by kernel_rfl) rfl rfl

/-- shiftbell/event.Check -/
def wp_event_Check (x_0 : Int) (x_1 : ByteArray) (x_2 : Int) (x_3 : Int) (x_4 : Int) (x_5 : Int) (x_6 : Int) (x_7 : ByteArray) (x_8 : ByteArray) (x_9 : Int) (x_10 : Option Addr) (x_10l : Nat) (x_10c : Nat) (x_11 : Option Addr) (x_11l : Nat) (x_11c : Nat) (x_12 : Int) (x_13 : Int) (x_14 : Bool) (w : World) (Q : Value → World → Prop) : Prop :=
  ∀ b0 : Nat, w.heap.size ≤ b0 → (((x_0 < 1) ∨ (5 < x_0)) →
   ∀ w1, Ext w w1 →
   Q (.int .i64 1) w1) ∧
  (((1 ≤ x_0) ∧ (x_0 ≤ 5)) →
   (((x_0 ≠ 1) →
    ∀ w1, Ext w w1 →
    FnP Tryz.prog F_event_plain #[(.agg #[(.string x_1), (.int .i64 x_2), (.int .i64 x_3), (.int .i64 x_4), (.int .i64 x_5), (.int .i64 x_6), (.string x_7), (.string x_8), (.int .i64 x_9), (.slice x_10 x_10l x_10c), (.slice x_11 x_11l x_11c)])] w1 fun v2 w2 =>
     Ext w1 w2 ∧
     ∃ t3 : Bool, v2 = (.bool t3) ∧
     ((((((t3 = false) ∨ ((x_0 ≠ 2) ∧ (x_12 ≠ 0))) ∨ (((x_0 ≠ 4) ∧ (x_0 ≠ 5)) ∧ (x_13 ≠ 0))) ∨ ((x_0 ≠ 4) ∧ (x_14 = true))) →
      ∀ w4, Ext w w4 →
      Q (.int .i64 1) w4)) ∧
     (((((t3 = true) ∧ ((x_0 = 2) ∨ (x_12 = 0))) ∧ (((x_0 = 4) ∨ (x_0 = 5)) ∨ (x_13 = 0))) ∧ ((x_0 = 4) ∨ (x_14 = false))) →
      (((x_0 = 1) →
       ∀ w4, Ext w w4 →
       FnP Tryz.prog F_job_Check #[(.agg #[(.string x_1), (.int .i64 x_2), (.int .i64 x_3), (.int .i64 x_4), (.int .i64 x_5), (.int .i64 x_6), (.string x_7), (.string x_8), (.int .i64 x_9), (.slice x_10 x_10l x_10c), (.slice x_11 x_11l x_11c)])] w4 fun v5 w5 =>
        Ext w4 w5 ∧
        ∃ t6 : Int, v5 = (.int .i64 t6) ∧
        ∀ w7, Ext w w7 →
        Q (.int .i64 t6) w7)) ∧
      ((x_0 ≠ 1) →
       (((((x_12 < 0) ∨ (1000000000 < x_12)) ∨ (x_13 < 0)) ∨ (65535 < x_13)) →
        ∀ w4, Ext w w4 →
        Q (.int .i64 4) w4) ∧
       (((((0 ≤ x_12) ∧ (x_12 ≤ 1000000000)) ∧ (0 ≤ x_13)) ∧ (x_13 ≤ 65535)) →
        ∀ w4, Ext w w4 →
        Q (.int .i64 0) w4))))) ∧
   ((x_0 = 1) →
    ((((((x_0 ≠ 2) ∧ (x_12 ≠ 0)) ∨ (((x_0 ≠ 4) ∧ (x_0 ≠ 5)) ∧ (x_13 ≠ 0))) ∨ ((x_0 ≠ 4) ∧ (x_14 = true))) →
     ∀ w1, Ext w w1 →
     Q (.int .i64 1) w1)) ∧
    (((((x_0 = 2) ∨ (x_12 = 0)) ∧ (((x_0 = 4) ∨ (x_0 = 5)) ∨ (x_13 = 0))) ∧ ((x_0 = 4) ∨ (x_14 = false))) →
     (((x_0 = 1) →
      ∀ w1, Ext w w1 →
      FnP Tryz.prog F_job_Check #[(.agg #[(.string x_1), (.int .i64 x_2), (.int .i64 x_3), (.int .i64 x_4), (.int .i64 x_5), (.int .i64 x_6), (.string x_7), (.string x_8), (.int .i64 x_9), (.slice x_10 x_10l x_10c), (.slice x_11 x_11l x_11c)])] w1 fun v2 w2 =>
       Ext w1 w2 ∧
       ∃ t3 : Int, v2 = (.int .i64 t3) ∧
       ∀ w4, Ext w w4 →
       Q (.int .i64 t3) w4)) ∧
     ((x_0 ≠ 1) →
      (((((x_12 < 0) ∨ (1000000000 < x_12)) ∨ (x_13 < 0)) ∨ (65535 < x_13)) →
       ∀ w1, Ext w w1 →
       Q (.int .i64 4) w1) ∧
      (((((0 ≤ x_12) ∧ (x_12 ≤ 1000000000)) ∧ (0 ≤ x_13)) ∧ (x_13 ≤ 65535)) →
       ∀ w1, Ext w w1 →
       Q (.int .i64 0) w1)))))

theorem ok_event_Check (x_0 : Int) (x_1 : ByteArray) (x_2 : Int) (x_3 : Int) (x_4 : Int) (x_5 : Int) (x_6 : Int) (x_7 : ByteArray) (x_8 : ByteArray) (x_9 : Int) (x_10 : Option Addr) (x_10l : Nat) (x_10c : Nat) (x_11 : Option Addr) (x_11l : Nat) (x_11c : Nat) (x_12 : Int) (x_13 : Int) (x_14 : Bool) (w : World) (Q : Value → World → Prop) (h : wp_event_Check x_0 x_1 x_2 x_3 x_4 x_5 x_6 x_7 x_8 x_9 x_10 x_10l x_10c x_11 x_11l x_11c x_12 x_13 x_14 w Q) : FnP Tryz.prog F_event_Check #[(.agg #[(.int .i64 x_0), (.string x_1), (.int .i64 x_2), (.int .i64 x_3), (.int .i64 x_4), (.int .i64 x_5), (.int .i64 x_6), (.string x_7), (.string x_8), (.int .i64 x_9), (.slice x_10 x_10l x_10c), (.slice x_11 x_11l x_11c), (.int .i64 x_12), (.int .i64 x_13), (.bool x_14)])] w Q := by
  have e_ : wp_event_Check x_0 x_1 x_2 x_3 x_4 x_5 x_6 x_7 x_8 x_9 x_10 x_10l x_10c x_11 x_11l x_11c x_12 x_13 x_14 w Q = Runs Tryz.prog Q ({ N := 88, wrap := [], pub := [], muts := [], joins := [] } : Cfg) Tryz.f10 (Tryz.f10.body.getD .skip) [.agg [.int .i64 x_0, .str x_1, .int .i64 x_2, .int .i64 x_3, .int .i64 x_4, .int .i64 x_5, .int .i64 x_6, .str x_7, .str x_8, .int .i64 x_9, .slc x_10 x_10l x_10c, .slc x_11 x_11l x_11c, .int .i64 x_12, .int .i64 x_13, .bool (.atom true x_14)]] w := by kernel_rfl
  rw [e_] at h
  exact runs_fn h Tryz.func10 (by kernel_rfl) (fun args w => Tryz.call10 args w) (by kernel_rfl) (by kernel_rfl) rfl rfl

/-- shiftbell/event.number -/
def wp_event_number (out : Option Addr) (outl : Nat) (outc : Nat) (n : Int) (many : Int) (w : World) (Q : Value → World → Prop) : Prop :=
  InR .i64 (many - 1) ∧
  ∃ (I0 : Option Addr → Nat → Nat → Int → World → Prop) (M0 : Option Addr → Nat → Nat → Int → World → Nat), I0 out outl outc (many - 1) w ∧
  ∀ (out1 : Option Addr) (outl1 : Nat) (outc1 : Nat) (many2 : Int) (w3 : World), I0 out1 outl1 outc1 many2 w3 →
   (((0 ≤ many2) →
    InR .i64 (8 * many2) ∧
    0 ≤ ((8 * many2) : Int) ∧
    ∀ w4, Ext w3 w4 →
    Run Tryz.prog (.buildSlice 32 1 [(0, (.int .u8 (IntKind.wrap .u8 (iBit .shr .i64 n (8 * many2)))))]) w4 fun v5 w5 =>
     Ext w4 w5 ∧
     ∃ t6 : Option Addr, ∃ tl7 : Nat, ∃ tc8 : Nat, v5 = (.slice t6 tl7 tc8) ∧
     ∀ w9, Ext w5 w9 →
     Run Tryz.prog (.append #[32, 32] 32 [(.slice out1 outl1 outc1), (.slice t6 tl7 tc8)]) w9 fun v10 w10 =>
      ∃ t11 : Option Addr, ∃ tl12 : Nat, ∃ tc13 : Nat, v10 = (.slice t11 tl12 tc13) ∧
      InR .i64 (many2 - 1) ∧
      (I0 t11 tl12 tc13 (many2 - 1) w10 ∧ M0 t11 tl12 tc13 (many2 - 1) w10 < M0 out1 outl1 outc1 many2 w3))) ∧
   ((many2 < 0) →
    ∀ w4, Ext w3 w4 →
    Q (.slice out1 outl1 outc1) w4)

theorem ok_event_number (out : Option Addr) (outl : Nat) (outc : Nat) (n : Int) (many : Int) (w : World) (Q : Value → World → Prop) (h : wp_event_number out outl outc n many w Q) : FnP Tryz.prog F_event_number #[(.slice out outl outc), (.int .i64 n), (.int .i64 many)] w Q := by
  have e_ : wp_event_number out outl outc n many w Q = Runs Tryz.prog Q ({ N := 22, wrap := [18], pub := [], muts := [], joins := [] } : Cfg) Tryz.f16 (Tryz.f16.body.getD .skip) [.sc (.slc out outl outc), .sc (.int .i64 n), .sc (.int .i64 many)] w := by kernel_rfl
  rw [e_] at h
  exact runs_fn h Tryz.func16 (by kernel_rfl) (fun args w => Tryz.call16 args w) (by kernel_rfl) (by kernel_rfl) rfl rfl

/-- shiftbell/event.Encode -/
def wp_event_Encode (x_0 : Int) (x_1 : ByteArray) (x_2 : Int) (x_3 : Int) (x_4 : Int) (x_5 : Int) (x_6 : Int) (x_7 : ByteArray) (x_8 : ByteArray) (x_9 : Int) (x_10 : Option Addr) (x_10l : Nat) (x_10c : Nat) (x_11 : Option Addr) (x_11l : Nat) (x_11c : Nat) (x_12 : Int) (x_13 : Int) (x_14 : Bool) (w : World) (Q : Value → World → Prop) : Prop :=
  ∀ b0 : Nat, w.heap.size ≤ b0 → ∀ w1, Ext w w1 →
  FnP Tryz.prog F_event_Check #[(.agg #[(.int .i64 x_0), (.string x_1), (.int .i64 x_2), (.int .i64 x_3), (.int .i64 x_4), (.int .i64 x_5), (.int .i64 x_6), (.string x_7), (.string x_8), (.int .i64 x_9), (.slice x_10 x_10l x_10c), (.slice x_11 x_11l x_11c), (.int .i64 x_12), (.int .i64 x_13), (.bool x_14)])] w1 fun v2 w2 =>
   Ext w1 w2 ∧
   ∃ t3 : Int, v2 = (.int .i64 t3) ∧
   ((t3 ≠ 0) →
    ∀ w4, Ext w w4 →
    Q (.tuple #[(.slice none 0 0), (.int .i64 t3)]) w4) ∧
   ((t3 = 0) →
    InR .u8 x_0 ∧
    ∀ w4, ExtB [] [b0] w w4 →
    Run Tryz.prog (.buildSlice 32 1 [(0, (.int .u8 x_0))]) w4 fun v5 w5 =>
     Ext w4 w5 ∧
     ∃ t6 : Option Addr, ∃ tl7 : Nat, ∃ tc8 : Nat, v5 = (.slice t6 tl7 tc8) ∧
     (((x_0 = 1) →
      ∀ w9, Ext w5 w9 →
      FnP Tryz.prog F_job_Text #[(.agg #[(.string x_1), (.int .i64 x_2), (.int .i64 x_3), (.int .i64 x_4), (.int .i64 x_5), (.int .i64 x_6), (.string x_7), (.string x_8), (.int .i64 x_9), (.slice x_10 x_10l x_10c), (.slice x_11 x_11l x_11c)])] w9 fun v10 w10 =>
       Ext w9 w10 ∧
       ∃ t11 : ByteArray, ∃ t12 : Int, v10 = (.tuple #[(.string t11), (.int .i64 t12)]) ∧
       ∀ w13, ExtB [] [b0] w5 w13 →
       Run Tryz.prog (.append #[32, 9] 32 [(.slice t6 tl7 tc8), (.string t11)]) w13 fun v14 w14 =>
        Kept [b0] w13 w14 ∧
        ∃ t15 : Option Addr, ∃ tl16 : Nat, ∃ tc17 : Nat, v14 = (.slice t15 tl16 tc17) ∧
        ∀ w18, Ext w14 w18 →
        Q (.tuple #[(.slice t15 tl16 tc17), (.int .i64 0)]) w18)) ∧
     ((x_0 ≠ 1) →
      (((x_0 = 2) →
       ∀ w9, ExtB [] [b0] w5 w9 →
       FnP Tryz.prog F_event_number #[(.slice t6 tl7 tc8), (.int .i64 x_12), (.int .i64 4)] w9 fun v10 w10 =>
        Kept [b0] w9 w10 ∧
        ∃ t11 : Option Addr, ∃ tl12 : Nat, ∃ tc13 : Nat, v10 = (.slice t11 tl12 tc13) ∧
        ∀ w14, Ext w10 w14 →
        Q (.tuple #[(.slice t11 tl12 tc13), (.int .i64 0)]) w14)) ∧
      ((x_0 ≠ 2) →
       (((x_0 = 4) →
        ∀ w9, ExtB [] [b0] w5 w9 →
        FnP Tryz.prog F_event_number #[(.slice t6 tl7 tc8), (.int .i64 x_13), (.int .i64 2)] w9 fun v10 w10 =>
         Kept [b0] w9 w10 ∧
         ∃ t11 : Option Addr, ∃ tl12 : Nat, ∃ tc13 : Nat, v10 = (.slice t11 tl12 tc13) ∧
         (((x_14 = true) →
          ∀ w14, ExtB [] [b0] w10 w14 →
          Run Tryz.prog (.buildSlice 32 1 [(0, (.int .u8 1))]) w14 fun v15 w15 =>
           Ext w14 w15 ∧
           ∃ t16 : Option Addr, ∃ tl17 : Nat, ∃ tc18 : Nat, v15 = (.slice t16 tl17 tc18) ∧
           ∀ w19, ExtB [] [b0] w15 w19 →
           Run Tryz.prog (.append #[32, 32] 32 [(.slice t11 tl12 tc13), (.slice t16 tl17 tc18)]) w19 fun v20 w20 =>
            Kept [b0] w19 w20 ∧
            ∃ t21 : Option Addr, ∃ tl22 : Nat, ∃ tc23 : Nat, v20 = (.slice t21 tl22 tc23) ∧
            ∀ w24, Ext w20 w24 →
            Q (.tuple #[(.slice t21 tl22 tc23), (.int .i64 0)]) w24)) ∧
         ((x_14 = false) →
          ∀ w14, ExtB [] [b0] w10 w14 →
          Run Tryz.prog (.buildSlice 32 1 [(0, (.int .u8 0))]) w14 fun v15 w15 =>
           Ext w14 w15 ∧
           ∃ t16 : Option Addr, ∃ tl17 : Nat, ∃ tc18 : Nat, v15 = (.slice t16 tl17 tc18) ∧
           ∀ w19, ExtB [] [b0] w15 w19 →
           Run Tryz.prog (.append #[32, 32] 32 [(.slice t11 tl12 tc13), (.slice t16 tl17 tc18)]) w19 fun v20 w20 =>
            Kept [b0] w19 w20 ∧
            ∃ t21 : Option Addr, ∃ tl22 : Nat, ∃ tc23 : Nat, v20 = (.slice t21 tl22 tc23) ∧
            ∀ w24, Ext w20 w24 →
            Q (.tuple #[(.slice t21 tl22 tc23), (.int .i64 0)]) w24))) ∧
       ((x_0 ≠ 4) →
        (((x_0 = 5) →
         ∀ w9, ExtB [] [b0] w5 w9 →
         FnP Tryz.prog F_event_number #[(.slice t6 tl7 tc8), (.int .i64 x_13), (.int .i64 2)] w9 fun v10 w10 =>
          Kept [b0] w9 w10 ∧
          ∃ t11 : Option Addr, ∃ tl12 : Nat, ∃ tc13 : Nat, v10 = (.slice t11 tl12 tc13) ∧
          ∀ w14, Ext w10 w14 →
          Q (.tuple #[(.slice t11 tl12 tc13), (.int .i64 0)]) w14)) ∧
        ((x_0 ≠ 5) →
         ∀ w9, Ext w5 w9 →
         Q (.tuple #[(.slice t6 tl7 tc8), (.int .i64 0)]) w9)))))

theorem ok_event_Encode (x_0 : Int) (x_1 : ByteArray) (x_2 : Int) (x_3 : Int) (x_4 : Int) (x_5 : Int) (x_6 : Int) (x_7 : ByteArray) (x_8 : ByteArray) (x_9 : Int) (x_10 : Option Addr) (x_10l : Nat) (x_10c : Nat) (x_11 : Option Addr) (x_11l : Nat) (x_11c : Nat) (x_12 : Int) (x_13 : Int) (x_14 : Bool) (w : World) (Q : Value → World → Prop) (h : wp_event_Encode x_0 x_1 x_2 x_3 x_4 x_5 x_6 x_7 x_8 x_9 x_10 x_10l x_10c x_11 x_11l x_11c x_12 x_13 x_14 w Q) : FnP Tryz.prog F_event_Encode #[(.agg #[(.int .i64 x_0), (.string x_1), (.int .i64 x_2), (.int .i64 x_3), (.int .i64 x_4), (.int .i64 x_5), (.int .i64 x_6), (.string x_7), (.string x_8), (.int .i64 x_9), (.slice x_10 x_10l x_10c), (.slice x_11 x_11l x_11c), (.int .i64 x_12), (.int .i64 x_13), (.bool x_14)])] w Q := by
  have e_ : wp_event_Encode x_0 x_1 x_2 x_3 x_4 x_5 x_6 x_7 x_8 x_9 x_10 x_10l x_10c x_11 x_11l x_11c x_12 x_13 x_14 w Q = Runs Tryz.prog Q ({ N := 57, wrap := [], pub := [], muts := [16], joins := [] } : Cfg) Tryz.f6 (Tryz.f6.body.getD .skip) [.agg [.int .i64 x_0, .str x_1, .int .i64 x_2, .int .i64 x_3, .int .i64 x_4, .int .i64 x_5, .int .i64 x_6, .str x_7, .str x_8, .int .i64 x_9, .slc x_10 x_10l x_10c, .slc x_11 x_11l x_11c, .int .i64 x_12, .int .i64 x_13, .bool (.atom true x_14)]] w := by kernel_rfl
  rw [e_] at h
  exact runs_fn h Tryz.func6 (by kernel_rfl) (fun args w => Tryz.call6 args w) (by kernel_rfl) (by kernel_rfl) rfl rfl

/-- shiftbell/journal.Frame -/
def wp_journal_Frame (x_0 : Int) (x_1 : ByteArray) (x_2 : Int) (x_3 : Int) (x_4 : Int) (x_5 : Int) (x_6 : Int) (x_7 : ByteArray) (x_8 : ByteArray) (x_9 : Int) (x_10 : Option Addr) (x_10l : Nat) (x_10c : Nat) (x_11 : Option Addr) (x_11l : Nat) (x_11c : Nat) (x_12 : Int) (x_13 : Int) (x_14 : Bool) (w : World) (Q : Value → World → Prop) : Prop :=
  ∀ b0 : Nat, w.heap.size ≤ b0 → ∀ w1, ExtB [] [b0] w w1 →
  FnP Tryz.prog F_event_Encode #[(.agg #[(.int .i64 x_0), (.string x_1), (.int .i64 x_2), (.int .i64 x_3), (.int .i64 x_4), (.int .i64 x_5), (.int .i64 x_6), (.string x_7), (.string x_8), (.int .i64 x_9), (.slice x_10 x_10l x_10c), (.slice x_11 x_11l x_11c), (.int .i64 x_12), (.int .i64 x_13), (.bool x_14)])] w1 fun v2 w2 =>
   Ext w1 w2 ∧
   ∃ t3 : Option Addr, ∃ tl4 : Nat, ∃ tc5 : Nat, ∃ t6 : Int, v2 = (.tuple #[(.slice t3 tl4 tc5), (.int .i64 t6)]) ∧
   ((t6 ≠ 0) →
    ∀ w7, Ext w2 w7 →
    Q (.tuple #[(.slice none 0 0), (.int .i64 t6)]) w7) ∧
   ((t6 = 0) →
    ∀ w7, ExtB [] [b0] w2 w7 →
    Run Tryz.prog (.buildSlice 32 2 [(0, (.int .u8 (IntKind.wrap .u8 (iBit .shr .i64 (tl4 : Int) 8)))), (1, (.int .u8 (IntKind.wrap .u8 (tl4 : Int))))]) w7 fun v8 w8 =>
     Ext w7 w8 ∧
     ∃ t9 : Option Addr, ∃ tl10 : Nat, ∃ tc11 : Nat, v8 = (.slice t9 tl10 tc11) ∧
     ∀ w12, ExtB [] [b0] w8 w12 →
     Run Tryz.prog (.append #[32, 32] 32 [(.slice t9 tl10 tc11), (.slice t3 tl4 tc5)]) w12 fun v13 w13 =>
      Kept [b0] w12 w13 ∧
      ∃ t14 : Option Addr, ∃ tl15 : Nat, ∃ tc16 : Nat, v13 = (.slice t14 tl15 tc16) ∧
      ∀ w17, Ext w13 w17 →
      Run Tryz.prog (.convert 32 9 (.slice t3 tl4 tc5)) w17 fun v18 w18 =>
       Ext w17 w18 ∧
       ∃ t19 : ByteArray, v18 = (.string t19) ∧
       ∀ w20, Ext w13 w20 →
       FnP Tryz.prog F_ticket_Sum #[(.int .u64 0), (.string t19)] w20 fun v21 w21 =>
        Ext w20 w21 ∧
        ∃ t22 : Int, v21 = (.int .u64 t22) ∧
        ∃ (I23 : Option Addr → Nat → Nat → Int → World → Prop) (M23 : Option Addr → Nat → Nat → Int → World → Nat), I23 t14 tl15 tc16 56 w13 ∧
        ∀ (out24 : Option Addr) (outl24 : Nat) (outc24 : Nat) (i25 : Int) (w26 : World), I23 out24 outl24 outc24 i25 w26 →
         (((0 ≤ i25) →
          0 ≤ (i25 : Int) ∧
          ∀ w27, ExtB [] [b0] w26 w27 →
          Run Tryz.prog (.buildSlice 32 1 [(0, (.int .u8 (IntKind.wrap .u8 (iBit .shr .u64 t22 i25))))]) w27 fun v28 w28 =>
           Ext w27 w28 ∧
           ∃ t29 : Option Addr, ∃ tl30 : Nat, ∃ tc31 : Nat, v28 = (.slice t29 tl30 tc31) ∧
           ∀ w32, ExtB [] [b0] w28 w32 →
           Run Tryz.prog (.append #[32, 32] 32 [(.slice out24 outl24 outc24), (.slice t29 tl30 tc31)]) w32 fun v33 w33 =>
            Kept [b0] w32 w33 ∧
            ∃ t34 : Option Addr, ∃ tl35 : Nat, ∃ tc36 : Nat, v33 = (.slice t34 tl35 tc36) ∧
            InR .i64 (i25 - 8) ∧
            (I23 t34 tl35 tc36 (i25 - 8) w33 ∧ M23 t34 tl35 tc36 (i25 - 8) w33 < M23 out24 outl24 outc24 i25 w26))) ∧
         ((i25 < 0) →
          ∀ w27, Ext w26 w27 →
          Q (.tuple #[(.slice out24 outl24 outc24), (.int .i64 0)]) w27))

theorem ok_journal_Frame (x_0 : Int) (x_1 : ByteArray) (x_2 : Int) (x_3 : Int) (x_4 : Int) (x_5 : Int) (x_6 : Int) (x_7 : ByteArray) (x_8 : ByteArray) (x_9 : Int) (x_10 : Option Addr) (x_10l : Nat) (x_10c : Nat) (x_11 : Option Addr) (x_11l : Nat) (x_11c : Nat) (x_12 : Int) (x_13 : Int) (x_14 : Bool) (w : World) (Q : Value → World → Prop) (h : wp_journal_Frame x_0 x_1 x_2 x_3 x_4 x_5 x_6 x_7 x_8 x_9 x_10 x_10l x_10c x_11 x_11l x_11c x_12 x_13 x_14 w Q) : FnP Tryz.prog F_journal_Frame #[(.agg #[(.int .i64 x_0), (.string x_1), (.int .i64 x_2), (.int .i64 x_3), (.int .i64 x_4), (.int .i64 x_5), (.int .i64 x_6), (.string x_7), (.string x_8), (.int .i64 x_9), (.slice x_10 x_10l x_10c), (.slice x_11 x_11l x_11c), (.int .i64 x_12), (.int .i64 x_13), (.bool x_14)])] w Q := by
  have e_ : wp_journal_Frame x_0 x_1 x_2 x_3 x_4 x_5 x_6 x_7 x_8 x_9 x_10 x_10l x_10c x_11 x_11l x_11c x_12 x_13 x_14 w Q = Runs Tryz.prog Q ({ N := 42, wrap := [20, 23, 38], pub := [], muts := [], joins := [] } : Cfg) Tryz.f21 (Tryz.f21.body.getD .skip) [.agg [.int .i64 x_0, .str x_1, .int .i64 x_2, .int .i64 x_3, .int .i64 x_4, .int .i64 x_5, .int .i64 x_6, .str x_7, .str x_8, .int .i64 x_9, .slc x_10 x_10l x_10c, .slc x_11 x_11l x_11c, .int .i64 x_12, .int .i64 x_13, .bool (.atom true x_14)]] w := by kernel_rfl
  rw [e_] at h
  exact runs_fn h Tryz.func21 (by kernel_rfl) (fun args w => Tryz.call21 args w) (by kernel_rfl) (by kernel_rfl) rfl rfl

/-- bytes.Equal -/
def wp_bytes_Equal (a : Option Addr) (al : Nat) (ac : Nat) (b : Option Addr) (bl : Nat) (bc : Nat) (w : World) (Q : Value → World → Prop) : Prop :=
  ∀ w0, Ext w w0 →
  Run Tryz.prog (.convert 32 9 (.slice a al ac)) w0 fun v1 w1 =>
   Ext w0 w1 ∧
   ∃ t2 : ByteArray, v1 = (.string t2) ∧
   ∀ w3, Ext w w3 →
   Run Tryz.prog (.convert 32 9 (.slice b bl bc)) w3 fun v4 w4 =>
    Ext w3 w4 ∧
    ∃ t5 : ByteArray, v4 = (.string t5) ∧
    ∀ w6, Ext w w6 →
    Q (.bool (decide (t2 = t5))) w6

theorem ok_bytes_Equal (a : Option Addr) (al : Nat) (ac : Nat) (b : Option Addr) (bl : Nat) (bc : Nat) (w : World) (Q : Value → World → Prop) (h : wp_bytes_Equal a al ac b bl bc w Q) : FnP Tryz.prog F_bytes_Equal #[(.slice a al ac), (.slice b bl bc)] w Q := by
  have e_ : wp_bytes_Equal a al ac b bl bc w Q = Runs Tryz.prog Q ({ N := 10, wrap := [], pub := [], muts := [], joins := [] } : Cfg) Tryz.f9 (Tryz.f9.body.getD .skip) [.sc (.slc a al ac), .sc (.slc b bl bc)] w := by kernel_rfl
  rw [e_] at h
  exact runs_fn h Tryz.func9 (by kernel_rfl) (fun args w => Tryz.call9 args w) (by kernel_rfl) (by kernel_rfl) rfl rfl

/-- shiftbell/need.parts -/
def wp_need_parts (a : Option Addr) (w : World) (Q : Value → World → Prop) : Prop :=
  a ≠ none ∧
  a ≠ none ∧
  a ≠ none ∧
  a ≠ none ∧
  a ≠ none ∧
  a ≠ none ∧
  ∀ w0, Ext w w0 →
  Run Tryz.prog (.buildSlice 94 3 [(0, (.agg #[(.string (⟨#[99, 112, 117]⟩ : ByteArray)), (.pointer (pAdd a 0))])), (1, (.agg #[(.string (⟨#[109, 101, 109]⟩ : ByteArray)), (.pointer (pAdd a 1))])), (2, (.agg #[(.string (⟨#[103, 112, 117]⟩ : ByteArray)), (.pointer (pAdd a 2))]))]) w0 fun v1 w1 =>
   Ext w0 w1 ∧
   ∃ t2 : Option Addr, ∃ tl3 : Nat, ∃ tc4 : Nat, v1 = (.slice t2 tl3 tc4) ∧
   ∀ w5, Ext w1 w5 →
   Q (.slice t2 tl3 tc4) w5

theorem ok_need_parts (a : Option Addr) (w : World) (Q : Value → World → Prop) (h : wp_need_parts a w Q) : FnP Tryz.prog F_need_parts #[(.pointer a)] w Q := by
  have e_ : wp_need_parts a w Q = Runs Tryz.prog Q ({ N := 16, wrap := [], pub := [], muts := [], joins := [] } : Cfg) Tryz.f48 (Tryz.f48.body.getD .skip) [.sc (.ptr a)] w := by kernel_rfl
  rw [e_] at h
  exact runs_fn h Tryz.func48 (by kernel_rfl) (fun args w => Tryz.call48 args w) (by kernel_rfl) (by kernel_rfl) rfl rfl

/-- shiftbell/need.Check -/
def wp_need_Check (a_0 : Int) (a_1 : Int) (a_2 : Int) (w : World) (Q : Value → World → Prop) : Prop :=
  ∀ w0, Ext w w0 →
  New w0 23 [(.int .i64 a_0), (.int .i64 a_1), (.int .i64 a_2)] fun p1 w1 =>
   ∀ w2, Ext w1 w2 →
   FnP Tryz.prog F_need_parts #[(.pointer p1)] w2 fun v3 w3 =>
    Ext w2 w3 ∧
    ∃ t4 : Option Addr, ∃ tl5 : Nat, ∃ tc6 : Nat, v3 = (.slice t4 tl5 tc6) ∧
    ∃ (I7 : Int → World → Prop) (M7 : Int → World → Nat), I7 0 w3 ∧
    ∀ (k8 : Int) (w9 : World), I7 k8 w9 →
     (((k8 < (tl5 : Int)) →
      t4 ≠ none ∧
      (0 : Int) ≤ k8 ∧
      (k8 : Int) < (tl5 : Int) ∧
      (pIdx t4 k8 2) ≠ none ∧
      ∃ t10 : ByteArray, cell w9 (pIdx t4 k8 2) 0 = some (.string t10) ∧
      ∃ t11 : Option Addr, cell w9 (pIdx t4 k8 2) 1 = some (.pointer t11) ∧
      ∀ b12 : Nat, w9.heap.size ≤ b12 → t11 ≠ none ∧
      ∃ t13 : Int, cell w9 t11 0 = some (.int .i64 t13) ∧
      ((0 ≤ t13) →
       t11 ≠ none) ∧
      ((t13 < 0) →
       ∀ w14, Ext w9 w14 →
       Q (.int .i64 4) w14) ∧
      ((0 ≤ t13) →
       ∃ t14 : Int, cell w9 t11 0 = some (.int .i64 t14) ∧
       ((1099511627776 < t14) →
        ∀ w15, Ext w9 w15 →
        Q (.int .i64 4) w15) ∧
       ((t14 ≤ 1099511627776) →
        InR .i64 (k8 + 1) ∧
        (I7 (k8 + 1) w9 ∧ M7 (k8 + 1) w9 < M7 k8 w9))))) ∧
     (((tl5 : Int) ≤ k8) →
      ∀ w10, Ext w9 w10 →
      Q (.int .i64 0) w10)

theorem ok_need_Check (a_0 : Int) (a_1 : Int) (a_2 : Int) (w : World) (Q : Value → World → Prop) (h : wp_need_Check a_0 a_1 a_2 w Q) : FnP Tryz.prog F_need_Check #[(.agg #[(.int .i64 a_0), (.int .i64 a_1), (.int .i64 a_2)])] w Q := by
  have e_ : wp_need_Check a_0 a_1 a_2 w Q = Runs Tryz.prog Q ({ N := 24, wrap := [], pub := [1], muts := [], joins := [] } : Cfg) Tryz.f34 (Tryz.f34.body.getD .skip) [.agg [.int .i64 a_0, .int .i64 a_1, .int .i64 a_2]] w := by kernel_rfl
  rw [e_] at h
  exact runs_fn h Tryz.func34 (by kernel_rfl) (fun args w => Tryz.call34 args w) (by kernel_rfl) (by kernel_rfl) rfl rfl

/-- shiftbell/need.Text -/
def wp_need_Text (a_0 : Int) (a_1 : Int) (a_2 : Int) (w : World) (Q : Value → World → Prop) : Prop :=
  ∀ b0 : Nat, w.heap.size ≤ b0 → ∀ w1, Ext w w1 →
  FnP Tryz.prog F_need_Check #[(.agg #[(.int .i64 a_0), (.int .i64 a_1), (.int .i64 a_2)])] w1 fun v2 w2 =>
   Ext w1 w2 ∧
   ∃ t3 : Int, v2 = (.int .i64 t3) ∧
   ((t3 ≠ 0) →
    ∀ w4, Ext w w4 →
    Q (.tuple #[(.string (⟨#[]⟩ : ByteArray)), (.int .i64 t3)]) w4) ∧
   ((t3 = 0) →
    ∀ w4, Ext w w4 →
    FnP Tryz.prog F_need_text #[(.agg #[(.int .i64 a_0), (.int .i64 a_1), (.int .i64 a_2)])] w4 fun v5 w5 =>
     Ext w4 w5 ∧
     ∃ t6 : ByteArray, v5 = (.string t6) ∧
     ∀ w7, Ext w w7 →
     Q (.tuple #[(.string t6), (.int .i64 0)]) w7)

theorem ok_need_Text (a_0 : Int) (a_1 : Int) (a_2 : Int) (w : World) (Q : Value → World → Prop) (h : wp_need_Text a_0 a_1 a_2 w Q) : FnP Tryz.prog F_need_Text #[(.agg #[(.int .i64 a_0), (.int .i64 a_1), (.int .i64 a_2)])] w Q := by
  have e_ : wp_need_Text a_0 a_1 a_2 w Q = Runs Tryz.prog Q ({ N := 12, wrap := [], pub := [], muts := [], joins := [] } : Cfg) Tryz.f22 (Tryz.f22.body.getD .skip) [.agg [.int .i64 a_0, .int .i64 a_1, .int .i64 a_2]] w := by kernel_rfl
  rw [e_] at h
  exact runs_fn h Tryz.func22 (by kernel_rfl) (fun args w => Tryz.call22 args w) (by kernel_rfl) (by kernel_rfl) rfl rfl

/-- shiftbell/need.text -/
def wp_need_text (a_0 : Int) (a_1 : Int) (a_2 : Int) (w : World) (Q : Value → World → Prop) : Prop :=
  ∀ w0, Ext w w0 →
  New w0 23 [(.int .i64 a_0), (.int .i64 a_1), (.int .i64 a_2)] fun p1 w1 =>
   ∀ w2, Ext w1 w2 →
   FnP Tryz.prog F_need_parts #[(.pointer p1)] w2 fun v3 w3 =>
    Ext w2 w3 ∧
    ∃ t4 : Option Addr, ∃ tl5 : Nat, ∃ tc6 : Nat, v3 = (.slice t4 tl5 tc6) ∧
    ∃ (I7 : Option Addr → Nat → Nat → Int → World → Prop) (M7 : Option Addr → Nat → Nat → Int → World → Nat), I7 none 0 0 0 w3 ∧
    ∀ (out8 : Option Addr) (outl8 : Nat) (outc8 : Nat) (k9 : Int) (w10 : World), I7 out8 outl8 outc8 k9 w10 →
     (((k9 < (tl5 : Int)) →
      t4 ≠ none ∧
      (0 : Int) ≤ k9 ∧
      (k9 : Int) < (tl5 : Int) ∧
      (pIdx t4 k9 2) ≠ none ∧
      ∃ t11 : ByteArray, cell w10 (pIdx t4 k9 2) 0 = some (.string t11) ∧
      ∃ t12 : Option Addr, cell w10 (pIdx t4 k9 2) 1 = some (.pointer t12) ∧
      ∀ b13 : Nat, w10.heap.size ≤ b13 → t12 ≠ none ∧
      ∃ t14 : Int, cell w10 t12 0 = some (.int .i64 t14) ∧
      (((t14 ≠ 0) →
       CatOk t11 (⟨#[61]⟩ : ByteArray) ∧
       t12 ≠ none ∧
       ∃ t15 : Int, cell w10 t12 0 = some (.int .i64 t15) ∧
       ∀ w16, Ext w10 w16 →
       FnP Tryz.prog F_strconv_FormatInt #[(.int .i64 t15), (.int .i64 10)] w16 fun v17 w17 =>
        Ext w16 w17 ∧
        ∃ t18 : ByteArray, v17 = (.string t18) ∧
        CatOk (t11 ++ (⟨#[61]⟩ : ByteArray)) t18 ∧
        ∀ w19, ExtB [] [b13] w10 w19 →
        Run Tryz.prog (.buildSlice 64 1 [(0, (.string ((t11 ++ (⟨#[61]⟩ : ByteArray)) ++ t18)))]) w19 fun v20 w20 =>
         Ext w19 w20 ∧
         ∃ t21 : Option Addr, ∃ tl22 : Nat, ∃ tc23 : Nat, v20 = (.slice t21 tl22 tc23) ∧
         ∀ w24, ExtB [] [b13] w20 w24 →
         Run Tryz.prog (.append #[64, 64] 64 [(.slice out8 outl8 outc8), (.slice t21 tl22 tc23)]) w24 fun v25 w25 =>
          Kept [b13] w24 w25 ∧
          ∃ t26 : Option Addr, ∃ tl27 : Nat, ∃ tc28 : Nat, v25 = (.slice t26 tl27 tc28) ∧
          InR .i64 (k9 + 1) ∧
          (I7 t26 tl27 tc28 (k9 + 1) w25 ∧ M7 t26 tl27 tc28 (k9 + 1) w25 < M7 out8 outl8 outc8 k9 w10))) ∧
      ((t14 = 0) →
       InR .i64 (k9 + 1) ∧
       (I7 out8 outl8 outc8 (k9 + 1) w10 ∧ M7 out8 outl8 outc8 (k9 + 1) w10 < M7 out8 outl8 outc8 k9 w10)))) ∧
     (((tl5 : Int) ≤ k9) →
      ((out8 = none) →
       ∀ w11, Ext w10 w11 →
       Q (.string (⟨#[45]⟩ : ByteArray)) w11) ∧
      ((out8 ≠ none) →
       ∀ w11, Ext w10 w11 →
       FnP Tryz.prog F_strings_Join #[(.slice out8 outl8 outc8), (.string (⟨#[44]⟩ : ByteArray))] w11 fun v12 w12 =>
        Ext w11 w12 ∧
        ∃ t13 : ByteArray, v12 = (.string t13) ∧
        ∀ w14, Ext w10 w14 →
        Q (.string t13) w14))

theorem ok_need_text (a_0 : Int) (a_1 : Int) (a_2 : Int) (w : World) (Q : Value → World → Prop) (h : wp_need_text a_0 a_1 a_2 w Q) : FnP Tryz.prog F_need_text #[(.agg #[(.int .i64 a_0), (.int .i64 a_1), (.int .i64 a_2)])] w Q := by
  have e_ : wp_need_text a_0 a_1 a_2 w Q = Runs Tryz.prog Q ({ N := 34, wrap := [], pub := [1], muts := [], joins := [] } : Cfg) Tryz.f37 (Tryz.f37.body.getD .skip) [.agg [.int .i64 a_0, .int .i64 a_1, .int .i64 a_2]] w := by kernel_rfl
  rw [e_] at h
  exact runs_fn h Tryz.func37 (by kernel_rfl) (fun args w => Tryz.call37 args w) (by kernel_rfl) (by kernel_rfl) rfl rfl

/-- shiftbell/need.Read -/
def wp_need_Read (s : ByteArray) (w : World) (Q : Value → World → Prop) : Prop :=
  ∀ b0 : Nat, w.heap.size ≤ b0 → ∀ w1, ExtB [] [b0] w w1 →
  New w1 23 [(.int .i64 0), (.int .i64 0), (.int .i64 0)] fun p2 w2 =>
   (((s ≠ (⟨#[45]⟩ : ByteArray)) →
    ∀ w3, ExtB [] [b0] w2 w3 →
    FnP Tryz.prog F_strings_Split #[(.string s), (.string (⟨#[44]⟩ : ByteArray))] w3 fun v4 w4 =>
     Ext w3 w4 ∧
     ∃ t5 : Option Addr, ∃ tl6 : Nat, ∃ tc7 : Nat, v4 = (.slice t5 tl6 tc7) ∧
     ∃ (I8 : Int → World → Prop) (M8 : Int → World → Nat), I8 0 w4 ∧
     ∀ (k9 : Int) (w10 : World), I8 k9 w10 →
      (((k9 < (tl6 : Int)) →
       t5 ≠ none ∧
       (0 : Int) ≤ k9 ∧
       (k9 : Int) < (tl6 : Int) ∧
       ∃ t11 : ByteArray, cell w10 (pIdx t5 k9 1) 0 = some (.string t11) ∧
       ∀ w12, Ext w10 w12 →
       FnP Tryz.prog F_strings_Cut #[(.string t11), (.string (⟨#[61]⟩ : ByteArray))] w12 fun v13 w13 =>
        Ext w12 w13 ∧
        ∃ t14 : ByteArray, ∃ t15 : ByteArray, ∃ t16 : Bool, v13 = (.tuple #[(.string t14), (.string t15), (.bool t16)]) ∧
        ∀ w17, ExtB [] [b0] w10 w17 →
        FnP Tryz.prog F_strconv_ParseInt #[(.string t15), (.int .i64 10), (.int .i64 64)] w17 fun v18 w18 =>
         Ext w17 w18 ∧
         ∃ t19 : Int, ∃ t20 : Value, v18 = (.tuple #[(.int .i64 t19), t20]) ∧
         ∀ w21, Ext w18 w21 →
         Run Tryz.prog (.eq .neq 67 false true t20 .nilIface) w21 fun v22 w22 =>
          Ext w21 w22 ∧
          ∃ t23 : Bool, v22 = (.bool t23) ∧
          (((t23 = true) ∨ (t19 ≤ 0)) →
           ∀ w24, ExtB [b0] [] w18 w24 →
           Q (.tuple #[(.agg #[(.int .i64 0), (.int .i64 0), (.int .i64 0)]), (.int .i64 3)]) w24) ∧
          (((t23 = false) ∧ (0 < t19)) →
           ∀ w24, ExtB [] [b0] w18 w24 →
           FnP Tryz.prog F_need_parts #[(.pointer p2)] w24 fun v25 w25 =>
            Ext w24 w25 ∧
            ∃ t26 : Option Addr, ∃ tl27 : Nat, ∃ tc28 : Nat, v25 = (.slice t26 tl27 tc28) ∧
            ∃ (I29 : Int → World → Prop) (M29 : Int → World → Nat), I29 0 w25 ∧
            ∀ (k30 : Int) (w31 : World), I29 k30 w31 →
             (((k30 < (tl27 : Int)) →
              t26 ≠ none ∧
              (0 : Int) ≤ k30 ∧
              (k30 : Int) < (tl27 : Int) ∧
              (pIdx t26 k30 2) ≠ none ∧
              ∃ t32 : ByteArray, cell w31 (pIdx t26 k30 2) 0 = some (.string t32) ∧
              ∃ t33 : Option Addr, cell w31 (pIdx t26 k30 2) 1 = some (.pointer t33) ∧
              ∀ b34 : Nat, w31.heap.size ≤ b34 → (((t32 = t14) →
               t33 ≠ none ∧
               Store w31 t33 [(.int .i64 t19)] [b0, b34] fun w35 =>
                InR .i64 (k30 + 1) ∧
                (I29 (k30 + 1) w35 ∧ M29 (k30 + 1) w35 < M29 k30 w31))) ∧
              ((t32 ≠ t14) →
               InR .i64 (k30 + 1) ∧
               (I29 (k30 + 1) w31 ∧ M29 (k30 + 1) w31 < M29 k30 w31)))) ∧
             (((tl27 : Int) ≤ k30) →
              InR .i64 (k9 + 1) ∧
              (I8 (k9 + 1) w31 ∧ M8 (k9 + 1) w31 < M8 k9 w10))))) ∧
      (((tl6 : Int) ≤ k9) →
       p2 ≠ none ∧
       ∃ t11 : Int, cell w10 p2 0 = some (.int .i64 t11) ∧
       ∃ t12 : Int, cell w10 p2 1 = some (.int .i64 t12) ∧
       ∃ t13 : Int, cell w10 p2 2 = some (.int .i64 t13) ∧
       ∀ w14, Ext w10 w14 →
       FnP Tryz.prog F_need_text #[(.agg #[(.int .i64 t11), (.int .i64 t12), (.int .i64 t13)])] w14 fun v15 w15 =>
        Ext w14 w15 ∧
        ∃ t16 : ByteArray, v15 = (.string t16) ∧
        ((t16 ≠ s) →
         ∀ w17, ExtB [b0] [] w10 w17 →
         Q (.tuple #[(.agg #[(.int .i64 0), (.int .i64 0), (.int .i64 0)]), (.int .i64 3)]) w17) ∧
        ((t16 = s) →
         p2 ≠ none ∧
         ∃ t17 : Int, cell w10 p2 0 = some (.int .i64 t17) ∧
         ∃ t18 : Int, cell w10 p2 1 = some (.int .i64 t18) ∧
         ∃ t19 : Int, cell w10 p2 2 = some (.int .i64 t19) ∧
         ∀ w20, Ext w10 w20 →
         FnP Tryz.prog F_need_Check #[(.agg #[(.int .i64 t17), (.int .i64 t18), (.int .i64 t19)])] w20 fun v21 w21 =>
          Ext w20 w21 ∧
          ∃ t22 : Int, v21 = (.int .i64 t22) ∧
          ((t22 ≠ 0) →
           ∀ w23, ExtB [b0] [] w10 w23 →
           Q (.tuple #[(.agg #[(.int .i64 0), (.int .i64 0), (.int .i64 0)]), (.int .i64 t22)]) w23) ∧
          ((t22 = 0) →
           p2 ≠ none ∧
           ∃ t23 : Int, cell w10 p2 0 = some (.int .i64 t23) ∧
           ∃ t24 : Int, cell w10 p2 1 = some (.int .i64 t24) ∧
           ∃ t25 : Int, cell w10 p2 2 = some (.int .i64 t25) ∧
           ∀ w26, ExtB [b0] [] w10 w26 →
           Q (.tuple #[(.agg #[(.int .i64 t23), (.int .i64 t24), (.int .i64 t25)]), (.int .i64 0)]) w26))))) ∧
   ((s = (⟨#[45]⟩ : ByteArray)) →
    p2 ≠ none ∧
    ∃ t3 : Int, cell w2 p2 0 = some (.int .i64 t3) ∧
    ∃ t4 : Int, cell w2 p2 1 = some (.int .i64 t4) ∧
    ∃ t5 : Int, cell w2 p2 2 = some (.int .i64 t5) ∧
    ∀ w6, Ext w2 w6 →
    FnP Tryz.prog F_need_text #[(.agg #[(.int .i64 t3), (.int .i64 t4), (.int .i64 t5)])] w6 fun v7 w7 =>
     Ext w6 w7 ∧
     ∃ t8 : ByteArray, v7 = (.string t8) ∧
     ((t8 ≠ s) →
      ∀ w9, ExtB [b0] [] w2 w9 →
      Q (.tuple #[(.agg #[(.int .i64 0), (.int .i64 0), (.int .i64 0)]), (.int .i64 3)]) w9) ∧
     ((t8 = s) →
      p2 ≠ none ∧
      ∃ t9 : Int, cell w2 p2 0 = some (.int .i64 t9) ∧
      ∃ t10 : Int, cell w2 p2 1 = some (.int .i64 t10) ∧
      ∃ t11 : Int, cell w2 p2 2 = some (.int .i64 t11) ∧
      ∀ w12, Ext w2 w12 →
      FnP Tryz.prog F_need_Check #[(.agg #[(.int .i64 t9), (.int .i64 t10), (.int .i64 t11)])] w12 fun v13 w13 =>
       Ext w12 w13 ∧
       ∃ t14 : Int, v13 = (.int .i64 t14) ∧
       ((t14 ≠ 0) →
        ∀ w15, ExtB [b0] [] w2 w15 →
        Q (.tuple #[(.agg #[(.int .i64 0), (.int .i64 0), (.int .i64 0)]), (.int .i64 t14)]) w15) ∧
       ((t14 = 0) →
        p2 ≠ none ∧
        ∃ t15 : Int, cell w2 p2 0 = some (.int .i64 t15) ∧
        ∃ t16 : Int, cell w2 p2 1 = some (.int .i64 t16) ∧
        ∃ t17 : Int, cell w2 p2 2 = some (.int .i64 t17) ∧
        ∀ w18, ExtB [b0] [] w2 w18 →
        Q (.tuple #[(.agg #[(.int .i64 t15), (.int .i64 t16), (.int .i64 t17)]), (.int .i64 0)]) w18)))

theorem ok_need_Read (s : ByteArray) (w : World) (Q : Value → World → Prop) (h : wp_need_Read s w Q) : FnP Tryz.prog F_need_Read #[(.string s)] w Q := by
  have e_ : wp_need_Read s w Q = Runs Tryz.prog Q ({ N := 70, wrap := [], pub := [4], muts := [], joins := [] } : Cfg) Tryz.f29 (Tryz.f29.body.getD .skip) [.sc (.str s)] w := by kernel_rfl
  rw [e_] at h
  exact runs_fn h Tryz.func29 (by kernel_rfl) (fun args w => Tryz.call29 args w) (by kernel_rfl) (by kernel_rfl) rfl rfl

end Go.Proofs.YtenppnomdejmlaaGreatDoor
