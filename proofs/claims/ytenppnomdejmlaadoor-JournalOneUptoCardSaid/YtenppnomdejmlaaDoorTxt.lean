/- The texts of this seat's functions: what each computes, as its symbolic run says it. -/
import Derived.Test.YtenppnomdejmlaaDoorRows
import Derived.Test.YtenppnomdejmlaaDoorSxD
import Derived.Test.YtenppnomdejmlaaDoorSxN
set_option linter.unusedVariables false
set_option linter.unusedSimpArgs false
set_option maxRecDepth 100000
namespace Go.Proofs.YtenppnomdejmlaaDoor
open Go.Sx Go.RowKit

abbrev F_shiftbellkeep_JournalCrash : FuncId := 3
abbrev F_shiftbellkeep_journals : FuncId := 6
abbrev F_journal_New : FuncId := 7
abbrev F_journal_Disk_Write : FuncId := 8
abbrev F_journal_Disk_Sync : FuncId := 9
abbrev F_journal_Disk_Bytes : FuncId := 10
abbrev F_journal_Disk_Crash : FuncId := 11
abbrev F_bytes_Equal : FuncId := 12
abbrev F_job_Text : FuncId := 14
abbrev F_job_Check : FuncId := 17
abbrev F_journal_Frame : FuncId := 19
abbrev F_bytes_Clone : FuncId := 20
abbrev F_need_Text : FuncId := 22
abbrev F_strings_Join : FuncId := 24
abbrev F_strings_Split : FuncId := 27
abbrev F_need_Read : FuncId := 29
abbrev F_need_Check : FuncId := 34
abbrev F_event_Encode : FuncId := 37
abbrev F_ticket_Sum : FuncId := 38
abbrev F_need_text : FuncId := 39
abbrev F_strings_Cut : FuncId := 48
abbrev F_strconv_ParseInt : FuncId := 49
abbrev F_need_parts : FuncId := 50
abbrev F_event_Check : FuncId := 55
abbrev F_event_number : FuncId := 56
abbrev F_strconv_FormatInt : FuncId := 57
abbrev F_event_plain : FuncId := 74
abbrev T__0 : TypeId := 0
abbrev T_int64 : TypeId := 2
abbrev T_int : TypeId := 3
abbrev T_bool : TypeId := 4
abbrev T_uint8 : TypeId := 5
abbrev T_string : TypeId := 9
abbrev T_uintptr : TypeId := 12
abbrev T_int32 : TypeId := 21
abbrev T_sl_sl_uint8 : TypeId := 22
abbrev T_sl_uint8 : TypeId := 23
abbrev T_ptr_journal_Disk : TypeId := 25
abbrev T_Errno : TypeId := 27
abbrev T_Need : TypeId := 34
abbrev T_sl_Ask : TypeId := 35
abbrev T_Ask : TypeId := 37
abbrev T_sl_int : TypeId := 38
abbrev T_Job : TypeId := 40
abbrev T_string_Errno : TypeId := 41
abbrev T_Job_Errno : TypeId := 43
abbrev T_sl_Event : TypeId := 48
abbrev T_sl_Event_int : TypeId := 49
abbrev T_Event : TypeId := 52
abbrev T_sl_uint8_Errno : TypeId := 53
abbrev T_journal_Disk : TypeId := 57
abbrev T_sl_string : TypeId := 65
abbrev T_error : TypeId := 68
abbrev T_int_error : TypeId := 69
abbrev T_Need_Errno : TypeId := 71
abbrev T_Ask_Errno : TypeId := 73
abbrev T_uint : TypeId := 80
abbrev T_Event_Errno : TypeId := 81
abbrev T_uint64 : TypeId := 83
abbrev T_ptr_strings_Builder : TypeId := 87
abbrev T_strings_Builder : TypeId := 89
abbrev T_string_string_bool : TypeId := 94
abbrev T_int64_error : TypeId := 96
abbrev T_sl_need_part : TypeId := 98
abbrev T_ptr_Need : TypeId := 100
abbrev T_ptr_int64 : TypeId := 101
abbrev T_need_part : TypeId := 103
abbrev T_ptr_ask_reader : TypeId := 104
abbrev T_ask_reader : TypeId := 106
abbrev T_Ask_bool : TypeId := 107
abbrev T_ptr_uint8 : TypeId := 114
abbrev T_strconv_Error : TypeId := 117
abbrev T_ptr_strconv_NumError : TypeId := 118
abbrev T_unsafe_Pointer : TypeId := 123
abbrev T_sl_uint8_string : TypeId := 129
abbrev T_int32_int : TypeId := 132
abbrev T_uint64_error : TypeId := 135
abbrev T_strconv_NumError : TypeId := 139
abbrev T_uint32 : TypeId := 144
abbrev T_ptr_errors_errorString : TypeId := 149
abbrev T_errors_errorString : TypeId := 151
abbrev T_strings_asciiSet : TypeId := 154
abbrev T_strings_asciiSet_bool : TypeId := 155
abbrev T_utf8_acceptRange : TypeId := 160
abbrev T_uint32_uint32 : TypeId := 162
abbrev T_ptr_strings_asciiSet : TypeId := 165
theorem elem_sl_sl_uint8 : slEl Tryd.prog 22 = some (23, 1, 24, (.slice none 0 0)) := by kernel_rfl
theorem elem_sl_uint8 : slEl Tryd.prog 23 = some (5, 1, 1, (.int .u8 0)) := by kernel_rfl
theorem elem_sl_Ask : slEl Tryd.prog 35 = some (37, 5, 72, (.agg #[(.int .i64 0), (.string (⟨#[]⟩ : ByteArray)), (.string (⟨#[]⟩ : ByteArray)), (.int .i64 0), (.slice none 0 0)])) := by kernel_rfl
theorem elem_sl_int : slEl Tryd.prog 38 = some (3, 1, 8, (.int .i64 0)) := by kernel_rfl
theorem elem_sl_Event : slEl Tryd.prog 48 = some (52, 15, 176, (.agg #[(.int .i64 0), (.string (⟨#[]⟩ : ByteArray)), (.int .i64 0), (.int .i64 0), (.int .i64 0), (.int .i64 0), (.int .i64 0), (.string (⟨#[]⟩ : ByteArray)), (.string (⟨#[]⟩ : ByteArray)), (.int .i64 0), (.slice none 0 0), (.slice none 0 0), (.int .i64 0), (.int .i64 0), (.bool false)])) := by kernel_rfl
theorem elem_sl_string : slEl Tryd.prog 65 = some (9, 1, 16, (.string (⟨#[]⟩ : ByteArray))) := by kernel_rfl
theorem elem_sl_need_part : slEl Tryd.prog 98 = some (103, 2, 24, (.agg #[(.string (⟨#[]⟩ : ByteArray)), (.pointer none)])) := by kernel_rfl

/-- shiftbell/ticket.Sum -/
def wp_ticket_Sum (key : Int) (s : ByteArray) (w : World) (Q : Value → World → Prop) : Prop :=
  ∀ w0, Ext w w0 →
  Run Tryd.prog (.convert 9 23 (.string s)) w0 fun v1 w1 =>
   Ext w0 w1 ∧
   ∃ t2 : Option Addr, ∃ tl3 : Nat, ∃ tc4 : Nat, v1 = (.slice t2 tl3 tc4) ∧
   ∃ (I5 : Int → Int → World → Prop) (M5 : Int → Int → World → Nat), I5 key 0 w1 ∧
   ∀ (u6 : Int) (k7 : Int) (w8 : World), I5 u6 k7 w8 →
    (((k7 < (tl3 : Int)) →
     t2 ≠ none ∧
     (0 : Int) ≤ k7 ∧
     (k7 : Int) < (tl3 : Int) ∧
     ∃ t9 : Int, cell w8 (pIdx t2 k7 1) 0 = some (.int .u8 t9) ∧
     InR .u64 t9 ∧
     InR .i64 (k7 + 1) ∧
     (I5 (iBit .xor .u64 (IntKind.wrap .u64 ((IntKind.wrap .u64 (u6 + t9)) * 11400714785074694791)) (iBit .shr .u64 (IntKind.wrap .u64 ((IntKind.wrap .u64 (u6 + t9)) * 11400714785074694791)) 31)) (k7 + 1) w8 ∧ M5 (iBit .xor .u64 (IntKind.wrap .u64 ((IntKind.wrap .u64 (u6 + t9)) * 11400714785074694791)) (iBit .shr .u64 (IntKind.wrap .u64 ((IntKind.wrap .u64 (u6 + t9)) * 11400714785074694791)) 31)) (k7 + 1) w8 < M5 u6 k7 w8))) ∧
    (((tl3 : Int) ≤ k7) →
     ∀ w9, Ext w8 w9 →
     Q (.int .u64 u6) w9)

theorem ok_ticket_Sum (key : Int) (s : ByteArray) (w : World) (Q : Value → World → Prop) (h : wp_ticket_Sum key s w Q) : FnP Tryd.prog F_ticket_Sum #[(.int .u64 key), (.string s)] w Q := by
  have e_ : wp_ticket_Sum key s w Q = Runs Tryd.prog Q ({ N := 27, wrap := [19, 20], pub := [], muts := [], joins := [] } : Cfg) Tryd.f38 (Tryd.f38.body.getD .skip) [.sc (.int .u64 key), .sc (.str s)] w := by kernel_rfl
  rw [e_] at h
  exact runs_fn h Tryd.func38 (by kernel_rfl) (fun args w => Tryd.call38 args w) (by kernel_rfl) (by kernel_rfl) rfl rfl

/-- shiftbell/event.plain -/
def wp_event_plain (j_0 : ByteArray) (j_1 : Int) (j_2 : Int) (j_3 : Int) (j_4 : Int) (j_5 : Int) (j_6 : ByteArray) (j_7 : ByteArray) (j_8 : Int) (j_9 : Option Addr) (j_9l : Nat) (j_9c : Nat) (j_10 : Option Addr) (j_10l : Nat) (j_10c : Nat) (w : World) (Q : Value → World → Prop) : Prop :=
  ∀ b0 : Nat, w.heap.size ≤ b0 → ((((j_0 = (⟨#[]⟩ : ByteArray)) ∧ (j_1 = 0)) →
   ∀ w1, Ext w w1 →
   Run Tryd.prog (.eq .eql 34 false false (.agg #[(.int .i64 j_2), (.int .i64 j_3), (.int .i64 j_4)]) (.agg #[(.int .i64 0), (.int .i64 0), (.int .i64 0)])) w1 fun v2 w2 =>
    Ext w1 w2 ∧
    ∃ t3 : Bool, v2 = (.bool t3) ∧
    ∀ w4, Ext w w4 →
    Q (.bool ((((((t3 && (decide ((j_10l : Int) = 0))) && (decide (j_5 = 0))) && (decide (j_6 = (⟨#[]⟩ : ByteArray)))) && (decide (j_7 = (⟨#[]⟩ : ByteArray)))) && (decide (j_8 = 0))) && (decide ((j_9l : Int) = 0)))) w4)) ∧
  (((j_0 ≠ (⟨#[]⟩ : ByteArray)) ∨ (j_1 ≠ 0)) →
   ∀ w1, Ext w w1 →
   Q (.bool false) w1)

theorem ok_event_plain (j_0 : ByteArray) (j_1 : Int) (j_2 : Int) (j_3 : Int) (j_4 : Int) (j_5 : Int) (j_6 : ByteArray) (j_7 : ByteArray) (j_8 : Int) (j_9 : Option Addr) (j_9l : Nat) (j_9c : Nat) (j_10 : Option Addr) (j_10l : Nat) (j_10c : Nat) (w : World) (Q : Value → World → Prop) (h : wp_event_plain j_0 j_1 j_2 j_3 j_4 j_5 j_6 j_7 j_8 j_9 j_9l j_9c j_10 j_10l j_10c w Q) : FnP Tryd.prog F_event_plain #[(.agg #[(.string j_0), (.int .i64 j_1), (.int .i64 j_2), (.int .i64 j_3), (.int .i64 j_4), (.int .i64 j_5), (.string j_6), (.string j_7), (.int .i64 j_8), (.slice j_9 j_9l j_9c), (.slice j_10 j_10l j_10c)])] w Q := by
  have e_ : wp_event_plain j_0 j_1 j_2 j_3 j_4 j_5 j_6 j_7 j_8 j_9 j_9l j_9c j_10 j_10l j_10c w Q = Runs Tryd.prog Q ({ N := 54, wrap := [], pub := [], muts := [], joins := [] } : Cfg) Tryd.f74 (Tryd.f74.body.getD .skip) [.agg [.str j_0, .int .i64 j_1, .int .i64 j_2, .int .i64 j_3, .int .i64 j_4, .int .i64 j_5, .str j_6, .str j_7, .int .i64 j_8, .slc j_9 j_9l j_9c, .slc j_10 j_10l j_10c]] w := by kernel_rfl
  rw [e_] at h
  exact runs_fn h Tryd.func74 (by kernel_rfl) (fun args w => Tryd.call74 args w) (by kernel_rfl) (by kernel_rfl) rfl rfl

/-- shiftbell/event.Check -/
def wp_event_Check (x_0 : Int) (x_1 : ByteArray) (x_2 : Int) (x_3 : Int) (x_4 : Int) (x_5 : Int) (x_6 : Int) (x_7 : ByteArray) (x_8 : ByteArray) (x_9 : Int) (x_10 : Option Addr) (x_10l : Nat) (x_10c : Nat) (x_11 : Option Addr) (x_11l : Nat) (x_11c : Nat) (x_12 : Int) (x_13 : Int) (x_14 : Bool) (w : World) (Q : Value → World → Prop) : Prop :=
  ∀ b0 : Nat, w.heap.size ≤ b0 → (((x_0 < 1) ∨ (5 < x_0)) →
   ∀ w1, Ext w w1 →
   Q (.int .i64 1) w1) ∧
  (((1 ≤ x_0) ∧ (x_0 ≤ 5)) →
   (((x_0 ≠ 1) →
    ∀ w1, Ext w w1 →
    FnP Tryd.prog F_event_plain #[(.agg #[(.string x_1), (.int .i64 x_2), (.int .i64 x_3), (.int .i64 x_4), (.int .i64 x_5), (.int .i64 x_6), (.string x_7), (.string x_8), (.int .i64 x_9), (.slice x_10 x_10l x_10c), (.slice x_11 x_11l x_11c)])] w1 fun v2 w2 =>
     Ext w1 w2 ∧
     ∃ t3 : Bool, v2 = (.bool t3) ∧
     ((((((t3 = false) ∨ ((x_0 ≠ 2) ∧ (x_12 ≠ 0))) ∨ (((x_0 ≠ 4) ∧ (x_0 ≠ 5)) ∧ (x_13 ≠ 0))) ∨ ((x_0 ≠ 4) ∧ (x_14 = true))) →
      ∀ w4, Ext w w4 →
      Q (.int .i64 1) w4)) ∧
     (((((t3 = true) ∧ ((x_0 = 2) ∨ (x_12 = 0))) ∧ (((x_0 = 4) ∨ (x_0 = 5)) ∨ (x_13 = 0))) ∧ ((x_0 = 4) ∨ (x_14 = false))) →
      (((x_0 = 1) →
       ∀ w4, Ext w w4 →
       FnP Tryd.prog F_job_Check #[(.agg #[(.string x_1), (.int .i64 x_2), (.int .i64 x_3), (.int .i64 x_4), (.int .i64 x_5), (.int .i64 x_6), (.string x_7), (.string x_8), (.int .i64 x_9), (.slice x_10 x_10l x_10c), (.slice x_11 x_11l x_11c)])] w4 fun v5 w5 =>
        Ext w4 w5 ∧
        ∃ t6 : Int, v5 = (.int .i64 t6) ∧
        ∀ w7, Ext w w7 →
        Q (.int .i64 t6) w7)) ∧
      ((x_0 ≠ 1) →
       (((((x_12 < 0) ∨ (1000000000 < x_12)) ∨ (x_13 < 0)) ∨ (65535 < x_13)) →
        ∀ w4, Ext w w4 →
        Q (.int .i64 4) w4) ∧
       (((((0 ≤ x_12) ∧ (x_12 ≤ 1000000000)) ∧ (0 ≤ x_13)) ∧ (x_13 ≤ 65535)) →
        ∀ w4, Ext w w4 →
        Q (.int .i64 0) w4))))) ∧
   ((x_0 = 1) →
    ((((((x_0 ≠ 2) ∧ (x_12 ≠ 0)) ∨ (((x_0 ≠ 4) ∧ (x_0 ≠ 5)) ∧ (x_13 ≠ 0))) ∨ ((x_0 ≠ 4) ∧ (x_14 = true))) →
     ∀ w1, Ext w w1 →
     Q (.int .i64 1) w1)) ∧
    (((((x_0 = 2) ∨ (x_12 = 0)) ∧ (((x_0 = 4) ∨ (x_0 = 5)) ∨ (x_13 = 0))) ∧ ((x_0 = 4) ∨ (x_14 = false))) →
     (((x_0 = 1) →
      ∀ w1, Ext w w1 →
      FnP Tryd.prog F_job_Check #[(.agg #[(.string x_1), (.int .i64 x_2), (.int .i64 x_3), (.int .i64 x_4), (.int .i64 x_5), (.int .i64 x_6), (.string x_7), (.string x_8), (.int .i64 x_9), (.slice x_10 x_10l x_10c), (.slice x_11 x_11l x_11c)])] w1 fun v2 w2 =>
       Ext w1 w2 ∧
       ∃ t3 : Int, v2 = (.int .i64 t3) ∧
       ∀ w4, Ext w w4 →
       Q (.int .i64 t3) w4)) ∧
     ((x_0 ≠ 1) →
      (((((x_12 < 0) ∨ (1000000000 < x_12)) ∨ (x_13 < 0)) ∨ (65535 < x_13)) →
       ∀ w1, Ext w w1 →
       Q (.int .i64 4) w1) ∧
      (((((0 ≤ x_12) ∧ (x_12 ≤ 1000000000)) ∧ (0 ≤ x_13)) ∧ (x_13 ≤ 65535)) →
       ∀ w1, Ext w w1 →
       Q (.int .i64 0) w1)))))

theorem ok_event_Check (x_0 : Int) (x_1 : ByteArray) (x_2 : Int) (x_3 : Int) (x_4 : Int) (x_5 : Int) (x_6 : Int) (x_7 : ByteArray) (x_8 : ByteArray) (x_9 : Int) (x_10 : Option Addr) (x_10l : Nat) (x_10c : Nat) (x_11 : Option Addr) (x_11l : Nat) (x_11c : Nat) (x_12 : Int) (x_13 : Int) (x_14 : Bool) (w : World) (Q : Value → World → Prop) (h : wp_event_Check x_0 x_1 x_2 x_3 x_4 x_5 x_6 x_7 x_8 x_9 x_10 x_10l x_10c x_11 x_11l x_11c x_12 x_13 x_14 w Q) : FnP Tryd.prog F_event_Check #[(.agg #[(.int .i64 x_0), (.string x_1), (.int .i64 x_2), (.int .i64 x_3), (.int .i64 x_4), (.int .i64 x_5), (.int .i64 x_6), (.string x_7), (.string x_8), (.int .i64 x_9), (.slice x_10 x_10l x_10c), (.slice x_11 x_11l x_11c), (.int .i64 x_12), (.int .i64 x_13), (.bool x_14)])] w Q := by
  have e_ : wp_event_Check x_0 x_1 x_2 x_3 x_4 x_5 x_6 x_7 x_8 x_9 x_10 x_10l x_10c x_11 x_11l x_11c x_12 x_13 x_14 w Q = Runs Tryd.prog Q ({ N := 88, wrap := [], pub := [], muts := [], joins := [] } : Cfg) Tryd.f55 (Tryd.f55.body.getD .skip) [.agg [.int .i64 x_0, .str x_1, .int .i64 x_2, .int .i64 x_3, .int .i64 x_4, .int .i64 x_5, .int .i64 x_6, .str x_7, .str x_8, .int .i64 x_9, .slc x_10 x_10l x_10c, .slc x_11 x_11l x_11c, .int .i64 x_12, .int .i64 x_13, .bool (.atom true x_14)]] w := by kernel_rfl
  rw [e_] at h
  exact runs_fn h Tryd.func55 (by kernel_rfl) (fun args w => Tryd.call55 args w) (by kernel_rfl) (by kernel_rfl) rfl rfl

/-- shiftbell/event.number -/
def wp_event_number (out : Option Addr) (outl : Nat) (outc : Nat) (n : Int) (many : Int) (w : World) (Q : Value → World → Prop) : Prop :=
  InR .i64 (many - 1) ∧
  ∃ (I0 : Option Addr → Nat → Nat → Int → World → Prop) (M0 : Option Addr → Nat → Nat → Int → World → Nat), I0 out outl outc (many - 1) w ∧
  ∀ (out1 : Option Addr) (outl1 : Nat) (outc1 : Nat) (many2 : Int) (w3 : World), I0 out1 outl1 outc1 many2 w3 →
   (((0 ≤ many2) →
    InR .i64 (8 * many2) ∧
    0 ≤ ((8 * many2) : Int) ∧
    ∀ w4, Ext w3 w4 →
    Run Tryd.prog (.buildSlice 23 1 [(0, (.int .u8 (IntKind.wrap .u8 (iBit .shr .i64 n (8 * many2)))))]) w4 fun v5 w5 =>
     Ext w4 w5 ∧
     ∃ t6 : Option Addr, ∃ tl7 : Nat, ∃ tc8 : Nat, v5 = (.slice t6 tl7 tc8) ∧
     ∀ w9, Ext w5 w9 →
     Run Tryd.prog (.append #[23, 23] 23 [(.slice out1 outl1 outc1), (.slice t6 tl7 tc8)]) w9 fun v10 w10 =>
      ∃ t11 : Option Addr, ∃ tl12 : Nat, ∃ tc13 : Nat, v10 = (.slice t11 tl12 tc13) ∧
      InR .i64 (many2 - 1) ∧
      (I0 t11 tl12 tc13 (many2 - 1) w10 ∧ M0 t11 tl12 tc13 (many2 - 1) w10 < M0 out1 outl1 outc1 many2 w3))) ∧
   ((many2 < 0) →
    ∀ w4, Ext w3 w4 →
    Q (.slice out1 outl1 outc1) w4)

theorem ok_event_number (out : Option Addr) (outl : Nat) (outc : Nat) (n : Int) (many : Int) (w : World) (Q : Value → World → Prop) (h : wp_event_number out outl outc n many w Q) : FnP Tryd.prog F_event_number #[(.slice out outl outc), (.int .i64 n), (.int .i64 many)] w Q := by
  have e_ : wp_event_number out outl outc n many w Q = Runs Tryd.prog Q ({ N := 22, wrap := [18], pub := [], muts := [], joins := [] } : Cfg) Tryd.f56 (Tryd.f56.body.getD .skip) [.sc (.slc out outl outc), .sc (.int .i64 n), .sc (.int .i64 many)] w := by kernel_rfl
  rw [e_] at h
  exact runs_fn h Tryd.func56 (by kernel_rfl) (fun args w => Tryd.call56 args w) (by kernel_rfl) (by kernel_rfl) rfl rfl

/-- shiftbell/event.Encode -/
def wp_event_Encode (x_0 : Int) (x_1 : ByteArray) (x_2 : Int) (x_3 : Int) (x_4 : Int) (x_5 : Int) (x_6 : Int) (x_7 : ByteArray) (x_8 : ByteArray) (x_9 : Int) (x_10 : Option Addr) (x_10l : Nat) (x_10c : Nat) (x_11 : Option Addr) (x_11l : Nat) (x_11c : Nat) (x_12 : Int) (x_13 : Int) (x_14 : Bool) (w : World) (Q : Value → World → Prop) : Prop :=
  ∀ b0 : Nat, w.heap.size ≤ b0 → ∀ w1, Ext w w1 →
  FnP Tryd.prog F_event_Check #[(.agg #[(.int .i64 x_0), (.string x_1), (.int .i64 x_2), (.int .i64 x_3), (.int .i64 x_4), (.int .i64 x_5), (.int .i64 x_6), (.string x_7), (.string x_8), (.int .i64 x_9), (.slice x_10 x_10l x_10c), (.slice x_11 x_11l x_11c), (.int .i64 x_12), (.int .i64 x_13), (.bool x_14)])] w1 fun v2 w2 =>
   Ext w1 w2 ∧
   ∃ t3 : Int, v2 = (.int .i64 t3) ∧
   ((t3 ≠ 0) →
    ∀ w4, Ext w w4 →
    Q (.tuple #[(.slice none 0 0), (.int .i64 t3)]) w4) ∧
   ((t3 = 0) →
    InR .u8 x_0 ∧
    ∀ w4, ExtB [] [b0] w w4 →
    Run Tryd.prog (.buildSlice 23 1 [(0, (.int .u8 x_0))]) w4 fun v5 w5 =>
     Ext w4 w5 ∧
     ∃ t6 : Option Addr, ∃ tl7 : Nat, ∃ tc8 : Nat, v5 = (.slice t6 tl7 tc8) ∧
     (((x_0 = 1) →
      ∀ w9, Ext w5 w9 →
      FnP Tryd.prog F_job_Text #[(.agg #[(.string x_1), (.int .i64 x_2), (.int .i64 x_3), (.int .i64 x_4), (.int .i64 x_5), (.int .i64 x_6), (.string x_7), (.string x_8), (.int .i64 x_9), (.slice x_10 x_10l x_10c), (.slice x_11 x_11l x_11c)])] w9 fun v10 w10 =>
       Ext w9 w10 ∧
       ∃ t11 : ByteArray, ∃ t12 : Int, v10 = (.tuple #[(.string t11), (.int .i64 t12)]) ∧
       ∀ w13, ExtB [] [b0] w5 w13 →
       Run Tryd.prog (.append #[23, 9] 23 [(.slice t6 tl7 tc8), (.string t11)]) w13 fun v14 w14 =>
        Kept [b0] w13 w14 ∧
        ∃ t15 : Option Addr, ∃ tl16 : Nat, ∃ tc17 : Nat, v14 = (.slice t15 tl16 tc17) ∧
        ∀ w18, Ext w14 w18 →
        Q (.tuple #[(.slice t15 tl16 tc17), (.int .i64 0)]) w18)) ∧
     ((x_0 ≠ 1) →
      (((x_0 = 2) →
       ∀ w9, ExtB [] [b0] w5 w9 →
       FnP Tryd.prog F_event_number #[(.slice t6 tl7 tc8), (.int .i64 x_12), (.int .i64 4)] w9 fun v10 w10 =>
        Kept [b0] w9 w10 ∧
        ∃ t11 : Option Addr, ∃ tl12 : Nat, ∃ tc13 : Nat, v10 = (.slice t11 tl12 tc13) ∧
        ∀ w14, Ext w10 w14 →
        Q (.tuple #[(.slice t11 tl12 tc13), (.int .i64 0)]) w14)) ∧
      ((x_0 ≠ 2) →
       (((x_0 = 4) →
        ∀ w9, ExtB [] [b0] w5 w9 →
        FnP Tryd.prog F_event_number #[(.slice t6 tl7 tc8), (.int .i64 x_13), (.int .i64 2)] w9 fun v10 w10 =>
         Kept [b0] w9 w10 ∧
         ∃ t11 : Option Addr, ∃ tl12 : Nat, ∃ tc13 : Nat, v10 = (.slice t11 tl12 tc13) ∧
         (((x_14 = true) →
          ∀ w14, ExtB [] [b0] w10 w14 →
          Run Tryd.prog (.buildSlice 23 1 [(0, (.int .u8 1))]) w14 fun v15 w15 =>
           Ext w14 w15 ∧
           ∃ t16 : Option Addr, ∃ tl17 : Nat, ∃ tc18 : Nat, v15 = (.slice t16 tl17 tc18) ∧
           ∀ w19, ExtB [] [b0] w15 w19 →
           Run Tryd.prog (.append #[23, 23] 23 [(.slice t11 tl12 tc13), (.slice t16 tl17 tc18)]) w19 fun v20 w20 =>
            Kept [b0] w19 w20 ∧
            ∃ t21 : Option Addr, ∃ tl22 : Nat, ∃ tc23 : Nat, v20 = (.slice t21 tl22 tc23) ∧
            ∀ w24, Ext w20 w24 →
            Q (.tuple #[(.slice t21 tl22 tc23), (.int .i64 0)]) w24)) ∧
         ((x_14 = false) →
          ∀ w14, ExtB [] [b0] w10 w14 →
          Run Tryd.prog (.buildSlice 23 1 [(0, (.int .u8 0))]) w14 fun v15 w15 =>
           Ext w14 w15 ∧
           ∃ t16 : Option Addr, ∃ tl17 : Nat, ∃ tc18 : Nat, v15 = (.slice t16 tl17 tc18) ∧
           ∀ w19, ExtB [] [b0] w15 w19 →
           Run Tryd.prog (.append #[23, 23] 23 [(.slice t11 tl12 tc13), (.slice t16 tl17 tc18)]) w19 fun v20 w20 =>
            Kept [b0] w19 w20 ∧
            ∃ t21 : Option Addr, ∃ tl22 : Nat, ∃ tc23 : Nat, v20 = (.slice t21 tl22 tc23) ∧
            ∀ w24, Ext w20 w24 →
            Q (.tuple #[(.slice t21 tl22 tc23), (.int .i64 0)]) w24))) ∧
       ((x_0 ≠ 4) →
        (((x_0 = 5) →
         ∀ w9, ExtB [] [b0] w5 w9 →
         FnP Tryd.prog F_event_number #[(.slice t6 tl7 tc8), (.int .i64 x_13), (.int .i64 2)] w9 fun v10 w10 =>
          Kept [b0] w9 w10 ∧
          ∃ t11 : Option Addr, ∃ tl12 : Nat, ∃ tc13 : Nat, v10 = (.slice t11 tl12 tc13) ∧
          ∀ w14, Ext w10 w14 →
          Q (.tuple #[(.slice t11 tl12 tc13), (.int .i64 0)]) w14)) ∧
        ((x_0 ≠ 5) →
         ∀ w9, Ext w5 w9 →
         Q (.tuple #[(.slice t6 tl7 tc8), (.int .i64 0)]) w9)))))

theorem ok_event_Encode (x_0 : Int) (x_1 : ByteArray) (x_2 : Int) (x_3 : Int) (x_4 : Int) (x_5 : Int) (x_6 : Int) (x_7 : ByteArray) (x_8 : ByteArray) (x_9 : Int) (x_10 : Option Addr) (x_10l : Nat) (x_10c : Nat) (x_11 : Option Addr) (x_11l : Nat) (x_11c : Nat) (x_12 : Int) (x_13 : Int) (x_14 : Bool) (w : World) (Q : Value → World → Prop) (h : wp_event_Encode x_0 x_1 x_2 x_3 x_4 x_5 x_6 x_7 x_8 x_9 x_10 x_10l x_10c x_11 x_11l x_11c x_12 x_13 x_14 w Q) : FnP Tryd.prog F_event_Encode #[(.agg #[(.int .i64 x_0), (.string x_1), (.int .i64 x_2), (.int .i64 x_3), (.int .i64 x_4), (.int .i64 x_5), (.int .i64 x_6), (.string x_7), (.string x_8), (.int .i64 x_9), (.slice x_10 x_10l x_10c), (.slice x_11 x_11l x_11c), (.int .i64 x_12), (.int .i64 x_13), (.bool x_14)])] w Q := by
  have e_ : wp_event_Encode x_0 x_1 x_2 x_3 x_4 x_5 x_6 x_7 x_8 x_9 x_10 x_10l x_10c x_11 x_11l x_11c x_12 x_13 x_14 w Q = Runs Tryd.prog Q ({ N := 57, wrap := [], pub := [], muts := [56], joins := [] } : Cfg) Tryd.f37 (Tryd.f37.body.getD .skip) [.agg [.int .i64 x_0, .str x_1, .int .i64 x_2, .int .i64 x_3, .int .i64 x_4, .int .i64 x_5, .int .i64 x_6, .str x_7, .str x_8, .int .i64 x_9, .slc x_10 x_10l x_10c, .slc x_11 x_11l x_11c, .int .i64 x_12, .int .i64 x_13, .bool (.atom true x_14)]] w := by kernel_rfl
  rw [e_] at h
  exact runs_fn h Tryd.func37 (by kernel_rfl) (fun args w => Tryd.call37 args w) (by kernel_rfl) (by kernel_rfl) rfl rfl

/-- shiftbell/journal.Frame -/
def wp_journal_Frame (x_0 : Int) (x_1 : ByteArray) (x_2 : Int) (x_3 : Int) (x_4 : Int) (x_5 : Int) (x_6 : Int) (x_7 : ByteArray) (x_8 : ByteArray) (x_9 : Int) (x_10 : Option Addr) (x_10l : Nat) (x_10c : Nat) (x_11 : Option Addr) (x_11l : Nat) (x_11c : Nat) (x_12 : Int) (x_13 : Int) (x_14 : Bool) (w : World) (Q : Value → World → Prop) : Prop :=
  ∀ b0 : Nat, w.heap.size ≤ b0 → ∀ w1, ExtB [] [b0] w w1 →
  FnP Tryd.prog F_event_Encode #[(.agg #[(.int .i64 x_0), (.string x_1), (.int .i64 x_2), (.int .i64 x_3), (.int .i64 x_4), (.int .i64 x_5), (.int .i64 x_6), (.string x_7), (.string x_8), (.int .i64 x_9), (.slice x_10 x_10l x_10c), (.slice x_11 x_11l x_11c), (.int .i64 x_12), (.int .i64 x_13), (.bool x_14)])] w1 fun v2 w2 =>
   Ext w1 w2 ∧
   ∃ t3 : Option Addr, ∃ tl4 : Nat, ∃ tc5 : Nat, ∃ t6 : Int, v2 = (.tuple #[(.slice t3 tl4 tc5), (.int .i64 t6)]) ∧
   ((t6 ≠ 0) →
    ∀ w7, Ext w2 w7 →
    Q (.tuple #[(.slice none 0 0), (.int .i64 t6)]) w7) ∧
   ((t6 = 0) →
    ∀ w7, ExtB [] [b0] w2 w7 →
    Run Tryd.prog (.buildSlice 23 2 [(0, (.int .u8 (IntKind.wrap .u8 (iBit .shr .i64 (tl4 : Int) 8)))), (1, (.int .u8 (IntKind.wrap .u8 (tl4 : Int))))]) w7 fun v8 w8 =>
     Ext w7 w8 ∧
     ∃ t9 : Option Addr, ∃ tl10 : Nat, ∃ tc11 : Nat, v8 = (.slice t9 tl10 tc11) ∧
     ∀ w12, ExtB [] [b0] w8 w12 →
     Run Tryd.prog (.append #[23, 23] 23 [(.slice t9 tl10 tc11), (.slice t3 tl4 tc5)]) w12 fun v13 w13 =>
      Kept [b0] w12 w13 ∧
      ∃ t14 : Option Addr, ∃ tl15 : Nat, ∃ tc16 : Nat, v13 = (.slice t14 tl15 tc16) ∧
      ∀ w17, Ext w13 w17 →
      Run Tryd.prog (.convert 23 9 (.slice t3 tl4 tc5)) w17 fun v18 w18 =>
       Ext w17 w18 ∧
       ∃ t19 : ByteArray, v18 = (.string t19) ∧
       ∀ w20, Ext w13 w20 →
       FnP Tryd.prog F_ticket_Sum #[(.int .u64 0), (.string t19)] w20 fun v21 w21 =>
        Ext w20 w21 ∧
        ∃ t22 : Int, v21 = (.int .u64 t22) ∧
        ∃ (I23 : Option Addr → Nat → Nat → Int → World → Prop) (M23 : Option Addr → Nat → Nat → Int → World → Nat), I23 t14 tl15 tc16 56 w13 ∧
        ∀ (out24 : Option Addr) (outl24 : Nat) (outc24 : Nat) (i25 : Int) (w26 : World), I23 out24 outl24 outc24 i25 w26 →
         (((0 ≤ i25) →
          0 ≤ (i25 : Int) ∧
          ∀ w27, ExtB [] [b0] w26 w27 →
          Run Tryd.prog (.buildSlice 23 1 [(0, (.int .u8 (IntKind.wrap .u8 (iBit .shr .u64 t22 i25))))]) w27 fun v28 w28 =>
           Ext w27 w28 ∧
           ∃ t29 : Option Addr, ∃ tl30 : Nat, ∃ tc31 : Nat, v28 = (.slice t29 tl30 tc31) ∧
           ∀ w32, ExtB [] [b0] w28 w32 →
           Run Tryd.prog (.append #[23, 23] 23 [(.slice out24 outl24 outc24), (.slice t29 tl30 tc31)]) w32 fun v33 w33 =>
            Kept [b0] w32 w33 ∧
            ∃ t34 : Option Addr, ∃ tl35 : Nat, ∃ tc36 : Nat, v33 = (.slice t34 tl35 tc36) ∧
            InR .i64 (i25 - 8) ∧
            (I23 t34 tl35 tc36 (i25 - 8) w33 ∧ M23 t34 tl35 tc36 (i25 - 8) w33 < M23 out24 outl24 outc24 i25 w26))) ∧
         ((i25 < 0) →
          ∀ w27, Ext w26 w27 →
          Q (.tuple #[(.slice out24 outl24 outc24), (.int .i64 0)]) w27))

theorem ok_journal_Frame (x_0 : Int) (x_1 : ByteArray) (x_2 : Int) (x_3 : Int) (x_4 : Int) (x_5 : Int) (x_6 : Int) (x_7 : ByteArray) (x_8 : ByteArray) (x_9 : Int) (x_10 : Option Addr) (x_10l : Nat) (x_10c : Nat) (x_11 : Option Addr) (x_11l : Nat) (x_11c : Nat) (x_12 : Int) (x_13 : Int) (x_14 : Bool) (w : World) (Q : Value → World → Prop) (h : wp_journal_Frame x_0 x_1 x_2 x_3 x_4 x_5 x_6 x_7 x_8 x_9 x_10 x_10l x_10c x_11 x_11l x_11c x_12 x_13 x_14 w Q) : FnP Tryd.prog F_journal_Frame #[(.agg #[(.int .i64 x_0), (.string x_1), (.int .i64 x_2), (.int .i64 x_3), (.int .i64 x_4), (.int .i64 x_5), (.int .i64 x_6), (.string x_7), (.string x_8), (.int .i64 x_9), (.slice x_10 x_10l x_10c), (.slice x_11 x_11l x_11c), (.int .i64 x_12), (.int .i64 x_13), (.bool x_14)])] w Q := by
  have e_ : wp_journal_Frame x_0 x_1 x_2 x_3 x_4 x_5 x_6 x_7 x_8 x_9 x_10 x_10l x_10c x_11 x_11l x_11c x_12 x_13 x_14 w Q = Runs Tryd.prog Q ({ N := 42, wrap := [20, 23, 38], pub := [], muts := [], joins := [] } : Cfg) Tryd.f19 (Tryd.f19.body.getD .skip) [.agg [.int .i64 x_0, .str x_1, .int .i64 x_2, .int .i64 x_3, .int .i64 x_4, .int .i64 x_5, .int .i64 x_6, .str x_7, .str x_8, .int .i64 x_9, .slc x_10 x_10l x_10c, .slc x_11 x_11l x_11c, .int .i64 x_12, .int .i64 x_13, .bool (.atom true x_14)]] w := by kernel_rfl
  rw [e_] at h
  exact runs_fn h Tryd.func19 (by kernel_rfl) (fun args w => Tryd.call19 args w) (by kernel_rfl) (by kernel_rfl) rfl rfl

/-- bytes.Equal -/
def wp_bytes_Equal (a : Option Addr) (al : Nat) (ac : Nat) (b : Option Addr) (bl : Nat) (bc : Nat) (w : World) (Q : Value → World → Prop) : Prop :=
  ∀ w0, Ext w w0 →
  Run Tryd.prog (.convert 23 9 (.slice a al ac)) w0 fun v1 w1 =>
   Ext w0 w1 ∧
   ∃ t2 : ByteArray, v1 = (.string t2) ∧
   ∀ w3, Ext w w3 →
   Run Tryd.prog (.convert 23 9 (.slice b bl bc)) w3 fun v4 w4 =>
    Ext w3 w4 ∧
    ∃ t5 : ByteArray, v4 = (.string t5) ∧
    ∀ w6, Ext w w6 →
    Q (.bool (decide (t2 = t5))) w6

theorem ok_bytes_Equal (a : Option Addr) (al : Nat) (ac : Nat) (b : Option Addr) (bl : Nat) (bc : Nat) (w : World) (Q : Value → World → Prop) (h : wp_bytes_Equal a al ac b bl bc w Q) : FnP Tryd.prog F_bytes_Equal #[(.slice a al ac), (.slice b bl bc)] w Q := by
  have e_ : wp_bytes_Equal a al ac b bl bc w Q = Runs Tryd.prog Q ({ N := 10, wrap := [], pub := [], muts := [], joins := [] } : Cfg) Tryd.f12 (Tryd.f12.body.getD .skip) [.sc (.slc a al ac), .sc (.slc b bl bc)] w := by kernel_rfl
  rw [e_] at h
  exact runs_fn h Tryd.func12 (by kernel_rfl) (fun args w => Tryd.call12 args w) (by kernel_rfl) (by kernel_rfl) rfl rfl

/-- shiftbell/need.parts -/
def wp_need_parts (a : Option Addr) (w : World) (Q : Value → World → Prop) : Prop :=
  a ≠ none ∧
  a ≠ none ∧
  a ≠ none ∧
  a ≠ none ∧
  a ≠ none ∧
  a ≠ none ∧
  ∀ w0, Ext w w0 →
  Run Tryd.prog (.buildSlice 98 3 [(0, (.agg #[(.string (⟨#[99, 112, 117]⟩ : ByteArray)), (.pointer (pAdd a 0))])), (1, (.agg #[(.string (⟨#[109, 101, 109]⟩ : ByteArray)), (.pointer (pAdd a 1))])), (2, (.agg #[(.string (⟨#[103, 112, 117]⟩ : ByteArray)), (.pointer (pAdd a 2))]))]) w0 fun v1 w1 =>
   Ext w0 w1 ∧
   ∃ t2 : Option Addr, ∃ tl3 : Nat, ∃ tc4 : Nat, v1 = (.slice t2 tl3 tc4) ∧
   ∀ w5, Ext w1 w5 →
   Q (.slice t2 tl3 tc4) w5

theorem ok_need_parts (a : Option Addr) (w : World) (Q : Value → World → Prop) (h : wp_need_parts a w Q) : FnP Tryd.prog F_need_parts #[(.pointer a)] w Q := by
  have e_ : wp_need_parts a w Q = Runs Tryd.prog Q ({ N := 16, wrap := [], pub := [], muts := [], joins := [] } : Cfg) Tryd.f50 (Tryd.f50.body.getD .skip) [.sc (.ptr a)] w := by kernel_rfl
  rw [e_] at h
  exact runs_fn h Tryd.func50 (by kernel_rfl) (fun args w => Tryd.call50 args w) (by kernel_rfl) (by kernel_rfl) rfl rfl

/-- shiftbell/need.Check -/
def wp_need_Check (a_0 : Int) (a_1 : Int) (a_2 : Int) (w : World) (Q : Value → World → Prop) : Prop :=
  ∀ w0, Ext w w0 →
  New w0 34 [(.int .i64 a_0), (.int .i64 a_1), (.int .i64 a_2)] fun p1 w1 =>
   ∀ w2, Ext w1 w2 →
   FnP Tryd.prog F_need_parts #[(.pointer p1)] w2 fun v3 w3 =>
    Ext w2 w3 ∧
    ∃ t4 : Option Addr, ∃ tl5 : Nat, ∃ tc6 : Nat, v3 = (.slice t4 tl5 tc6) ∧
    ∃ (I7 : Int → World → Prop) (M7 : Int → World → Nat), I7 0 w3 ∧
    ∀ (k8 : Int) (w9 : World), I7 k8 w9 →
     (((k8 < (tl5 : Int)) →
      t4 ≠ none ∧
      (0 : Int) ≤ k8 ∧
      (k8 : Int) < (tl5 : Int) ∧
      (pIdx t4 k8 2) ≠ none ∧
      ∃ t10 : ByteArray, cell w9 (pIdx t4 k8 2) 0 = some (.string t10) ∧
      ∃ t11 : Option Addr, cell w9 (pIdx t4 k8 2) 1 = some (.pointer t11) ∧
      ∀ b12 : Nat, w9.heap.size ≤ b12 → t11 ≠ none ∧
      ∃ t13 : Int, cell w9 t11 0 = some (.int .i64 t13) ∧
      ((0 ≤ t13) →
       t11 ≠ none) ∧
      ((t13 < 0) →
       ∀ w14, Ext w9 w14 →
       Q (.int .i64 4) w14) ∧
      ((0 ≤ t13) →
       ∃ t14 : Int, cell w9 t11 0 = some (.int .i64 t14) ∧
       ((1099511627776 < t14) →
        ∀ w15, Ext w9 w15 →
        Q (.int .i64 4) w15) ∧
       ((t14 ≤ 1099511627776) →
        InR .i64 (k8 + 1) ∧
        (I7 (k8 + 1) w9 ∧ M7 (k8 + 1) w9 < M7 k8 w9))))) ∧
     (((tl5 : Int) ≤ k8) →
      ∀ w10, Ext w9 w10 →
      Q (.int .i64 0) w10)

theorem ok_need_Check (a_0 : Int) (a_1 : Int) (a_2 : Int) (w : World) (Q : Value → World → Prop) (h : wp_need_Check a_0 a_1 a_2 w Q) : FnP Tryd.prog F_need_Check #[(.agg #[(.int .i64 a_0), (.int .i64 a_1), (.int .i64 a_2)])] w Q := by
  have e_ : wp_need_Check a_0 a_1 a_2 w Q = Runs Tryd.prog Q ({ N := 24, wrap := [], pub := [1], muts := [], joins := [] } : Cfg) Tryd.f34 (Tryd.f34.body.getD .skip) [.agg [.int .i64 a_0, .int .i64 a_1, .int .i64 a_2]] w := by kernel_rfl
  rw [e_] at h
  exact runs_fn h Tryd.func34 (by kernel_rfl) (fun args w => Tryd.call34 args w) (by kernel_rfl) (by kernel_rfl) rfl rfl

/-- shiftbell/need.Text -/
def wp_need_Text (a_0 : Int) (a_1 : Int) (a_2 : Int) (w : World) (Q : Value → World → Prop) : Prop :=
  ∀ b0 : Nat, w.heap.size ≤ b0 → ∀ w1, Ext w w1 →
  FnP Tryd.prog F_need_Check #[(.agg #[(.int .i64 a_0), (.int .i64 a_1), (.int .i64 a_2)])] w1 fun v2 w2 =>
   Ext w1 w2 ∧
   ∃ t3 : Int, v2 = (.int .i64 t3) ∧
   ((t3 ≠ 0) →
    ∀ w4, Ext w w4 →
    Q (.tuple #[(.string (⟨#[]⟩ : ByteArray)), (.int .i64 t3)]) w4) ∧
   ((t3 = 0) →
    ∀ w4, Ext w w4 →
    FnP Tryd.prog F_need_text #[(.agg #[(.int .i64 a_0), (.int .i64 a_1), (.int .i64 a_2)])] w4 fun v5 w5 =>
     Ext w4 w5 ∧
     ∃ t6 : ByteArray, v5 = (.string t6) ∧
     ∀ w7, Ext w w7 →
     Q (.tuple #[(.string t6), (.int .i64 0)]) w7)

theorem ok_need_Text (a_0 : Int) (a_1 : Int) (a_2 : Int) (w : World) (Q : Value → World → Prop) (h : wp_need_Text a_0 a_1 a_2 w Q) : FnP Tryd.prog F_need_Text #[(.agg #[(.int .i64 a_0), (.int .i64 a_1), (.int .i64 a_2)])] w Q := by
  have e_ : wp_need_Text a_0 a_1 a_2 w Q = Runs Tryd.prog Q ({ N := 12, wrap := [], pub := [], muts := [], joins := [] } : Cfg) Tryd.f22 (Tryd.f22.body.getD .skip) [.agg [.int .i64 a_0, .int .i64 a_1, .int .i64 a_2]] w := by kernel_rfl
  rw [e_] at h
  exact runs_fn h Tryd.func22 (by kernel_rfl) (fun args w => Tryd.call22 args w) (by kernel_rfl) (by kernel_rfl) rfl rfl

/-- shiftbell/need.text -/
def wp_need_text (a_0 : Int) (a_1 : Int) (a_2 : Int) (w : World) (Q : Value → World → Prop) : Prop :=
  ∀ w0, Ext w w0 →
  New w0 34 [(.int .i64 a_0), (.int .i64 a_1), (.int .i64 a_2)] fun p1 w1 =>
   ∀ w2, Ext w1 w2 →
   FnP Tryd.prog F_need_parts #[(.pointer p1)] w2 fun v3 w3 =>
    Ext w2 w3 ∧
    ∃ t4 : Option Addr, ∃ tl5 : Nat, ∃ tc6 : Nat, v3 = (.slice t4 tl5 tc6) ∧
    ∃ (I7 : Option Addr → Nat → Nat → Int → World → Prop) (M7 : Option Addr → Nat → Nat → Int → World → Nat), I7 none 0 0 0 w3 ∧
    ∀ (out8 : Option Addr) (outl8 : Nat) (outc8 : Nat) (k9 : Int) (w10 : World), I7 out8 outl8 outc8 k9 w10 →
     (((k9 < (tl5 : Int)) →
      t4 ≠ none ∧
      (0 : Int) ≤ k9 ∧
      (k9 : Int) < (tl5 : Int) ∧
      (pIdx t4 k9 2) ≠ none ∧
      ∃ t11 : ByteArray, cell w10 (pIdx t4 k9 2) 0 = some (.string t11) ∧
      ∃ t12 : Option Addr, cell w10 (pIdx t4 k9 2) 1 = some (.pointer t12) ∧
      ∀ b13 : Nat, w10.heap.size ≤ b13 → t12 ≠ none ∧
      ∃ t14 : Int, cell w10 t12 0 = some (.int .i64 t14) ∧
      (((t14 ≠ 0) →
       CatOk t11 (⟨#[61]⟩ : ByteArray) ∧
       t12 ≠ none ∧
       ∃ t15 : Int, cell w10 t12 0 = some (.int .i64 t15) ∧
       ∀ w16, Ext w10 w16 →
       FnP Tryd.prog F_strconv_FormatInt #[(.int .i64 t15), (.int .i64 10)] w16 fun v17 w17 =>
        Ext w16 w17 ∧
        ∃ t18 : ByteArray, v17 = (.string t18) ∧
        CatOk (t11 ++ (⟨#[61]⟩ : ByteArray)) t18 ∧
        ∀ w19, ExtB [] [b13] w10 w19 →
        Run Tryd.prog (.buildSlice 65 1 [(0, (.string ((t11 ++ (⟨#[61]⟩ : ByteArray)) ++ t18)))]) w19 fun v20 w20 =>
         Ext w19 w20 ∧
         ∃ t21 : Option Addr, ∃ tl22 : Nat, ∃ tc23 : Nat, v20 = (.slice t21 tl22 tc23) ∧
         ∀ w24, ExtB [] [b13] w20 w24 →
         Run Tryd.prog (.append #[65, 65] 65 [(.slice out8 outl8 outc8), (.slice t21 tl22 tc23)]) w24 fun v25 w25 =>
          Kept [b13] w24 w25 ∧
          ∃ t26 : Option Addr, ∃ tl27 : Nat, ∃ tc28 : Nat, v25 = (.slice t26 tl27 tc28) ∧
          InR .i64 (k9 + 1) ∧
          (I7 t26 tl27 tc28 (k9 + 1) w25 ∧ M7 t26 tl27 tc28 (k9 + 1) w25 < M7 out8 outl8 outc8 k9 w10))) ∧
      ((t14 = 0) →
       InR .i64 (k9 + 1) ∧
       (I7 out8 outl8 outc8 (k9 + 1) w10 ∧ M7 out8 outl8 outc8 (k9 + 1) w10 < M7 out8 outl8 outc8 k9 w10)))) ∧
     (((tl5 : Int) ≤ k9) →
      ((out8 = none) →
       ∀ w11, Ext w10 w11 →
       Q (.string (⟨#[45]⟩ : ByteArray)) w11) ∧
      ((out8 ≠ none) →
       ∀ w11, Ext w10 w11 →
       FnP Tryd.prog F_strings_Join #[(.slice out8 outl8 outc8), (.string (⟨#[44]⟩ : ByteArray))] w11 fun v12 w12 =>
        Ext w11 w12 ∧
        ∃ t13 : ByteArray, v12 = (.string t13) ∧
        ∀ w14, Ext w10 w14 →
        Q (.string t13) w14))

theorem ok_need_text (a_0 : Int) (a_1 : Int) (a_2 : Int) (w : World) (Q : Value → World → Prop) (h : wp_need_text a_0 a_1 a_2 w Q) : FnP Tryd.prog F_need_text #[(.agg #[(.int .i64 a_0), (.int .i64 a_1), (.int .i64 a_2)])] w Q := by
  have e_ : wp_need_text a_0 a_1 a_2 w Q = Runs Tryd.prog Q ({ N := 34, wrap := [], pub := [1], muts := [], joins := [] } : Cfg) Tryd.f39 (Tryd.f39.body.getD .skip) [.agg [.int .i64 a_0, .int .i64 a_1, .int .i64 a_2]] w := by kernel_rfl
  rw [e_] at h
  exact runs_fn h Tryd.func39 (by kernel_rfl) (fun args w => Tryd.call39 args w) (by kernel_rfl) (by kernel_rfl) rfl rfl

/-- shiftbell/need.Read -/
def wp_need_Read (s : ByteArray) (w : World) (Q : Value → World → Prop) : Prop :=
  ∀ b0 : Nat, w.heap.size ≤ b0 → ∀ w1, ExtB [] [b0] w w1 →
  New w1 34 [(.int .i64 0), (.int .i64 0), (.int .i64 0)] fun p2 w2 =>
   (((s ≠ (⟨#[45]⟩ : ByteArray)) →
    ∀ w3, ExtB [] [b0] w2 w3 →
    FnP Tryd.prog F_strings_Split #[(.string s), (.string (⟨#[44]⟩ : ByteArray))] w3 fun v4 w4 =>
     Ext w3 w4 ∧
     ∃ t5 : Option Addr, ∃ tl6 : Nat, ∃ tc7 : Nat, v4 = (.slice t5 tl6 tc7) ∧
     ∃ (I8 : Int → World → Prop) (M8 : Int → World → Nat), I8 0 w4 ∧
     ∀ (k9 : Int) (w10 : World), I8 k9 w10 →
      (((k9 < (tl6 : Int)) →
       t5 ≠ none ∧
       (0 : Int) ≤ k9 ∧
       (k9 : Int) < (tl6 : Int) ∧
       ∃ t11 : ByteArray, cell w10 (pIdx t5 k9 1) 0 = some (.string t11) ∧
       ∀ w12, Ext w10 w12 →
       FnP Tryd.prog F_strings_Cut #[(.string t11), (.string (⟨#[61]⟩ : ByteArray))] w12 fun v13 w13 =>
        Ext w12 w13 ∧
        ∃ t14 : ByteArray, ∃ t15 : ByteArray, ∃ t16 : Bool, v13 = (.tuple #[(.string t14), (.string t15), (.bool t16)]) ∧
        ∀ w17, ExtB [] [b0] w10 w17 →
        FnP Tryd.prog F_strconv_ParseInt #[(.string t15), (.int .i64 10), (.int .i64 64)] w17 fun v18 w18 =>
         Ext w17 w18 ∧
         ∃ t19 : Int, ∃ t20 : Value, v18 = (.tuple #[(.int .i64 t19), t20]) ∧
         ∀ w21, Ext w18 w21 →
         Run Tryd.prog (.eq .neq 68 false true t20 .nilIface) w21 fun v22 w22 =>
          Ext w21 w22 ∧
          ∃ t23 : Bool, v22 = (.bool t23) ∧
          (((t23 = true) ∨ (t19 ≤ 0)) →
           ∀ w24, ExtB [b0] [] w18 w24 →
           Q (.tuple #[(.agg #[(.int .i64 0), (.int .i64 0), (.int .i64 0)]), (.int .i64 3)]) w24) ∧
          (((t23 = false) ∧ (0 < t19)) →
           ∀ w24, ExtB [] [b0] w18 w24 →
           FnP Tryd.prog F_need_parts #[(.pointer p2)] w24 fun v25 w25 =>
            Ext w24 w25 ∧
            ∃ t26 : Option Addr, ∃ tl27 : Nat, ∃ tc28 : Nat, v25 = (.slice t26 tl27 tc28) ∧
            ∃ (I29 : Int → World → Prop) (M29 : Int → World → Nat), I29 0 w25 ∧
            ∀ (k30 : Int) (w31 : World), I29 k30 w31 →
             (((k30 < (tl27 : Int)) →
              t26 ≠ none ∧
              (0 : Int) ≤ k30 ∧
              (k30 : Int) < (tl27 : Int) ∧
              (pIdx t26 k30 2) ≠ none ∧
              ∃ t32 : ByteArray, cell w31 (pIdx t26 k30 2) 0 = some (.string t32) ∧
              ∃ t33 : Option Addr, cell w31 (pIdx t26 k30 2) 1 = some (.pointer t33) ∧
              ∀ b34 : Nat, w31.heap.size ≤ b34 → (((t32 = t14) →
               t33 ≠ none ∧
               Store w31 t33 [(.int .i64 t19)] [b0, b34] fun w35 =>
                InR .i64 (k30 + 1) ∧
                (I29 (k30 + 1) w35 ∧ M29 (k30 + 1) w35 < M29 k30 w31))) ∧
              ((t32 ≠ t14) →
               InR .i64 (k30 + 1) ∧
               (I29 (k30 + 1) w31 ∧ M29 (k30 + 1) w31 < M29 k30 w31)))) ∧
             (((tl27 : Int) ≤ k30) →
              InR .i64 (k9 + 1) ∧
              (I8 (k9 + 1) w31 ∧ M8 (k9 + 1) w31 < M8 k9 w10))))) ∧
      (((tl6 : Int) ≤ k9) →
       p2 ≠ none ∧
       ∃ t11 : Int, cell w10 p2 0 = some (.int .i64 t11) ∧
       ∃ t12 : Int, cell w10 p2 1 = some (.int .i64 t12) ∧
       ∃ t13 : Int, cell w10 p2 2 = some (.int .i64 t13) ∧
       ∀ w14, Ext w10 w14 →
       FnP Tryd.prog F_need_text #[(.agg #[(.int .i64 t11), (.int .i64 t12), (.int .i64 t13)])] w14 fun v15 w15 =>
        Ext w14 w15 ∧
        ∃ t16 : ByteArray, v15 = (.string t16) ∧
        ((t16 ≠ s) →
         ∀ w17, ExtB [b0] [] w10 w17 →
         Q (.tuple #[(.agg #[(.int .i64 0), (.int .i64 0), (.int .i64 0)]), (.int .i64 3)]) w17) ∧
        ((t16 = s) →
         p2 ≠ none ∧
         ∃ t17 : Int, cell w10 p2 0 = some (.int .i64 t17) ∧
         ∃ t18 : Int, cell w10 p2 1 = some (.int .i64 t18) ∧
         ∃ t19 : Int, cell w10 p2 2 = some (.int .i64 t19) ∧
         ∀ w20, Ext w10 w20 →
         FnP Tryd.prog F_need_Check #[(.agg #[(.int .i64 t17), (.int .i64 t18), (.int .i64 t19)])] w20 fun v21 w21 =>
          Ext w20 w21 ∧
          ∃ t22 : Int, v21 = (.int .i64 t22) ∧
          ((t22 ≠ 0) →
           ∀ w23, ExtB [b0] [] w10 w23 →
           Q (.tuple #[(.agg #[(.int .i64 0), (.int .i64 0), (.int .i64 0)]), (.int .i64 t22)]) w23) ∧
          ((t22 = 0) →
           p2 ≠ none ∧
           ∃ t23 : Int, cell w10 p2 0 = some (.int .i64 t23) ∧
           ∃ t24 : Int, cell w10 p2 1 = some (.int .i64 t24) ∧
           ∃ t25 : Int, cell w10 p2 2 = some (.int .i64 t25) ∧
           ∀ w26, ExtB [b0] [] w10 w26 →
           Q (.tuple #[(.agg #[(.int .i64 t23), (.int .i64 t24), (.int .i64 t25)]), (.int .i64 0)]) w26))))) ∧
   ((s = (⟨#[45]⟩ : ByteArray)) →
    p2 ≠ none ∧
    ∃ t3 : Int, cell w2 p2 0 = some (.int .i64 t3) ∧
    ∃ t4 : Int, cell w2 p2 1 = some (.int .i64 t4) ∧
    ∃ t5 : Int, cell w2 p2 2 = some (.int .i64 t5) ∧
    ∀ w6, Ext w2 w6 →
    FnP Tryd.prog F_need_text #[(.agg #[(.int .i64 t3), (.int .i64 t4), (.int .i64 t5)])] w6 fun v7 w7 =>
     Ext w6 w7 ∧
     ∃ t8 : ByteArray, v7 = (.string t8) ∧
     ((t8 ≠ s) →
      ∀ w9, ExtB [b0] [] w2 w9 →
      Q (.tuple #[(.agg #[(.int .i64 0), (.int .i64 0), (.int .i64 0)]), (.int .i64 3)]) w9) ∧
     ((t8 = s) →
      p2 ≠ none ∧
      ∃ t9 : Int, cell w2 p2 0 = some (.int .i64 t9) ∧
      ∃ t10 : Int, cell w2 p2 1 = some (.int .i64 t10) ∧
      ∃ t11 : Int, cell w2 p2 2 = some (.int .i64 t11) ∧
      ∀ w12, Ext w2 w12 →
      FnP Tryd.prog F_need_Check #[(.agg #[(.int .i64 t9), (.int .i64 t10), (.int .i64 t11)])] w12 fun v13 w13 =>
       Ext w12 w13 ∧
       ∃ t14 : Int, v13 = (.int .i64 t14) ∧
       ((t14 ≠ 0) →
        ∀ w15, ExtB [b0] [] w2 w15 →
        Q (.tuple #[(.agg #[(.int .i64 0), (.int .i64 0), (.int .i64 0)]), (.int .i64 t14)]) w15) ∧
       ((t14 = 0) →
        p2 ≠ none ∧
        ∃ t15 : Int, cell w2 p2 0 = some (.int .i64 t15) ∧
        ∃ t16 : Int, cell w2 p2 1 = some (.int .i64 t16) ∧
        ∃ t17 : Int, cell w2 p2 2 = some (.int .i64 t17) ∧
        ∀ w18, ExtB [b0] [] w2 w18 →
        Q (.tuple #[(.agg #[(.int .i64 t15), (.int .i64 t16), (.int .i64 t17)]), (.int .i64 0)]) w18)))

theorem ok_need_Read (s : ByteArray) (w : World) (Q : Value → World → Prop) (h : wp_need_Read s w Q) : FnP Tryd.prog F_need_Read #[(.string s)] w Q := by
  have e_ : wp_need_Read s w Q = Runs Tryd.prog Q ({ N := 70, wrap := [], pub := [4], muts := [], joins := [] } : Cfg) Tryd.f29 (Tryd.f29.body.getD .skip) [.sc (.str s)] w := by kernel_rfl
  rw [e_] at h
  exact runs_fn h Tryd.func29 (by kernel_rfl) (fun args w => Tryd.call29 args w) (by kernel_rfl) (by kernel_rfl) rfl rfl

/-- shiftbell/shiftbellkeep.journals -/
def wp_shiftbellkeep_journals  (w : World) (Q : Value → World → Prop) : Prop :=
  ∀ w0, Ext w w0 →
  FnP Tryd.prog F_journal_Frame #[(.agg #[(.int .i64 3), (.string (⟨#[]⟩ : ByteArray)), (.int .i64 0), (.int .i64 0), (.int .i64 0), (.int .i64 0), (.int .i64 0), (.string (⟨#[]⟩ : ByteArray)), (.string (⟨#[]⟩ : ByteArray)), (.int .i64 0), (.slice none 0 0), (.slice none 0 0), (.int .i64 0), (.int .i64 0), (.bool false)])] w0 fun v1 w1 =>
   Ext w0 w1 ∧
   ∃ t2 : Option Addr, ∃ tl3 : Nat, ∃ tc4 : Nat, ∃ t5 : Int, v1 = (.tuple #[(.slice t2 tl3 tc4), (.int .i64 t5)]) ∧
   ∀ w6, Ext w1 w6 →
   Q (.bool ((decide (t5 = 0)) && (decide ((tl3 : Int) = 11)))) w6

theorem ok_shiftbellkeep_journals  (w : World) (Q : Value → World → Prop) (h : wp_shiftbellkeep_journals  w Q) : FnP Tryd.prog F_shiftbellkeep_journals #[] w Q := by
  have e_ : wp_shiftbellkeep_journals  w Q = Runs Tryd.prog Q ({ N := 15, wrap := [], pub := [], muts := [], joins := [] } : Cfg) Tryd.f6 (Tryd.f6.body.getD .skip) [] w := by kernel_rfl
  rw [e_] at h
  exact runs_fn h Tryd.func6 (by kernel_rfl) (fun args w => Tryd.call6 args w) (by kernel_rfl) (by kernel_rfl) rfl rfl

/-- shiftbell/journal.New -/
def wp_journal_New  (w : World) (Q : Value → World → Prop) : Prop :=
  ∀ w0, Ext w w0 →
  New w0 57 [(.slice none 0 0), (.int .i64 0)] fun p1 w1 =>
   ∀ w2, Ext w1 w2 →
   Q (.pointer p1) w2

theorem ok_journal_New  (w : World) (Q : Value → World → Prop) (h : wp_journal_New  w Q) : FnP Tryd.prog F_journal_New #[] w Q := by
  have e_ : wp_journal_New  w Q = Runs Tryd.prog Q ({ N := 3, wrap := [], pub := [2], muts := [], joins := [] } : Cfg) Tryd.f7 (Tryd.f7.body.getD .skip) [] w := by kernel_rfl
  rw [e_] at h
  exact runs_fn h Tryd.func7 (by kernel_rfl) (fun args w => Tryd.call7 args w) (by kernel_rfl) (by kernel_rfl) rfl rfl

/-- (*shiftbell/journal.Disk).Write -/
def wp_journal_Disk_Write (d : Option Addr) (b : Option Addr) (bl : Nat) (bc : Nat) (w : World) (Q : Value → World → Prop) : Prop :=
  d ≠ none ∧
  d ≠ none ∧
  ∃ t0 : Option Addr, ∃ tl1 : Nat, ∃ tc2 : Nat, cell w (pAdd d 0) 0 = some (.slice t0 tl1 tc2) ∧
  InR .i64 (100000 - (tl1 : Int)) ∧
  (((100000 - (tl1 : Int)) < (bl : Int)) →
   ∀ w3, Ext w w3 →
   Q (.int .i64 7) w3) ∧
  (((bl : Int) ≤ (100000 - (tl1 : Int))) →
   d ≠ none ∧
   d ≠ none ∧
   ∃ t3 : Option Addr, ∃ tl4 : Nat, ∃ tc5 : Nat, cell w (pAdd d 0) 0 = some (.slice t3 tl4 tc5) ∧
   ∀ w6, Ext w w6 →
   Run Tryd.prog (.append #[23, 23] 23 [(.slice t3 tl4 tc5), (.slice b bl bc)]) w6 fun v7 w7 =>
    ∃ t8 : Option Addr, ∃ tl9 : Nat, ∃ tc10 : Nat, v7 = (.slice t8 tl9 tc10) ∧
    d ≠ none ∧
    d ≠ none ∧
    Store w7 (pAdd d 0) [(.slice t8 tl9 tc10)] [] fun w11 =>
     ∀ w12, Ext w11 w12 →
     Q (.int .i64 0) w12)

theorem ok_journal_Disk_Write (d : Option Addr) (b : Option Addr) (bl : Nat) (bc : Nat) (w : World) (Q : Value → World → Prop) (h : wp_journal_Disk_Write d b bl bc w Q) : FnP Tryd.prog F_journal_Disk_Write #[(.pointer d), (.slice b bl bc)] w Q := by
  have e_ : wp_journal_Disk_Write d b bl bc w Q = Runs Tryd.prog Q ({ N := 23, wrap := [], pub := [], muts := [], joins := [] } : Cfg) Tryd.f8 (Tryd.f8.body.getD .skip) [.sc (.ptr d), .sc (.slc b bl bc)] w := by kernel_rfl
  rw [e_] at h
  exact runs_fn h Tryd.func8 (by kernel_rfl) (fun args w => Tryd.call8 args w) (by kernel_rfl) (by kernel_rfl) rfl rfl

/-- (*shiftbell/journal.Disk).Sync -/
def wp_journal_Disk_Sync (d : Option Addr) (w : World) (Q : Value → World → Prop) : Prop :=
  d ≠ none ∧
  d ≠ none ∧
  ∃ t0 : Option Addr, ∃ tl1 : Nat, ∃ tc2 : Nat, cell w (pAdd d 0) 0 = some (.slice t0 tl1 tc2) ∧
  d ≠ none ∧
  d ≠ none ∧
  Store w (pAdd d 1) [(.int .i64 (tl1 : Int))] [] fun w3 =>
   ∀ w4, Ext w3 w4 →
   Q (.tuple #[]) w4

theorem ok_journal_Disk_Sync (d : Option Addr) (w : World) (Q : Value → World → Prop) (h : wp_journal_Disk_Sync d w Q) : FnP Tryd.prog F_journal_Disk_Sync #[(.pointer d)] w Q := by
  have e_ : wp_journal_Disk_Sync d w Q = Runs Tryd.prog Q ({ N := 10, wrap := [], pub := [], muts := [], joins := [] } : Cfg) Tryd.f9 (Tryd.f9.body.getD .skip) [.sc (.ptr d)] w := by kernel_rfl
  rw [e_] at h
  exact runs_fn h Tryd.func9 (by kernel_rfl) (fun args w => Tryd.call9 args w) (by kernel_rfl) (by kernel_rfl) rfl rfl

/-- (*shiftbell/journal.Disk).Crash -/
def wp_journal_Disk_Crash (d : Option Addr) (keep : Int) (w : World) (Q : Value → World → Prop) : Prop :=
  ((0 ≤ keep) →
   d ≠ none) ∧
  ((0 ≤ keep) →
   d ≠ none) ∧
  ((keep < 0) →
   ∀ w0, Ext w w0 →
   Q (.int .i64 1) w0) ∧
  ((0 ≤ keep) →
   ∃ t0 : Option Addr, ∃ tl1 : Nat, ∃ tc2 : Nat, cell w (pAdd d 0) 0 = some (.slice t0 tl1 tc2) ∧
   d ≠ none ∧
   d ≠ none ∧
   ∃ t3 : Int, cell w (pAdd d 1) 0 = some (.int .i64 t3) ∧
   InR .i64 ((tl1 : Int) - t3) ∧
   ((((tl1 : Int) - t3) < keep) →
    ∀ w4, Ext w w4 →
    Q (.int .i64 1) w4) ∧
   ((keep ≤ ((tl1 : Int) - t3)) →
    d ≠ none ∧
    d ≠ none ∧
    ∃ t4 : Option Addr, ∃ tl5 : Nat, ∃ tc6 : Nat, cell w (pAdd d 0) 0 = some (.slice t4 tl5 tc6) ∧
    d ≠ none ∧
    d ≠ none ∧
    ∃ t7 : Int, cell w (pAdd d 1) 0 = some (.int .i64 t7) ∧
    InR .i64 (t7 + keep) ∧
    (0 : Int) ≤ 0 ∧
    (0 : Int) ≤ (t7 + keep) ∧
    ((t7 + keep) : Int) ≤ (tc6 : Int) ∧
    d ≠ none ∧
    d ≠ none ∧
    Store w (pAdd d 0) [(.slice (pCut t4 tc6 0 1) ((t7 + keep) - 0).toNat (tc6 - (0 : Int).toNat))] [] fun w8 =>
     ∀ w9, Ext w8 w9 →
     FnP Tryd.prog F_journal_Disk_Sync #[(.pointer d)] w9 fun v10 w10 =>
      v10 = (.tuple #[]) ∧
      ∀ w11, Ext w10 w11 →
      Q (.int .i64 0) w11))

theorem ok_journal_Disk_Crash (d : Option Addr) (keep : Int) (w : World) (Q : Value → World → Prop) (h : wp_journal_Disk_Crash d keep w Q) : FnP Tryd.prog F_journal_Disk_Crash #[(.pointer d), (.int .i64 keep)] w Q := by
  have e_ : wp_journal_Disk_Crash d keep w Q = Runs Tryd.prog Q ({ N := 37, wrap := [], pub := [], muts := [9], joins := [] } : Cfg) Tryd.f11 (Tryd.f11.body.getD .skip) [.sc (.ptr d), .sc (.int .i64 keep)] w := by kernel_rfl
  rw [e_] at h
  exact runs_fn h Tryd.func11 (by kernel_rfl) (fun args w => Tryd.call11 args w) (by kernel_rfl) (by kernel_rfl) rfl rfl

/-- (*shiftbell/journal.Disk).Bytes -/
def wp_journal_Disk_Bytes (d : Option Addr) (w : World) (Q : Value → World → Prop) : Prop :=
  d ≠ none ∧
  d ≠ none ∧
  ∃ t0 : Option Addr, ∃ tl1 : Nat, ∃ tc2 : Nat, cell w (pAdd d 0) 0 = some (.slice t0 tl1 tc2) ∧
  ∀ w3, Ext w w3 →
  FnP Tryd.prog F_bytes_Clone #[(.slice t0 tl1 tc2)] w3 fun v4 w4 =>
   Ext w3 w4 ∧
   ∃ t5 : Option Addr, ∃ tl6 : Nat, ∃ tc7 : Nat, v4 = (.slice t5 tl6 tc7) ∧
   ∀ w8, Ext w4 w8 →
   Q (.slice t5 tl6 tc7) w8

theorem ok_journal_Disk_Bytes (d : Option Addr) (w : World) (Q : Value → World → Prop) (h : wp_journal_Disk_Bytes d w Q) : FnP Tryd.prog F_journal_Disk_Bytes #[(.pointer d)] w Q := by
  have e_ : wp_journal_Disk_Bytes d w Q = Runs Tryd.prog Q ({ N := 8, wrap := [], pub := [], muts := [], joins := [] } : Cfg) Tryd.f10 (Tryd.f10.body.getD .skip) [.sc (.ptr d)] w := by kernel_rfl
  rw [e_] at h
  exact runs_fn h Tryd.func10 (by kernel_rfl) (fun args w => Tryd.call10 args w) (by kernel_rfl) (by kernel_rfl) rfl rfl

/-- bytes.Clone -/
def wp_bytes_Clone (b : Option Addr) (bl : Nat) (bc : Nat) (w : World) (Q : Value → World → Prop) : Prop :=
  ((b = none) →
   ∀ w0, Ext w w0 →
   Q (.slice none 0 0) w0) ∧
  ((b ≠ none) →
   ∀ w0, Ext w w0 →
   Run Tryd.prog (.buildSlice 23 0 []) w0 fun v1 w1 =>
    Ext w0 w1 ∧
    ∃ t2 : Option Addr, ∃ tl3 : Nat, ∃ tc4 : Nat, v1 = (.slice t2 tl3 tc4) ∧
    ∀ w5, Ext w1 w5 →
    Run Tryd.prog (.append #[23, 23] 23 [(.slice t2 tl3 tc4), (.slice b bl bc)]) w5 fun v6 w6 =>
     ∃ t7 : Option Addr, ∃ tl8 : Nat, ∃ tc9 : Nat, v6 = (.slice t7 tl8 tc9) ∧
     ∀ w10, Ext w6 w10 →
     Q (.slice t7 tl8 tc9) w10)

theorem ok_bytes_Clone (b : Option Addr) (bl : Nat) (bc : Nat) (w : World) (Q : Value → World → Prop) (h : wp_bytes_Clone b bl bc w Q) : FnP Tryd.prog F_bytes_Clone #[(.slice b bl bc)] w Q := by
  have e_ : wp_bytes_Clone b bl bc w Q = Runs Tryd.prog Q ({ N := 8, wrap := [], pub := [], muts := [], joins := [] } : Cfg) Tryd.f20 (Tryd.f20.body.getD .skip) [.sc (.slc b bl bc)] w := by kernel_rfl
  rw [e_] at h
  exact runs_fn h Tryd.func20 (by kernel_rfl) (fun args w => Tryd.call20 args w) (by kernel_rfl) (by kernel_rfl) rfl rfl

/-- shiftbell/shiftbellkeep.JournalCrash -/
def wp_shiftbellkeep_JournalCrash (l : Option Addr) (ll : Nat) (lc : Nat) (synced : Int) (keep : Int) (more : Option Addr) (morel : Nat) (morec : Nat) (w : World) (Q : Value → World → Prop) : Prop :=
  ∀ w0, Ext w w0 →
  FnP Tryd.prog F_shiftbellkeep_journals #[] w0 fun v1 w1 =>
   Ext w0 w1 ∧
   ∃ t2 : Bool, v1 = (.bool t2) ∧
   ((t2 = false) →
    ∀ w3, Ext w w3 →
    Q (.bool false) w3) ∧
   ((t2 = true) →
    ∀ w3, Ext w w3 →
    FnP Tryd.prog F_journal_New #[] w3 fun v4 w4 =>
     Ext w3 w4 ∧
     ∃ t5 : Option Addr, v4 = (.pointer t5) ∧
     ∃ (I6 : Int → Int → World → Prop) (M6 : Int → Int → World → Nat), I6 0 0 w4 ∧
     ∀ (safe7 : Int) (k8 : Int) (w9 : World), I6 safe7 k8 w9 →
      (((k8 < (ll : Int)) →
       l ≠ none ∧
       (0 : Int) ≤ k8 ∧
       (k8 : Int) < (ll : Int) ∧
       ∃ t10 : Option Addr, ∃ tl11 : Nat, ∃ tc12 : Nat, cell w9 (pIdx l k8 1) 0 = some (.slice t10 tl11 tc12) ∧
       ∀ w13, Ext w9 w13 →
       FnP Tryd.prog F_journal_Disk_Write #[(.pointer t5), (.slice t10 tl11 tc12)] w13 fun v14 w14 =>
        ∃ t15 : Int, v14 = (.int .i64 t15) ∧
        (((k8 = synced) →
         ∀ w16, Ext w14 w16 →
         FnP Tryd.prog F_journal_Disk_Sync #[(.pointer t5)] w16 fun v17 w17 =>
          v17 = (.tuple #[]) ∧
          ∀ w18, Ext w17 w18 →
          FnP Tryd.prog F_journal_Disk_Bytes #[(.pointer t5)] w18 fun v19 w19 =>
           Ext w18 w19 ∧
           ∃ t20 : Option Addr, ∃ tl21 : Nat, ∃ tc22 : Nat, v19 = (.slice t20 tl21 tc22) ∧
           InR .i64 (k8 + 1) ∧
           (I6 (tl21 : Int) (k8 + 1) w19 ∧ M6 (tl21 : Int) (k8 + 1) w19 < M6 safe7 k8 w9))) ∧
        ((k8 ≠ synced) →
         InR .i64 (k8 + 1) ∧
         (I6 safe7 (k8 + 1) w14 ∧ M6 safe7 (k8 + 1) w14 < M6 safe7 k8 w9)))) ∧
      (((ll : Int) ≤ k8) →
       ∀ w10, Ext w9 w10 →
       FnP Tryd.prog F_journal_Disk_Bytes #[(.pointer t5)] w10 fun v11 w11 =>
        Ext w10 w11 ∧
        ∃ t12 : Option Addr, ∃ tl13 : Nat, ∃ tc14 : Nat, v11 = (.slice t12 tl13 tc14) ∧
        ((0 ≤ keep) →
         InR .i64 ((tl13 : Int) - safe7)) ∧
        ((((keep < 0) ∨ (((tl13 : Int) - safe7) < keep)) →
         ∀ w15, Ext w11 w15 →
         FnP Tryd.prog F_journal_Disk_Crash #[(.pointer t5), (.int .i64 keep)] w15 fun v16 w16 =>
          ∃ t17 : Int, v16 = (.int .i64 t17) ∧
          (((t17 = 1) →
           ∀ w18, Ext w16 w18 →
           FnP Tryd.prog F_journal_Disk_Bytes #[(.pointer t5)] w18 fun v19 w19 =>
            Ext w18 w19 ∧
            ∃ t20 : Option Addr, ∃ tl21 : Nat, ∃ tc22 : Nat, v19 = (.slice t20 tl21 tc22) ∧
            ∀ w23, Ext w19 w23 →
            FnP Tryd.prog F_bytes_Equal #[(.slice t20 tl21 tc22), (.slice t12 tl13 tc14)] w23 fun v24 w24 =>
             Ext w23 w24 ∧
             ∃ t25 : Bool, v24 = (.bool t25) ∧
             ∀ w26, Ext w19 w26 →
             Q (.bool t25) w26)) ∧
          ((t17 ≠ 1) →
           ∀ w18, Ext w16 w18 →
           Q (.bool false) w18))) ∧
        (((0 ≤ keep) ∧ (keep ≤ ((tl13 : Int) - safe7))) →
         ∀ w15, Ext w11 w15 →
         FnP Tryd.prog F_journal_Disk_Crash #[(.pointer t5), (.int .i64 keep)] w15 fun v16 w16 =>
          ∃ t17 : Int, v16 = (.int .i64 t17) ∧
          ((t17 = 0) →
           InR .i64 (safe7 + keep)) ∧
          ((t17 = 0) →
           (0 : Int) ≤ 0) ∧
          ((t17 = 0) →
           (0 : Int) ≤ (safe7 + keep)) ∧
          ((t17 = 0) →
           ((safe7 + keep) : Int) ≤ (tc14 : Int)) ∧
          ((t17 ≠ 0) →
           ∀ w18, Ext w16 w18 →
           Q (.bool false) w18) ∧
          ((t17 = 0) →
           ∀ w18, Ext w16 w18 →
           FnP Tryd.prog F_journal_Disk_Bytes #[(.pointer t5)] w18 fun v19 w19 =>
            Ext w18 w19 ∧
            ∃ t20 : Option Addr, ∃ tl21 : Nat, ∃ tc22 : Nat, v19 = (.slice t20 tl21 tc22) ∧
            ∀ w23, Ext w19 w23 →
            FnP Tryd.prog F_bytes_Equal #[(.slice t20 tl21 tc22), (.slice (pCut t12 tc14 0 1) ((safe7 + keep) - 0).toNat (tc14 - (0 : Int).toNat))] w23 fun v24 w24 =>
             Ext w23 w24 ∧
             ∃ t25 : Bool, v24 = (.bool t25) ∧
             ((t25 = false) →
              ∀ w26, Ext w19 w26 →
              Q (.bool false) w26) ∧
             ((t25 = true) →
              ∀ w26, Ext w19 w26 →
              FnP Tryd.prog F_journal_Disk_Crash #[(.pointer t5), (.int .i64 1)] w26 fun v27 w27 =>
               ∃ t28 : Int, v27 = (.int .i64 t28) ∧
               ((t28 ≠ 1) →
                ∀ w29, Ext w27 w29 →
                Q (.bool false) w29) ∧
               ((t28 = 1) →
                ∀ w29, Ext w27 w29 →
                FnP Tryd.prog F_journal_Disk_Write #[(.pointer t5), (.slice more morel morec)] w29 fun v30 w30 =>
                 ∃ t31 : Int, v30 = (.int .i64 t31) ∧
                 (((t31 ≠ 0) →
                  InR .i64 (safe7 + keep) ∧
                  (0 : Int) ≤ 0 ∧
                  (0 : Int) ≤ (safe7 + keep) ∧
                  ((safe7 + keep) : Int) ≤ (tc14 : Int) ∧
                  ∀ w32, Ext w30 w32 →
                  FnP Tryd.prog F_journal_Disk_Bytes #[(.pointer t5)] w32 fun v33 w33 =>
                   Ext w32 w33 ∧
                   ∃ t34 : Option Addr, ∃ tl35 : Nat, ∃ tc36 : Nat, v33 = (.slice t34 tl35 tc36) ∧
                   ∀ w37, Ext w33 w37 →
                   FnP Tryd.prog F_bytes_Equal #[(.slice t34 tl35 tc36), (.slice (pCut t12 tc14 0 1) ((safe7 + keep) - 0).toNat (tc14 - (0 : Int).toNat))] w37 fun v38 w38 =>
                    Ext w37 w38 ∧
                    ∃ t39 : Bool, v38 = (.bool t39) ∧
                    ∀ w40, Ext w33 w40 →
                    Q (.bool t39) w40)) ∧
                 ((t31 = 0) →
                  ∀ w32, Ext w30 w32 →
                  FnP Tryd.prog F_journal_Disk_Crash #[(.pointer t5), (.int .i64 0)] w32 fun v33 w33 =>
                   ∃ t34 : Int, v33 = (.int .i64 t34) ∧
                   ((t34 = 0) →
                    InR .i64 (safe7 + keep)) ∧
                   ((t34 = 0) →
                    (0 : Int) ≤ 0) ∧
                   ((t34 = 0) →
                    (0 : Int) ≤ (safe7 + keep)) ∧
                   ((t34 = 0) →
                    ((safe7 + keep) : Int) ≤ (tc14 : Int)) ∧
                   (((t34 = 0) →
                    ∀ w35, Ext w33 w35 →
                    FnP Tryd.prog F_journal_Disk_Bytes #[(.pointer t5)] w35 fun v36 w36 =>
                     Ext w35 w36 ∧
                     ∃ t37 : Option Addr, ∃ tl38 : Nat, ∃ tc39 : Nat, v36 = (.slice t37 tl38 tc39) ∧
                     ∀ w40, Ext w36 w40 →
                     FnP Tryd.prog F_bytes_Equal #[(.slice t37 tl38 tc39), (.slice (pCut t12 tc14 0 1) ((safe7 + keep) - 0).toNat (tc14 - (0 : Int).toNat))] w40 fun v41 w41 =>
                      Ext w40 w41 ∧
                      ∃ t42 : Bool, v41 = (.bool t42) ∧
                      ∀ w43, Ext w36 w43 →
                      Q (.bool t42) w43)) ∧
                   ((t34 ≠ 0) →
                    ∀ w35, Ext w33 w35 →
                    Q (.bool false) w35))))))))

theorem ok_shiftbellkeep_JournalCrash (l : Option Addr) (ll : Nat) (lc : Nat) (synced : Int) (keep : Int) (more : Option Addr) (morel : Nat) (morec : Nat) (w : World) (Q : Value → World → Prop) (h : wp_shiftbellkeep_JournalCrash l ll lc synced keep more morel morec w Q) : FnP Tryd.prog F_shiftbellkeep_JournalCrash #[(.slice l ll lc), (.int .i64 synced), (.int .i64 keep), (.slice more morel morec)] w Q := by
  have e_ : wp_shiftbellkeep_JournalCrash l ll lc synced keep more morel morec w Q = Runs Tryd.prog Q ({ N := 103, wrap := [], pub := [], muts := [8, 9, 11], joins := [] } : Cfg) Tryd.f3 (Tryd.f3.body.getD .skip) [.sc (.slc l ll lc), .sc (.int .i64 synced), .sc (.int .i64 keep), .sc (.slc more morel morec)] w := by kernel_rfl
  rw [e_] at h
  exact runs_fn h Tryd.func3 (by kernel_rfl) (fun args w => Tryd.call3 args w) (by kernel_rfl) (by kernel_rfl) rfl rfl

theorem open_shiftbellkeep_JournalCrash (W : World) (R : Array Value → Prop) (h : ∀ l : Option Addr, ∀ ll : Nat, ∀ lc : Nat, SlcArg Tryd.prog W 23 l ll lc → ∀ synced : Int, InR .i64 synced → ∀ keep : Int, InR .i64 keep → ∀ more : Option Addr, ∀ morel : Nat, ∀ morec : Nat, SlcArg Tryd.prog W 5 more morel morec → R #[(.slice l ll lc), (.int .i64 synced), (.int .i64 keep), (.slice more morel morec)]) (args : Array Value) (hg : GoodAll Tryd.prog W Tryd.f3.params.toList args.toList) : R args := by
  have e_ : (ArgsAll Tryd.prog W Tryd.f3.params.toList fun l => R l.toArray) = (∀ l : Option Addr, ∀ ll : Nat, ∀ lc : Nat, SlcArg Tryd.prog W 23 l ll lc → ∀ synced : Int, InR .i64 synced → ∀ keep : Int, InR .i64 keep → ∀ more : Option Addr, ∀ morel : Nat, ∀ morec : Nat, SlcArg Tryd.prog W 5 more morel morec → R #[(.slice l ll lc), (.int .i64 synced), (.int .i64 keep), (.slice more morel morec)]) := by kernel_rfl
  exact args_open (by rw [e_]; exact h) args hg
-- wit 3 #[(.slice none 0 0), (.int .i64 0), (.int .i64 0), (.slice none 0 0)]

end Go.Proofs.YtenppnomdejmlaaDoor
