/- The texts of this seat's functions: what each computes, as its symbolic run says it. -/
import Derived.Test.YtjeboeahhhhbdaaDoorRows
import Derived.Test.YtjeboeahhhhbdaaDoorSxD
import Derived.Test.YtjeboeahhhhbdaaDoorSxN
set_option linter.unusedVariables false
set_option linter.unusedSimpArgs false
set_option maxRecDepth 100000
namespace Go.Proofs.YtjeboeahhhhbdaaDoor
open Go.Sx Go.RowKit

abbrev F_shiftbellkeep_TicketApart : FuncId := 4
abbrev F_shiftbellkeep_TicketBack : FuncId := 5
abbrev F_shiftbellkeep_TicketOne : FuncId := 6
abbrev F_shiftbellkeep_TicketTurned : FuncId := 7
abbrev F_shiftbellkeep_TicketRenewed : FuncId := 8
abbrev F_shiftbellkeep_good : FuncId := 14
abbrev F_shiftbellkeep_tickets : FuncId := 15
abbrev F_ticket_Seal : FuncId := 16
abbrev F_ticket_Open : FuncId := 17
abbrev F_ticket_Check : FuncId := 18
abbrev F_ticket_Renew : FuncId := 19
abbrev F_ask_Label : FuncId := 26
abbrev F_slices_ContainsFunc_api_Errno_api_Errno : FuncId := 32
abbrev F_shiftbellkeep_good_1 : FuncId := 33
abbrev F_ticket_Sum : FuncId := 34
abbrev F_strconv_FormatInt : FuncId := 35
abbrev F_ticket_hex : FuncId := 36
abbrev F_strings_Split : FuncId := 37
abbrev F_strings_Trim : FuncId := 38
abbrev F_strconv_ParseInt : FuncId := 39
abbrev F_slices_IndexFunc_api_Errno_api_Errno : FuncId := 48
abbrev F_strconv_FormatUint : FuncId := 50
abbrev F_strings_Repeat : FuncId := 51
abbrev F_internal_strconv_small : FuncId := 68
abbrev F_internal_strconv_numDigits : FuncId := 69
abbrev F_internal_strconv_formatBits : FuncId := 71
abbrev F_internal_strconv_FormatUint : FuncId := 72
abbrev F_internal_strconv_isPowerOfTwo : FuncId := 94
abbrev F_math_bits_TrailingZeros : FuncId := 95
abbrev F_math_bits_TrailingZeros64 : FuncId := 109
abbrev T__0 : TypeId := 0
abbrev T_int64 : TypeId := 2
abbrev T_int : TypeId := 3
abbrev T_bool : TypeId := 4
abbrev T_uint8 : TypeId := 5
abbrev T_string : TypeId := 9
abbrev T_uintptr : TypeId := 12
abbrev T_int32 : TypeId := 21
abbrev T_sl_Label : TypeId := 22
abbrev T_Errno : TypeId := 24
abbrev T_string_Errno : TypeId := 25
abbrev T_sl_string : TypeId := 27
abbrev T_sl_string_Errno : TypeId := 28
abbrev T_string_bool : TypeId := 30
abbrev T_uint64 : TypeId := 35
abbrev T_Ticket : TypeId := 37
abbrev T_Ticket_Errno : TypeId := 40
abbrev T_sl_uint8 : TypeId := 45
abbrev T_map_string_string : TypeId := 54
abbrev T_Label : TypeId := 56
abbrev T_ptr_strings_Builder : TypeId := 58
abbrev T_strings_Builder : TypeId := 60
abbrev T_error : TypeId := 63
abbrev T_int_error : TypeId := 64
abbrev T_sl_Errno : TypeId := 67
abbrev T_sl_int64 : TypeId := 71
abbrev T_ptr_int64 : TypeId := 76
abbrev T_sl_ptr_int64 : TypeId := 77
abbrev T_int64_error : TypeId := 78
abbrev T_string_string_bool : TypeId := 83
abbrev T_ptr_uint8 : TypeId := 87
abbrev T_uint : TypeId := 89
abbrev T_strings_asciiSet : TypeId := 95
abbrev T_strings_asciiSet_bool : TypeId := 96
abbrev T_ptr_strings_asciiSet : TypeId := 99
abbrev T_int32_int : TypeId := 102
abbrev T_unsafe_Pointer : TypeId := 104
abbrev T_sl_uint8_string : TypeId := 110
abbrev T_uint_uint : TypeId := 112
abbrev T_strconv_Error : TypeId := 118
abbrev T_uint64_error : TypeId := 119
abbrev T_ptr_strconv_NumError : TypeId := 121
abbrev T_uint32 : TypeId := 127
abbrev T_uint32_uint32 : TypeId := 131
abbrev T_uint64_uint64 : TypeId := 133
abbrev T_strconv_NumError : TypeId := 139
abbrev T_utf8_acceptRange : TypeId := 145
abbrev T_ptr_errors_errorString : TypeId := 149
abbrev T_errors_errorString : TypeId := 151
theorem elem_sl_Label : slEl Tryd.prog 22 = some (56, 2, 32, (.agg #[(.string (⟨#[]⟩ : ByteArray)), (.string (⟨#[]⟩ : ByteArray))])) := by kernel_rfl
theorem elem_sl_string : slEl Tryd.prog 27 = some (9, 1, 16, (.string (⟨#[]⟩ : ByteArray))) := by kernel_rfl
theorem elem_sl_uint8 : slEl Tryd.prog 45 = some (5, 1, 1, (.int .u8 0)) := by kernel_rfl
theorem elem_sl_Errno : slEl Tryd.prog 67 = some (24, 1, 8, (.int .i64 0)) := by kernel_rfl
theorem elem_sl_int64 : slEl Tryd.prog 71 = some (2, 1, 8, (.int .i64 0)) := by kernel_rfl
theorem elem_sl_ptr_int64 : slEl Tryd.prog 77 = some (76, 1, 8, (.pointer none)) := by kernel_rfl

/-- shiftbell/ask.Label -/
def wp_ask_Label (s : ByteArray) (w : World) (Q : Value → World → Prop) : Prop :=
  ((((s ≠ (⟨#[]⟩ : ByteArray)) ∧ ((s.size : Int) ≤ 20)) →
   (0 : Int) ≤ 0)) ∧
  ((((s ≠ (⟨#[]⟩ : ByteArray)) ∧ ((s.size : Int) ≤ 20)) →
   (0 : Int) < (s.size : Int))) ∧
  (((((s ≠ (⟨#[]⟩ : ByteArray)) ∧ ((s.size : Int) ≤ 20)) ∧ (97 ≤ (sAt s 0))) →
   (0 : Int) ≤ 0)) ∧
  (((((s ≠ (⟨#[]⟩ : ByteArray)) ∧ ((s.size : Int) ≤ 20)) ∧ (97 ≤ (sAt s 0))) →
   (0 : Int) < (s.size : Int))) ∧
  (((((s = (⟨#[]⟩ : ByteArray)) ∨ (20 < (s.size : Int))) ∨ ((sAt s 0) < 97)) ∨ (122 < (sAt s 0))) →
   ∀ w0, Ext w w0 →
   Q (.bool false) w0) ∧
  (((((s ≠ (⟨#[]⟩ : ByteArray)) ∧ ((s.size : Int) ≤ 20)) ∧ (97 ≤ (sAt s 0))) ∧ ((sAt s 0) ≤ 122)) →
   ∀ w0, Ext w w0 →
   Run Tryd.prog (.convert 9 45 (.string s)) w0 fun v1 w1 =>
    Ext w0 w1 ∧
    ∃ t2 : Option Addr, ∃ tl3 : Nat, ∃ tc4 : Nat, v1 = (.slice t2 tl3 tc4) ∧
    ∃ (I5 : Int → World → Prop) (M5 : Int → World → Nat), I5 0 w1 ∧
    ∀ (k6 : Int) (w7 : World), I5 k6 w7 →
     (((k6 < (tl3 : Int)) →
      t2 ≠ none ∧
      (0 : Int) ≤ k6 ∧
      (k6 : Int) < (tl3 : Int) ∧
      ∃ t8 : Int, cell w7 (pIdx t2 k6 1) 0 = some (.int .u8 t8) ∧
      ((((((t8 < 97) ∨ (122 < t8)) ∧ ((t8 < 48) ∨ (57 < t8))) ∧ (t8 ≠ 45)) →
       ∀ w9, Ext w7 w9 →
       Q (.bool false) w9)) ∧
      (((((97 ≤ t8) ∧ (t8 ≤ 122)) ∨ ((48 ≤ t8) ∧ (t8 ≤ 57))) ∨ (t8 = 45)) →
       InR .i64 (k6 + 1) ∧
       (I5 (k6 + 1) w7 ∧ M5 (k6 + 1) w7 < M5 k6 w7)))) ∧
     (((tl3 : Int) ≤ k6) →
      ∀ w8, Ext w7 w8 →
      Q (.bool true) w8))

theorem ok_ask_Label (s : ByteArray) (w : World) (Q : Value → World → Prop) (h : wp_ask_Label s w Q) : FnP Tryd.prog F_ask_Label #[(.string s)] w Q := by
  have e_ : wp_ask_Label s w Q = Runs Tryd.prog Q ({ N := 48, wrap := [], pub := [], muts := [], joins := [] } : Cfg) Tryd.f26 (Tryd.f26.body.getD .skip) [.sc (.str s)] w := by kernel_rfl
  rw [e_] at h
  exact runs_fn h Tryd.func26 (by kernel_rfl) (fun args w => Tryd.call26 args w) (by kernel_rfl) (by kernel_rfl) rfl rfl

/-- shiftbell/ticket.Check -/
def wp_ticket_Check (t_0 : ByteArray) (t_1 : Int) (t_2 : Int) (t_3 : Int) (w : World) (Q : Value → World → Prop) : Prop :=
  ∀ b0 : Nat, w.heap.size ≤ b0 → ∀ w1, Ext w w1 →
  FnP Tryd.prog F_ask_Label #[(.string t_0)] w1 fun v2 w2 =>
   Ext w1 w2 ∧
   ∃ t3 : Bool, v2 = (.bool t3) ∧
   ((t3 = false) →
    ∀ w4, Ext w w4 →
    Q (.int .i64 3) w4) ∧
   ((t3 = true) →
    (((((t_1 < 0) ∨ (t_2 < t_1)) ∨ (t_3 < t_2)) ∨ (1099511627776 < t_3)) →
     ∀ w4, Ext w w4 →
     Q (.int .i64 4) w4) ∧
    (((((0 ≤ t_1) ∧ (t_1 ≤ t_2)) ∧ (t_2 ≤ t_3)) ∧ (t_3 ≤ 1099511627776)) →
     ∀ w4, Ext w w4 →
     Q (.int .i64 0) w4))

theorem ok_ticket_Check (t_0 : ByteArray) (t_1 : Int) (t_2 : Int) (t_3 : Int) (w : World) (Q : Value → World → Prop) (h : wp_ticket_Check t_0 t_1 t_2 t_3 w Q) : FnP Tryd.prog F_ticket_Check #[(.agg #[(.string t_0), (.int .i64 t_1), (.int .i64 t_2), (.int .i64 t_3)])] w Q := by
  have e_ : wp_ticket_Check t_0 t_1 t_2 t_3 w Q = Runs Tryd.prog Q ({ N := 31, wrap := [], pub := [], muts := [], joins := [] } : Cfg) Tryd.f18 (Tryd.f18.body.getD .skip) [.agg [.str t_0, .int .i64 t_1, .int .i64 t_2, .int .i64 t_3]] w := by kernel_rfl
  rw [e_] at h
  exact runs_fn h Tryd.func18 (by kernel_rfl) (fun args w => Tryd.call18 args w) (by kernel_rfl) (by kernel_rfl) rfl rfl

/-- shiftbell/ticket.Sum -/
def wp_ticket_Sum (key : Int) (s : ByteArray) (w : World) (Q : Value → World → Prop) : Prop :=
  ∀ w0, Ext w w0 →
  Run Tryd.prog (.convert 9 45 (.string s)) w0 fun v1 w1 =>
   Ext w0 w1 ∧
   ∃ t2 : Option Addr, ∃ tl3 : Nat, ∃ tc4 : Nat, v1 = (.slice t2 tl3 tc4) ∧
   ∃ (I5 : Int → Int → World → Prop) (M5 : Int → Int → World → Nat), I5 key 0 w1 ∧
   ∀ (u6 : Int) (k7 : Int) (w8 : World), I5 u6 k7 w8 →
    (((k7 < (tl3 : Int)) →
     t2 ≠ none ∧
     (0 : Int) ≤ k7 ∧
     (k7 : Int) < (tl3 : Int) ∧
     ∃ t9 : Int, cell w8 (pIdx t2 k7 1) 0 = some (.int .u8 t9) ∧
     InR .u64 t9 ∧
     InR .i64 (k7 + 1) ∧
     (I5 (iBit .xor .u64 (IntKind.wrap .u64 ((IntKind.wrap .u64 (u6 + t9)) * 11400714785074694791)) (iBit .shr .u64 (IntKind.wrap .u64 ((IntKind.wrap .u64 (u6 + t9)) * 11400714785074694791)) 31)) (k7 + 1) w8 ∧ M5 (iBit .xor .u64 (IntKind.wrap .u64 ((IntKind.wrap .u64 (u6 + t9)) * 11400714785074694791)) (iBit .shr .u64 (IntKind.wrap .u64 ((IntKind.wrap .u64 (u6 + t9)) * 11400714785074694791)) 31)) (k7 + 1) w8 < M5 u6 k7 w8))) ∧
    (((tl3 : Int) ≤ k7) →
     ∀ w9, Ext w8 w9 →
     Q (.int .u64 u6) w9)

theorem ok_ticket_Sum (key : Int) (s : ByteArray) (w : World) (Q : Value → World → Prop) (h : wp_ticket_Sum key s w Q) : FnP Tryd.prog F_ticket_Sum #[(.int .u64 key), (.string s)] w Q := by
  have e_ : wp_ticket_Sum key s w Q = Runs Tryd.prog Q ({ N := 27, wrap := [19, 20], pub := [], muts := [], joins := [] } : Cfg) Tryd.f34 (Tryd.f34.body.getD .skip) [.sc (.int .u64 key), .sc (.str s)] w := by kernel_rfl
  rw [e_] at h
  exact runs_fn h Tryd.func34 (by kernel_rfl) (fun args w => Tryd.call34 args w) (by kernel_rfl) (by kernel_rfl) rfl rfl

/-- shiftbell/ticket.hex -/
def wp_ticket_hex (u : Int) (w : World) (Q : Value → World → Prop) : Prop :=
  ∀ w0, Ext w w0 →
  FnP Tryd.prog F_strconv_FormatUint #[(.int .u64 u), (.int .i64 16)] w0 fun v1 w1 =>
   Ext w0 w1 ∧
   ∃ t2 : ByteArray, v1 = (.string t2) ∧
   InR .i64 (16 - (t2.size : Int)) ∧
   ∀ w3, Ext w w3 →
   FnP Tryd.prog F_strings_Repeat #[(.string (⟨#[48]⟩ : ByteArray)), (.int .i64 (16 - (t2.size : Int)))] w3 fun v4 w4 =>
    Ext w3 w4 ∧
    ∃ t5 : ByteArray, v4 = (.string t5) ∧
    CatOk t5 t2 ∧
    ∀ w6, Ext w w6 →
    Q (.string (t5 ++ t2)) w6

theorem ok_ticket_hex (u : Int) (w : World) (Q : Value → World → Prop) (h : wp_ticket_hex u w Q) : FnP Tryd.prog F_ticket_hex #[(.int .u64 u)] w Q := by
  have e_ : wp_ticket_hex u w Q = Runs Tryd.prog Q ({ N := 12, wrap := [], pub := [], muts := [], joins := [] } : Cfg) Tryd.f36 (Tryd.f36.body.getD .skip) [.sc (.int .u64 u)] w := by kernel_rfl
  rw [e_] at h
  exact runs_fn h Tryd.func36 (by kernel_rfl) (fun args w => Tryd.call36 args w) (by kernel_rfl) (by kernel_rfl) rfl rfl

/-- shiftbell/ticket.Seal -/
def wp_ticket_Seal (key : Int) (t_0 : ByteArray) (t_1 : Int) (t_2 : Int) (t_3 : Int) (w : World) (Q : Value → World → Prop) : Prop :=
  ∀ w0, Ext w w0 →
  New w0 37 [(.string t_0), (.int .i64 t_1), (.int .i64 t_2), (.int .i64 t_3)] fun p1 w1 =>
   p1 ≠ none ∧
   ∃ t2 : ByteArray, cell w1 p1 0 = some (.string t2) ∧
   ∃ t3 : Int, cell w1 p1 1 = some (.int .i64 t3) ∧
   ∃ t4 : Int, cell w1 p1 2 = some (.int .i64 t4) ∧
   ∃ t5 : Int, cell w1 p1 3 = some (.int .i64 t5) ∧
   ∀ w6, Ext w1 w6 →
   FnP Tryd.prog F_ticket_Check #[(.agg #[(.string t2), (.int .i64 t3), (.int .i64 t4), (.int .i64 t5)])] w6 fun v7 w7 =>
    Ext w6 w7 ∧
    ∃ t8 : Int, v7 = (.int .i64 t8) ∧
    ((t8 ≠ 0) →
     ∀ w9, Ext w1 w9 →
     Q (.tuple #[(.string (⟨#[]⟩ : ByteArray)), (.int .i64 t8)]) w9) ∧
    ((t8 = 0) →
     p1 ≠ none ∧
     ∃ t9 : ByteArray, cell w1 (pAdd p1 0) 0 = some (.string t9) ∧
     p1 ≠ none ∧
     ∃ t10 : Int, cell w1 (pAdd p1 1) 0 = some (.int .i64 t10) ∧
     p1 ≠ none ∧
     ∃ t11 : Int, cell w1 (pAdd p1 2) 0 = some (.int .i64 t11) ∧
     p1 ≠ none ∧
     ∃ t12 : Int, cell w1 (pAdd p1 3) 0 = some (.int .i64 t12) ∧
     ∀ w13, Ext w1 w13 →
     Run Tryd.prog (.buildSlice 71 3 [(0, (.int .i64 t10)), (1, (.int .i64 t11)), (2, (.int .i64 t12))]) w13 fun v14 w14 =>
      Ext w13 w14 ∧
      ∃ t15 : Option Addr, ∃ tl16 : Nat, ∃ tc17 : Nat, v14 = (.slice t15 tl16 tc17) ∧
      ∃ (I18 : ByteArray → Int → World → Prop) (M18 : ByteArray → Int → World → Nat), I18 t9 0 w14 ∧
      ∀ (s19 : ByteArray) (k20 : Int) (w21 : World), I18 s19 k20 w21 →
       (((k20 < (tl16 : Int)) →
        t15 ≠ none ∧
        (0 : Int) ≤ k20 ∧
        (k20 : Int) < (tl16 : Int) ∧
        ∃ t22 : Int, cell w21 (pIdx t15 k20 1) 0 = some (.int .i64 t22) ∧
        ∀ w23, Ext w21 w23 →
        FnP Tryd.prog F_strconv_FormatInt #[(.int .i64 t22), (.int .i64 10)] w23 fun v24 w24 =>
         Ext w23 w24 ∧
         ∃ t25 : ByteArray, v24 = (.string t25) ∧
         CatOk (⟨#[46]⟩ : ByteArray) t25 ∧
         CatOk s19 ((⟨#[46]⟩ : ByteArray) ++ t25) ∧
         InR .i64 (k20 + 1) ∧
         (I18 (s19 ++ ((⟨#[46]⟩ : ByteArray) ++ t25)) (k20 + 1) w21 ∧ M18 (s19 ++ ((⟨#[46]⟩ : ByteArray) ++ t25)) (k20 + 1) w21 < M18 s19 k20 w21))) ∧
       (((tl16 : Int) ≤ k20) →
        CatOk s19 (⟨#[46]⟩ : ByteArray) ∧
        ∀ w22, Ext w21 w22 →
        FnP Tryd.prog F_ticket_Sum #[(.int .u64 key), (.string s19)] w22 fun v23 w23 =>
         Ext w22 w23 ∧
         ∃ t24 : Int, v23 = (.int .u64 t24) ∧
         ∀ w25, Ext w21 w25 →
         FnP Tryd.prog F_ticket_hex #[(.int .u64 t24)] w25 fun v26 w26 =>
          Ext w25 w26 ∧
          ∃ t27 : ByteArray, v26 = (.string t27) ∧
          CatOk (s19 ++ (⟨#[46]⟩ : ByteArray)) t27 ∧
          ∀ w28, Ext w21 w28 →
          Q (.tuple #[(.string ((s19 ++ (⟨#[46]⟩ : ByteArray)) ++ t27)), (.int .i64 0)]) w28))

theorem ok_ticket_Seal (key : Int) (t_0 : ByteArray) (t_1 : Int) (t_2 : Int) (t_3 : Int) (w : World) (Q : Value → World → Prop) (h : wp_ticket_Seal key t_0 t_1 t_2 t_3 w Q) : FnP Tryd.prog F_ticket_Seal #[(.int .u64 key), (.agg #[(.string t_0), (.int .i64 t_1), (.int .i64 t_2), (.int .i64 t_3)])] w Q := by
  have e_ : wp_ticket_Seal key t_0 t_1 t_2 t_3 w Q = Runs Tryd.prog Q ({ N := 42, wrap := [], pub := [3], muts := [], joins := [] } : Cfg) Tryd.f16 (Tryd.f16.body.getD .skip) [.sc (.int .u64 key), .agg [.str t_0, .int .i64 t_1, .int .i64 t_2, .int .i64 t_3]] w := by kernel_rfl
  rw [e_] at h
  exact runs_fn h Tryd.func16 (by kernel_rfl) (fun args w => Tryd.call16 args w) (by kernel_rfl) (by kernel_rfl) rfl rfl

/-- strconv.FormatUint -/
def wp_strconv_FormatUint (i : Int) (base : Int) (w : World) (Q : Value → World → Prop) : Prop :=
  ∀ w0, Ext w w0 →
  FnP Tryd.prog F_internal_strconv_FormatUint #[(.int .u64 i), (.int .i64 base)] w0 fun v1 w1 =>
   Ext w0 w1 ∧
   ∃ t2 : ByteArray, v1 = (.string t2) ∧
   ∀ w3, Ext w w3 →
   Q (.string t2) w3

theorem ok_strconv_FormatUint (i : Int) (base : Int) (w : World) (Q : Value → World → Prop) (h : wp_strconv_FormatUint i base w Q) : FnP Tryd.prog F_strconv_FormatUint #[(.int .u64 i), (.int .i64 base)] w Q := by
  have e_ : wp_strconv_FormatUint i base w Q = Runs Tryd.prog Q ({ N := 8, wrap := [], pub := [], muts := [], joins := [] } : Cfg) Tryd.f50 (Tryd.f50.body.getD .skip) [.sc (.int .u64 i), .sc (.int .i64 base)] w := by kernel_rfl
  rw [e_] at h
  exact runs_fn h Tryd.func50 (by kernel_rfl) (fun args w => Tryd.call50 args w) (by kernel_rfl) (by kernel_rfl) rfl rfl

/-- internal/strconv.FormatUint -/
def wp_internal_strconv_FormatUint (i : Int) (base : Int) (w : World) (Q : Value → World → Prop) : Prop :=
  (((base = 10) →
   (((i < 100) →
    InR .i64 i ∧
    ∀ w0, Ext w w0 →
    FnP Tryd.prog F_internal_strconv_small #[(.int .i64 i)] w0 fun v1 w1 =>
     Ext w0 w1 ∧
     ∃ t2 : ByteArray, v1 = (.string t2) ∧
     ∀ w3, Ext w w3 →
     Q (.string t2) w3)) ∧
   ((100 ≤ i) →
    ∀ b0 : Nat, w.heap.size ≤ b0 → ∀ w1, Ext w w1 →
    FnP Tryd.prog F_internal_strconv_numDigits #[(.int .u64 i)] w1 fun v2 w2 =>
     Ext w1 w2 ∧
     ∃ t3 : Int, v2 = (.int .i64 t3) ∧
     sxFail))) ∧
  ((base ≠ 10) →
   ∀ w0, Ext w w0 →
   FnP Tryd.prog F_internal_strconv_formatBits #[(.slice none 0 0), (.int .u64 i), (.int .i64 base), (.bool false), (.bool false)] w0 fun v1 w1 =>
    Ext w0 w1 ∧
    ∃ t2 : Option Addr, ∃ tl3 : Nat, ∃ tc4 : Nat, ∃ t5 : ByteArray, v1 = (.tuple #[(.slice t2 tl3 tc4), (.string t5)]) ∧
    ∀ w6, Ext w1 w6 →
    Q (.string t5) w6)

theorem ok_internal_strconv_FormatUint (i : Int) (base : Int) (w : World) (Q : Value → World → Prop) (h : wp_internal_strconv_FormatUint i base w Q) : FnP Tryd.prog F_internal_strconv_FormatUint #[(.int .u64 i), (.int .i64 base)] w Q := by
  have e_ : wp_internal_strconv_FormatUint i base w Q = Runs Tryd.prog Q ({ N := 32, wrap := [], pub := [], muts := [], joins := [] } : Cfg) Tryd.f72 (Tryd.f72.body.getD .skip) [.sc (.int .u64 i), .sc (.int .i64 base)] w := by kernel_rfl
  rw [e_] at h
  exact runs_fn h Tryd.func72 (by kernel_rfl) (fun args w => Tryd.call72 args w) (by kernel_rfl) (by kernel_rfl) rfl rfl

/-- internal/strconv.formatBits -/
def wp_internal_strconv_formatBits (dst : Option Addr) (dstl : Nat) (dstc : Nat) (u : Int) (base : Int) (neg : Bool) (append_ : Bool) (w : World) (Q : Value → World → Prop) : Prop :=
  (((((base < 2) ∨ (base = 10)) ∨ (36 < base)) →
   ∀ w0, Ext w w0 →
   Run Tryd.prog (.makeInterface 9 (.string (⟨#[115, 116, 114, 99, 111, 110, 118, 58, 32, 105, 108, 108, 101, 103, 97, 108, 32, 65, 112, 112, 101, 110, 100, 73, 110, 116, 47, 70, 111, 114, 109, 97, 116, 73, 110, 116, 32, 98, 97, 115, 101]⟩ : ByteArray))) w0 fun v1 w1 =>
    Ext w0 w1 ∧
    ∃ t2 : Value, v1 = t2 ∧
    sxFail)) ∧
  ((((2 ≤ base) ∧ (base ≠ 10)) ∧ (base ≤ 36)) →
   ∀ w0, Ext w w0 →
   New w0 128 [(.int .u8 0), (.int .u8 0), (.int .u8 0), (.int .u8 0), (.int .u8 0), (.int .u8 0), (.int .u8 0), (.int .u8 0), (.int .u8 0), (.int .u8 0), (.int .u8 0), (.int .u8 0), (.int .u8 0), (.int .u8 0), (.int .u8 0), (.int .u8 0), (.int .u8 0), (.int .u8 0), (.int .u8 0), (.int .u8 0), (.int .u8 0), (.int .u8 0), (.int .u8 0), (.int .u8 0), (.int .u8 0), (.int .u8 0), (.int .u8 0), (.int .u8 0), (.int .u8 0), (.int .u8 0), (.int .u8 0), (.int .u8 0), (.int .u8 0), (.int .u8 0), (.int .u8 0), (.int .u8 0), (.int .u8 0), (.int .u8 0), (.int .u8 0), (.int .u8 0), (.int .u8 0), (.int .u8 0), (.int .u8 0), (.int .u8 0), (.int .u8 0), (.int .u8 0), (.int .u8 0), (.int .u8 0), (.int .u8 0), (.int .u8 0), (.int .u8 0), (.int .u8 0), (.int .u8 0), (.int .u8 0), (.int .u8 0), (.int .u8 0), (.int .u8 0), (.int .u8 0), (.int .u8 0), (.int .u8 0), (.int .u8 0), (.int .u8 0), (.int .u8 0), (.int .u8 0), (.int .u8 0)] fun p1 w1 =>
    (((neg = true) →
     ∀ w2, Ext w1 w2 →
     FnP Tryd.prog F_internal_strconv_isPowerOfTwo #[(.int .i64 base)] w2 fun v3 w3 =>
      Ext w2 w3 ∧
      ∃ t4 : Bool, v3 = (.bool t4) ∧
      (((t4 = true) →
       InR .u64 base ∧
       ∀ w5, Ext w1 w5 →
       FnP Tryd.prog F_math_bits_TrailingZeros #[(.int .u64 base)] w5 fun v6 w6 =>
        Ext w5 w6 ∧
        ∃ t7 : Int, v6 = (.int .i64 t7) ∧
        InR .u64 t7 ∧
        InR .u64 base ∧
        InR .u64 base ∧
        InR .u64 (base - 1) ∧
        ∃ (I8 : Int → Int → World → Prop) (M8 : Int → Int → World → Nat), I8 65 (IntKind.wrap .u64 (0 - u)) w1 ∧
        ∀ (i9 : Int) (u10 : Int) (w11 : World), I8 i9 u10 w11 →
         (((base ≤ u10) →
          InR .i64 (i9 - 1) ∧
          (0 : Int) ≤ (iBit .and .u64 u10 (base - 1)) ∧
          ((iBit .and .u64 u10 (base - 1)) : Int) < ((⟨#[48, 49, 50, 51, 52, 53, 54, 55, 56, 57, 97, 98, 99, 100, 101, 102, 103, 104, 105, 106, 107, 108, 109, 110, 111, 112, 113, 114, 115, 116, 117, 118, 119, 120, 121, 122]⟩ : ByteArray).size : Int) ∧
          p1 ≠ none ∧
          (0 : Int) ≤ (i9 - 1) ∧
          ((i9 - 1) : Int) < 65 ∧
          Store w11 (pIdx p1 (i9 - 1) 1) [(.int .u8 (sAt (⟨#[48, 49, 50, 51, 52, 53, 54, 55, 56, 57, 97, 98, 99, 100, 101, 102, 103, 104, 105, 106, 107, 108, 109, 110, 111, 112, 113, 114, 115, 116, 117, 118, 119, 120, 121, 122]⟩ : ByteArray) (iBit .and .u64 u10 (base - 1))))] [] fun w12 =>
           0 ≤ (t7 : Int) ∧
           (I8 (i9 - 1) (iBit .shr .u64 u10 t7) w12 ∧ M8 (i9 - 1) (iBit .shr .u64 u10 t7) w12 < M8 i9 u10 w11))) ∧
         ((u10 < base) →
          InR .i64 (i9 - 1) ∧
          (0 : Int) ≤ u10 ∧
          (u10 : Int) < ((⟨#[48, 49, 50, 51, 52, 53, 54, 55, 56, 57, 97, 98, 99, 100, 101, 102, 103, 104, 105, 106, 107, 108, 109, 110, 111, 112, 113, 114, 115, 116, 117, 118, 119, 120, 121, 122]⟩ : ByteArray).size : Int) ∧
          p1 ≠ none ∧
          (0 : Int) ≤ (i9 - 1) ∧
          ((i9 - 1) : Int) < 65 ∧
          Store w11 (pIdx p1 (i9 - 1) 1) [(.int .u8 (sAt (⟨#[48, 49, 50, 51, 52, 53, 54, 55, 56, 57, 97, 98, 99, 100, 101, 102, 103, 104, 105, 106, 107, 108, 109, 110, 111, 112, 113, 114, 115, 116, 117, 118, 119, 120, 121, 122]⟩ : ByteArray) u10))] [] fun w12 =>
           (((neg = true) →
            InR .i64 ((i9 - 1) - 1) ∧
            p1 ≠ none ∧
            (0 : Int) ≤ ((i9 - 1) - 1) ∧
            (((i9 - 1) - 1) : Int) < 65 ∧
            Store w12 (pIdx p1 ((i9 - 1) - 1) 1) [(.int .u8 45)] [] fun w13 =>
             (((append_ = true) →
              ∀ w14, Ext w13 w14 →
              Run Tryd.prog (.slice 128 (.pointer p1) (some (.int .i64 ((i9 - 1) - 1))) none none) w14 fun v15 w15 =>
               ∃ t16 : Option Addr, ∃ tl17 : Nat, ∃ tc18 : Nat, v15 = (.slice t16 tl17 tc18) ∧
               ∀ w19, Ext w15 w19 →
               Run Tryd.prog (.append #[45, 45] 45 [(.slice dst dstl dstc), (.slice t16 tl17 tc18)]) w19 fun v20 w20 =>
                ∃ t21 : Option Addr, ∃ tl22 : Nat, ∃ tc23 : Nat, v20 = (.slice t21 tl22 tc23) ∧
                ∀ w24, Ext w20 w24 →
                Q (.tuple #[(.slice t21 tl22 tc23), (.string (⟨#[]⟩ : ByteArray))]) w24)) ∧
             ((append_ = false) →
              ∀ w14, Ext w13 w14 →
              Run Tryd.prog (.slice 128 (.pointer p1) (some (.int .i64 ((i9 - 1) - 1))) none none) w14 fun v15 w15 =>
               ∃ t16 : Option Addr, ∃ tl17 : Nat, ∃ tc18 : Nat, v15 = (.slice t16 tl17 tc18) ∧
               ∀ w19, Ext w15 w19 →
               Run Tryd.prog (.convert 45 9 (.slice t16 tl17 tc18)) w19 fun v20 w20 =>
                Ext w19 w20 ∧
                ∃ t21 : ByteArray, v20 = (.string t21) ∧
                ∀ w22, Ext w15 w22 →
                Q (.tuple #[(.slice none 0 0), (.string t21)]) w22))) ∧
           ((neg = false) →
            (((append_ = true) →
             ∀ w13, Ext w12 w13 →
             Run Tryd.prog (.slice 128 (.pointer p1) (some (.int .i64 (i9 - 1))) none none) w13 fun v14 w14 =>
              ∃ t15 : Option Addr, ∃ tl16 : Nat, ∃ tc17 : Nat, v14 = (.slice t15 tl16 tc17) ∧
              ∀ w18, Ext w14 w18 →
              Run Tryd.prog (.append #[45, 45] 45 [(.slice dst dstl dstc), (.slice t15 tl16 tc17)]) w18 fun v19 w19 =>
               ∃ t20 : Option Addr, ∃ tl21 : Nat, ∃ tc22 : Nat, v19 = (.slice t20 tl21 tc22) ∧
               ∀ w23, Ext w19 w23 →
               Q (.tuple #[(.slice t20 tl21 tc22), (.string (⟨#[]⟩ : ByteArray))]) w23)) ∧
            ((append_ = false) →
             ∀ w13, Ext w12 w13 →
             Run Tryd.prog (.slice 128 (.pointer p1) (some (.int .i64 (i9 - 1))) none none) w13 fun v14 w14 =>
              ∃ t15 : Option Addr, ∃ tl16 : Nat, ∃ tc17 : Nat, v14 = (.slice t15 tl16 tc17) ∧
              ∀ w18, Ext w14 w18 →
              Run Tryd.prog (.convert 45 9 (.slice t15 tl16 tc17)) w18 fun v19 w19 =>
               Ext w18 w19 ∧
               ∃ t20 : ByteArray, v19 = (.string t20) ∧
               ∀ w21, Ext w14 w21 →
               Q (.tuple #[(.slice none 0 0), (.string t20)]) w21))))) ∧
      ((t4 = false) →
       InR .u64 base ∧
       ∃ (I5 : Int → Int → World → Prop) (M5 : Int → Int → World → Nat), I5 65 (IntKind.wrap .u64 (0 - u)) w1 ∧
       ∀ (i6 : Int) (u7 : Int) (w8 : World), I5 i6 u7 w8 →
        (((base ≤ u7) →
         InR .i64 (i6 - 1) ∧
         (base : Int) ≠ 0 ∧
         InR .u64 (u7.tdiv base) ∧
         InR .u64 ((u7.tdiv base) * base) ∧
         InR .u64 (u7 - ((u7.tdiv base) * base)) ∧
         (0 : Int) ≤ (u7 - ((u7.tdiv base) * base)) ∧
         ((u7 - ((u7.tdiv base) * base)) : Int) < ((⟨#[48, 49, 50, 51, 52, 53, 54, 55, 56, 57, 97, 98, 99, 100, 101, 102, 103, 104, 105, 106, 107, 108, 109, 110, 111, 112, 113, 114, 115, 116, 117, 118, 119, 120, 121, 122]⟩ : ByteArray).size : Int) ∧
         p1 ≠ none ∧
         (0 : Int) ≤ (i6 - 1) ∧
         ((i6 - 1) : Int) < 65 ∧
         Store w8 (pIdx p1 (i6 - 1) 1) [(.int .u8 (sAt (⟨#[48, 49, 50, 51, 52, 53, 54, 55, 56, 57, 97, 98, 99, 100, 101, 102, 103, 104, 105, 106, 107, 108, 109, 110, 111, 112, 113, 114, 115, 116, 117, 118, 119, 120, 121, 122]⟩ : ByteArray) (u7 - ((u7.tdiv base) * base))))] [] fun w9 =>
          (I5 (i6 - 1) (u7.tdiv base) w9 ∧ M5 (i6 - 1) (u7.tdiv base) w9 < M5 i6 u7 w8))) ∧
        ((u7 < base) →
         InR .i64 (i6 - 1) ∧
         (0 : Int) ≤ u7 ∧
         (u7 : Int) < ((⟨#[48, 49, 50, 51, 52, 53, 54, 55, 56, 57, 97, 98, 99, 100, 101, 102, 103, 104, 105, 106, 107, 108, 109, 110, 111, 112, 113, 114, 115, 116, 117, 118, 119, 120, 121, 122]⟩ : ByteArray).size : Int) ∧
         p1 ≠ none ∧
         (0 : Int) ≤ (i6 - 1) ∧
         ((i6 - 1) : Int) < 65 ∧
         Store w8 (pIdx p1 (i6 - 1) 1) [(.int .u8 (sAt (⟨#[48, 49, 50, 51, 52, 53, 54, 55, 56, 57, 97, 98, 99, 100, 101, 102, 103, 104, 105, 106, 107, 108, 109, 110, 111, 112, 113, 114, 115, 116, 117, 118, 119, 120, 121, 122]⟩ : ByteArray) u7))] [] fun w9 =>
          (((neg = true) →
           InR .i64 ((i6 - 1) - 1) ∧
           p1 ≠ none ∧
           (0 : Int) ≤ ((i6 - 1) - 1) ∧
           (((i6 - 1) - 1) : Int) < 65 ∧
           Store w9 (pIdx p1 ((i6 - 1) - 1) 1) [(.int .u8 45)] [] fun w10 =>
            (((append_ = true) →
             ∀ w11, Ext w10 w11 →
             Run Tryd.prog (.slice 128 (.pointer p1) (some (.int .i64 ((i6 - 1) - 1))) none none) w11 fun v12 w12 =>
              ∃ t13 : Option Addr, ∃ tl14 : Nat, ∃ tc15 : Nat, v12 = (.slice t13 tl14 tc15) ∧
              ∀ w16, Ext w12 w16 →
              Run Tryd.prog (.append #[45, 45] 45 [(.slice dst dstl dstc), (.slice t13 tl14 tc15)]) w16 fun v17 w17 =>
               ∃ t18 : Option Addr, ∃ tl19 : Nat, ∃ tc20 : Nat, v17 = (.slice t18 tl19 tc20) ∧
               ∀ w21, Ext w17 w21 →
               Q (.tuple #[(.slice t18 tl19 tc20), (.string (⟨#[]⟩ : ByteArray))]) w21)) ∧
            ((append_ = false) →
             ∀ w11, Ext w10 w11 →
             Run Tryd.prog (.slice 128 (.pointer p1) (some (.int .i64 ((i6 - 1) - 1))) none none) w11 fun v12 w12 =>
              ∃ t13 : Option Addr, ∃ tl14 : Nat, ∃ tc15 : Nat, v12 = (.slice t13 tl14 tc15) ∧
              ∀ w16, Ext w12 w16 →
              Run Tryd.prog (.convert 45 9 (.slice t13 tl14 tc15)) w16 fun v17 w17 =>
               Ext w16 w17 ∧
               ∃ t18 : ByteArray, v17 = (.string t18) ∧
               ∀ w19, Ext w12 w19 →
               Q (.tuple #[(.slice none 0 0), (.string t18)]) w19))) ∧
          ((neg = false) →
           (((append_ = true) →
            ∀ w10, Ext w9 w10 →
            Run Tryd.prog (.slice 128 (.pointer p1) (some (.int .i64 (i6 - 1))) none none) w10 fun v11 w11 =>
             ∃ t12 : Option Addr, ∃ tl13 : Nat, ∃ tc14 : Nat, v11 = (.slice t12 tl13 tc14) ∧
             ∀ w15, Ext w11 w15 →
             Run Tryd.prog (.append #[45, 45] 45 [(.slice dst dstl dstc), (.slice t12 tl13 tc14)]) w15 fun v16 w16 =>
              ∃ t17 : Option Addr, ∃ tl18 : Nat, ∃ tc19 : Nat, v16 = (.slice t17 tl18 tc19) ∧
              ∀ w20, Ext w16 w20 →
              Q (.tuple #[(.slice t17 tl18 tc19), (.string (⟨#[]⟩ : ByteArray))]) w20)) ∧
           ((append_ = false) →
            ∀ w10, Ext w9 w10 →
            Run Tryd.prog (.slice 128 (.pointer p1) (some (.int .i64 (i6 - 1))) none none) w10 fun v11 w11 =>
             ∃ t12 : Option Addr, ∃ tl13 : Nat, ∃ tc14 : Nat, v11 = (.slice t12 tl13 tc14) ∧
             ∀ w15, Ext w11 w15 →
             Run Tryd.prog (.convert 45 9 (.slice t12 tl13 tc14)) w15 fun v16 w16 =>
              Ext w15 w16 ∧
              ∃ t17 : ByteArray, v16 = (.string t17) ∧
              ∀ w18, Ext w11 w18 →
              Q (.tuple #[(.slice none 0 0), (.string t17)]) w18)))))) ∧
    ((neg = false) →
     ∀ w2, Ext w1 w2 →
     FnP Tryd.prog F_internal_strconv_isPowerOfTwo #[(.int .i64 base)] w2 fun v3 w3 =>
      Ext w2 w3 ∧
      ∃ t4 : Bool, v3 = (.bool t4) ∧
      (((t4 = true) →
       InR .u64 base ∧
       ∀ w5, Ext w1 w5 →
       FnP Tryd.prog F_math_bits_TrailingZeros #[(.int .u64 base)] w5 fun v6 w6 =>
        Ext w5 w6 ∧
        ∃ t7 : Int, v6 = (.int .i64 t7) ∧
        InR .u64 t7 ∧
        InR .u64 base ∧
        InR .u64 base ∧
        InR .u64 (base - 1) ∧
        ∃ (I8 : Int → Int → World → Prop) (M8 : Int → Int → World → Nat), I8 65 u w1 ∧
        ∀ (i9 : Int) (u10 : Int) (w11 : World), I8 i9 u10 w11 →
         (((base ≤ u10) →
          InR .i64 (i9 - 1) ∧
          (0 : Int) ≤ (iBit .and .u64 u10 (base - 1)) ∧
          ((iBit .and .u64 u10 (base - 1)) : Int) < ((⟨#[48, 49, 50, 51, 52, 53, 54, 55, 56, 57, 97, 98, 99, 100, 101, 102, 103, 104, 105, 106, 107, 108, 109, 110, 111, 112, 113, 114, 115, 116, 117, 118, 119, 120, 121, 122]⟩ : ByteArray).size : Int) ∧
          p1 ≠ none ∧
          (0 : Int) ≤ (i9 - 1) ∧
          ((i9 - 1) : Int) < 65 ∧
          Store w11 (pIdx p1 (i9 - 1) 1) [(.int .u8 (sAt (⟨#[48, 49, 50, 51, 52, 53, 54, 55, 56, 57, 97, 98, 99, 100, 101, 102, 103, 104, 105, 106, 107, 108, 109, 110, 111, 112, 113, 114, 115, 116, 117, 118, 119, 120, 121, 122]⟩ : ByteArray) (iBit .and .u64 u10 (base - 1))))] [] fun w12 =>
           0 ≤ (t7 : Int) ∧
           (I8 (i9 - 1) (iBit .shr .u64 u10 t7) w12 ∧ M8 (i9 - 1) (iBit .shr .u64 u10 t7) w12 < M8 i9 u10 w11))) ∧
         ((u10 < base) →
          InR .i64 (i9 - 1) ∧
          (0 : Int) ≤ u10 ∧
          (u10 : Int) < ((⟨#[48, 49, 50, 51, 52, 53, 54, 55, 56, 57, 97, 98, 99, 100, 101, 102, 103, 104, 105, 106, 107, 108, 109, 110, 111, 112, 113, 114, 115, 116, 117, 118, 119, 120, 121, 122]⟩ : ByteArray).size : Int) ∧
          p1 ≠ none ∧
          (0 : Int) ≤ (i9 - 1) ∧
          ((i9 - 1) : Int) < 65 ∧
          Store w11 (pIdx p1 (i9 - 1) 1) [(.int .u8 (sAt (⟨#[48, 49, 50, 51, 52, 53, 54, 55, 56, 57, 97, 98, 99, 100, 101, 102, 103, 104, 105, 106, 107, 108, 109, 110, 111, 112, 113, 114, 115, 116, 117, 118, 119, 120, 121, 122]⟩ : ByteArray) u10))] [] fun w12 =>
           (((neg = true) →
            InR .i64 ((i9 - 1) - 1) ∧
            p1 ≠ none ∧
            (0 : Int) ≤ ((i9 - 1) - 1) ∧
            (((i9 - 1) - 1) : Int) < 65 ∧
            Store w12 (pIdx p1 ((i9 - 1) - 1) 1) [(.int .u8 45)] [] fun w13 =>
             (((append_ = true) →
              ∀ w14, Ext w13 w14 →
              Run Tryd.prog (.slice 128 (.pointer p1) (some (.int .i64 ((i9 - 1) - 1))) none none) w14 fun v15 w15 =>
               ∃ t16 : Option Addr, ∃ tl17 : Nat, ∃ tc18 : Nat, v15 = (.slice t16 tl17 tc18) ∧
               ∀ w19, Ext w15 w19 →
               Run Tryd.prog (.append #[45, 45] 45 [(.slice dst dstl dstc), (.slice t16 tl17 tc18)]) w19 fun v20 w20 =>
                ∃ t21 : Option Addr, ∃ tl22 : Nat, ∃ tc23 : Nat, v20 = (.slice t21 tl22 tc23) ∧
                ∀ w24, Ext w20 w24 →
                Q (.tuple #[(.slice t21 tl22 tc23), (.string (⟨#[]⟩ : ByteArray))]) w24)) ∧
             ((append_ = false) →
              ∀ w14, Ext w13 w14 →
              Run Tryd.prog (.slice 128 (.pointer p1) (some (.int .i64 ((i9 - 1) - 1))) none none) w14 fun v15 w15 =>
               ∃ t16 : Option Addr, ∃ tl17 : Nat, ∃ tc18 : Nat, v15 = (.slice t16 tl17 tc18) ∧
               ∀ w19, Ext w15 w19 →
               Run Tryd.prog (.convert 45 9 (.slice t16 tl17 tc18)) w19 fun v20 w20 =>
                Ext w19 w20 ∧
                ∃ t21 : ByteArray, v20 = (.string t21) ∧
                ∀ w22, Ext w15 w22 →
                Q (.tuple #[(.slice none 0 0), (.string t21)]) w22))) ∧
           ((neg = false) →
            (((append_ = true) →
             ∀ w13, Ext w12 w13 →
             Run Tryd.prog (.slice 128 (.pointer p1) (some (.int .i64 (i9 - 1))) none none) w13 fun v14 w14 =>
              ∃ t15 : Option Addr, ∃ tl16 : Nat, ∃ tc17 : Nat, v14 = (.slice t15 tl16 tc17) ∧
              ∀ w18, Ext w14 w18 →
              Run Tryd.prog (.append #[45, 45] 45 [(.slice dst dstl dstc), (.slice t15 tl16 tc17)]) w18 fun v19 w19 =>
               ∃ t20 : Option Addr, ∃ tl21 : Nat, ∃ tc22 : Nat, v19 = (.slice t20 tl21 tc22) ∧
               ∀ w23, Ext w19 w23 →
               Q (.tuple #[(.slice t20 tl21 tc22), (.string (⟨#[]⟩ : ByteArray))]) w23)) ∧
            ((append_ = false) →
             ∀ w13, Ext w12 w13 →
             Run Tryd.prog (.slice 128 (.pointer p1) (some (.int .i64 (i9 - 1))) none none) w13 fun v14 w14 =>
              ∃ t15 : Option Addr, ∃ tl16 : Nat, ∃ tc17 : Nat, v14 = (.slice t15 tl16 tc17) ∧
              ∀ w18, Ext w14 w18 →
              Run Tryd.prog (.convert 45 9 (.slice t15 tl16 tc17)) w18 fun v19 w19 =>
               Ext w18 w19 ∧
               ∃ t20 : ByteArray, v19 = (.string t20) ∧
               ∀ w21, Ext w14 w21 →
               Q (.tuple #[(.slice none 0 0), (.string t20)]) w21))))) ∧
      ((t4 = false) →
       InR .u64 base ∧
       ∃ (I5 : Int → Int → World → Prop) (M5 : Int → Int → World → Nat), I5 65 u w1 ∧
       ∀ (i6 : Int) (u7 : Int) (w8 : World), I5 i6 u7 w8 →
        (((base ≤ u7) →
         InR .i64 (i6 - 1) ∧
         (base : Int) ≠ 0 ∧
         InR .u64 (u7.tdiv base) ∧
         InR .u64 ((u7.tdiv base) * base) ∧
         InR .u64 (u7 - ((u7.tdiv base) * base)) ∧
         (0 : Int) ≤ (u7 - ((u7.tdiv base) * base)) ∧
         ((u7 - ((u7.tdiv base) * base)) : Int) < ((⟨#[48, 49, 50, 51, 52, 53, 54, 55, 56, 57, 97, 98, 99, 100, 101, 102, 103, 104, 105, 106, 107, 108, 109, 110, 111, 112, 113, 114, 115, 116, 117, 118, 119, 120, 121, 122]⟩ : ByteArray).size : Int) ∧
         p1 ≠ none ∧
         (0 : Int) ≤ (i6 - 1) ∧
         ((i6 - 1) : Int) < 65 ∧
         Store w8 (pIdx p1 (i6 - 1) 1) [(.int .u8 (sAt (⟨#[48, 49, 50, 51, 52, 53, 54, 55, 56, 57, 97, 98, 99, 100, 101, 102, 103, 104, 105, 106, 107, 108, 109, 110, 111, 112, 113, 114, 115, 116, 117, 118, 119, 120, 121, 122]⟩ : ByteArray) (u7 - ((u7.tdiv base) * base))))] [] fun w9 =>
          (I5 (i6 - 1) (u7.tdiv base) w9 ∧ M5 (i6 - 1) (u7.tdiv base) w9 < M5 i6 u7 w8))) ∧
        ((u7 < base) →
         InR .i64 (i6 - 1) ∧
         (0 : Int) ≤ u7 ∧
         (u7 : Int) < ((⟨#[48, 49, 50, 51, 52, 53, 54, 55, 56, 57, 97, 98, 99, 100, 101, 102, 103, 104, 105, 106, 107, 108, 109, 110, 111, 112, 113, 114, 115, 116, 117, 118, 119, 120, 121, 122]⟩ : ByteArray).size : Int) ∧
         p1 ≠ none ∧
         (0 : Int) ≤ (i6 - 1) ∧
         ((i6 - 1) : Int) < 65 ∧
         Store w8 (pIdx p1 (i6 - 1) 1) [(.int .u8 (sAt (⟨#[48, 49, 50, 51, 52, 53, 54, 55, 56, 57, 97, 98, 99, 100, 101, 102, 103, 104, 105, 106, 107, 108, 109, 110, 111, 112, 113, 114, 115, 116, 117, 118, 119, 120, 121, 122]⟩ : ByteArray) u7))] [] fun w9 =>
          (((neg = true) →
           InR .i64 ((i6 - 1) - 1) ∧
           p1 ≠ none ∧
           (0 : Int) ≤ ((i6 - 1) - 1) ∧
           (((i6 - 1) - 1) : Int) < 65 ∧
           Store w9 (pIdx p1 ((i6 - 1) - 1) 1) [(.int .u8 45)] [] fun w10 =>
            (((append_ = true) →
             ∀ w11, Ext w10 w11 →
             Run Tryd.prog (.slice 128 (.pointer p1) (some (.int .i64 ((i6 - 1) - 1))) none none) w11 fun v12 w12 =>
              ∃ t13 : Option Addr, ∃ tl14 : Nat, ∃ tc15 : Nat, v12 = (.slice t13 tl14 tc15) ∧
              ∀ w16, Ext w12 w16 →
              Run Tryd.prog (.append #[45, 45] 45 [(.slice dst dstl dstc), (.slice t13 tl14 tc15)]) w16 fun v17 w17 =>
               ∃ t18 : Option Addr, ∃ tl19 : Nat, ∃ tc20 : Nat, v17 = (.slice t18 tl19 tc20) ∧
               ∀ w21, Ext w17 w21 →
               Q (.tuple #[(.slice t18 tl19 tc20), (.string (⟨#[]⟩ : ByteArray))]) w21)) ∧
            ((append_ = false) →
             ∀ w11, Ext w10 w11 →
             Run Tryd.prog (.slice 128 (.pointer p1) (some (.int .i64 ((i6 - 1) - 1))) none none) w11 fun v12 w12 =>
              ∃ t13 : Option Addr, ∃ tl14 : Nat, ∃ tc15 : Nat, v12 = (.slice t13 tl14 tc15) ∧
              ∀ w16, Ext w12 w16 →
              Run Tryd.prog (.convert 45 9 (.slice t13 tl14 tc15)) w16 fun v17 w17 =>
               Ext w16 w17 ∧
               ∃ t18 : ByteArray, v17 = (.string t18) ∧
               ∀ w19, Ext w12 w19 →
               Q (.tuple #[(.slice none 0 0), (.string t18)]) w19))) ∧
          ((neg = false) →
           (((append_ = true) →
            ∀ w10, Ext w9 w10 →
            Run Tryd.prog (.slice 128 (.pointer p1) (some (.int .i64 (i6 - 1))) none none) w10 fun v11 w11 =>
             ∃ t12 : Option Addr, ∃ tl13 : Nat, ∃ tc14 : Nat, v11 = (.slice t12 tl13 tc14) ∧
             ∀ w15, Ext w11 w15 →
             Run Tryd.prog (.append #[45, 45] 45 [(.slice dst dstl dstc), (.slice t12 tl13 tc14)]) w15 fun v16 w16 =>
              ∃ t17 : Option Addr, ∃ tl18 : Nat, ∃ tc19 : Nat, v16 = (.slice t17 tl18 tc19) ∧
              ∀ w20, Ext w16 w20 →
              Q (.tuple #[(.slice t17 tl18 tc19), (.string (⟨#[]⟩ : ByteArray))]) w20)) ∧
           ((append_ = false) →
            ∀ w10, Ext w9 w10 →
            Run Tryd.prog (.slice 128 (.pointer p1) (some (.int .i64 (i6 - 1))) none none) w10 fun v11 w11 =>
             ∃ t12 : Option Addr, ∃ tl13 : Nat, ∃ tc14 : Nat, v11 = (.slice t12 tl13 tc14) ∧
             ∀ w15, Ext w11 w15 →
             Run Tryd.prog (.convert 45 9 (.slice t12 tl13 tc14)) w15 fun v16 w16 =>
              Ext w15 w16 ∧
              ∃ t17 : ByteArray, v16 = (.string t17) ∧
              ∀ w18, Ext w11 w18 →
              Q (.tuple #[(.slice none 0 0), (.string t17)]) w18))))))

theorem ok_internal_strconv_formatBits (dst : Option Addr) (dstl : Nat) (dstc : Nat) (u : Int) (base : Int) (neg : Bool) (append_ : Bool) (w : World) (Q : Value → World → Prop) (h : wp_internal_strconv_formatBits dst dstl dstc u base neg append_ w Q) : FnP Tryd.prog F_internal_strconv_formatBits #[(.slice dst dstl dstc), (.int .u64 u), (.int .i64 base), (.bool neg), (.bool append_)] w Q := by
  have e_ : wp_internal_strconv_formatBits dst dstl dstc u base neg append_ w Q = Runs Tryd.prog Q ({ N := 102, wrap := [32], pub := [12], muts := [], joins := [] } : Cfg) Tryd.f71 (Tryd.f71.body.getD .skip) [.sc (.slc dst dstl dstc), .sc (.int .u64 u), .sc (.int .i64 base), .sc (.bool (.atom true neg)), .sc (.bool (.atom true append_))] w := by kernel_rfl
  rw [e_] at h
  exact runs_fn h Tryd.func71 (by kernel_rfl) (fun args w => Tryd.call71 args w) (by kernel_rfl) (by kernel_rfl) rfl rfl

/-- internal/strconv.isPowerOfTwo -/
def wp_internal_strconv_isPowerOfTwo (x : Int) (w : World) (Q : Value → World → Prop) : Prop :=
  InR .i64 (x - 1) ∧
  ∀ w0, Ext w w0 →
  Q (.bool (decide ((iBit .and .i64 x (x - 1)) = 0))) w0

theorem ok_internal_strconv_isPowerOfTwo (x : Int) (w : World) (Q : Value → World → Prop) (h : wp_internal_strconv_isPowerOfTwo x w Q) : FnP Tryd.prog F_internal_strconv_isPowerOfTwo #[(.int .i64 x)] w Q := by
  have e_ : wp_internal_strconv_isPowerOfTwo x w Q = Runs Tryd.prog Q ({ N := 8, wrap := [], pub := [], muts := [], joins := [] } : Cfg) Tryd.f94 (Tryd.f94.body.getD .skip) [.sc (.int .i64 x)] w := by kernel_rfl
  rw [e_] at h
  exact runs_fn h Tryd.func94 (by kernel_rfl) (fun args w => Tryd.call94 args w) (by kernel_rfl) (by kernel_rfl) rfl rfl

/-- math/bits.TrailingZeros -/
def wp_math_bits_TrailingZeros (x : Int) (w : World) (Q : Value → World → Prop) : Prop :=
  ∀ w0, Ext w w0 →
  FnP Tryd.prog F_math_bits_TrailingZeros64 #[(.int .u64 x)] w0 fun v1 w1 =>
   Ext w0 w1 ∧
   ∃ t2 : Int, v1 = (.int .i64 t2) ∧
   ∀ w3, Ext w w3 →
   Q (.int .i64 t2) w3

theorem ok_math_bits_TrailingZeros (x : Int) (w : World) (Q : Value → World → Prop) (h : wp_math_bits_TrailingZeros x w Q) : FnP Tryd.prog F_math_bits_TrailingZeros #[(.int .u64 x)] w Q := by
  have e_ : wp_math_bits_TrailingZeros x w Q = Runs Tryd.prog Q ({ N := 8, wrap := [], pub := [], muts := [], joins := [] } : Cfg) Tryd.f95 (Tryd.f95.body.getD .skip) [.sc (.int .u64 x)] w := by kernel_rfl
  rw [e_] at h
  exact runs_fn h Tryd.func95 (by kernel_rfl) (fun args w => Tryd.call95 args w) (by kernel_rfl) (by kernel_rfl) rfl rfl

/-- math/bits.TrailingZeros64 -/
def wp_math_bits_TrailingZeros64 (x : Int) (w : World) (Q : Value → World → Prop) : Prop :=
  ((x = 0) →
   ∀ w0, Ext w w0 →
   Q (.int .i64 64) w0) ∧
  ((x ≠ 0) →
   (some (⟨7, 0, none⟩ : Addr)) ≠ none ∧
   (0 : Int) ≤ (iBit .shr .u64 (IntKind.wrap .u64 ((iBit .and .u64 x (IntKind.wrap .u64 (0 - x))) * 285870213051353865)) 58) ∧
   ((iBit .shr .u64 (IntKind.wrap .u64 ((iBit .and .u64 x (IntKind.wrap .u64 (0 - x))) * 285870213051353865)) 58) : Int) < 64 ∧
   ∃ t0 : Int, cell w (pIdx (some (⟨7, 0, none⟩ : Addr)) (iBit .shr .u64 (IntKind.wrap .u64 ((iBit .and .u64 x (IntKind.wrap .u64 (0 - x))) * 285870213051353865)) 58) 1) 0 = some (.int .u8 t0) ∧
   InR .i64 t0 ∧
   ∀ w1, Ext w w1 →
   Q (.int .i64 t0) w1)

theorem ok_math_bits_TrailingZeros64 (x : Int) (w : World) (Q : Value → World → Prop) (h : wp_math_bits_TrailingZeros64 x w Q) : FnP Tryd.prog F_math_bits_TrailingZeros64 #[(.int .u64 x)] w Q := by
  have e_ : wp_math_bits_TrailingZeros64 x w Q = Runs Tryd.prog Q ({ N := 14, wrap := [7, 9], pub := [], muts := [], joins := [] } : Cfg) Tryd.f109 (Tryd.f109.body.getD .skip) [.sc (.int .u64 x)] w := by kernel_rfl
  rw [e_] at h
  exact runs_fn h Tryd.func109 (by kernel_rfl) (fun args w => Tryd.call109 args w) (by kernel_rfl) (by kernel_rfl) rfl rfl

/-- shiftbell/ticket.Open -/
def wp_ticket_Open (key : Int) (s : ByteArray) (now : Int) (w : World) (Q : Value → World → Prop) : Prop :=
  ∀ b0 : Nat, w.heap.size ≤ b0 → ∀ w1, ExtB [] [b0] w w1 →
  FnP Tryd.prog F_strings_Split #[(.string s), (.string (⟨#[46]⟩ : ByteArray))] w1 fun v2 w2 =>
   Ext w1 w2 ∧
   ∃ t3 : Option Addr, ∃ tl4 : Nat, ∃ tc5 : Nat, v2 = (.slice t3 tl4 tc5) ∧
   (((tl4 : Int) = 5) →
    t3 ≠ none) ∧
   (((tl4 : Int) = 5) →
    (0 : Int) ≤ 4) ∧
   (((tl4 : Int) = 5) →
    (4 : Int) < (tl4 : Int)) ∧
   (((tl4 : Int) ≠ 5) →
    ∀ w6, ExtB [b0] [] w2 w6 →
    Q (.tuple #[(.agg #[(.string (⟨#[]⟩ : ByteArray)), (.int .i64 0), (.int .i64 0), (.int .i64 0)]), (.int .i64 3)]) w6) ∧
   (((tl4 : Int) = 5) →
    ∃ t6 : ByteArray, cell w2 (pIdx t3 4 1) 0 = some (.string t6) ∧
    (((t6.size : Int) = 16) →
     t3 ≠ none) ∧
    (((t6.size : Int) = 16) →
     (0 : Int) ≤ 4) ∧
    (((t6.size : Int) = 16) →
     (4 : Int) < (tl4 : Int)) ∧
    (((t6.size : Int) ≠ 16) →
     ∀ w7, ExtB [b0] [] w2 w7 →
     Q (.tuple #[(.agg #[(.string (⟨#[]⟩ : ByteArray)), (.int .i64 0), (.int .i64 0), (.int .i64 0)]), (.int .i64 3)]) w7) ∧
    (((t6.size : Int) = 16) →
     ∃ t7 : ByteArray, cell w2 (pIdx t3 4 1) 0 = some (.string t7) ∧
     ∀ w8, Ext w2 w8 →
     FnP Tryd.prog F_strings_Trim #[(.string t7), (.string (⟨#[48, 49, 50, 51, 52, 53, 54, 55, 56, 57, 97, 98, 99, 100, 101, 102]⟩ : ByteArray))] w8 fun v9 w9 =>
      Ext w8 w9 ∧
      ∃ t10 : ByteArray, v9 = (.string t10) ∧
      ((t10 ≠ (⟨#[]⟩ : ByteArray)) →
       ∀ w11, ExtB [b0] [] w2 w11 →
       Q (.tuple #[(.agg #[(.string (⟨#[]⟩ : ByteArray)), (.int .i64 0), (.int .i64 0), (.int .i64 0)]), (.int .i64 3)]) w11) ∧
      ((t10 = (⟨#[]⟩ : ByteArray)) →
       InR .i64 ((s.size : Int) - 17) ∧
       (0 : Int) ≤ 0 ∧
       (0 : Int) ≤ ((s.size : Int) - 17) ∧
       (((s.size : Int) - 17) : Int) ≤ (s.size : Int) ∧
       t3 ≠ none ∧
       (0 : Int) ≤ 4 ∧
       (4 : Int) < (tl4 : Int) ∧
       ∃ t11 : ByteArray, cell w2 (pIdx t3 4 1) 0 = some (.string t11) ∧
       ∀ w12, Ext w2 w12 →
       FnP Tryd.prog F_ticket_Sum #[(.int .u64 key), (.string (s.extract (0 : Int).toNat ((s.size : Int) - 17).toNat))] w12 fun v13 w13 =>
        Ext w12 w13 ∧
        ∃ t14 : Int, v13 = (.int .u64 t14) ∧
        ∀ w15, Ext w2 w15 →
        FnP Tryd.prog F_ticket_hex #[(.int .u64 t14)] w15 fun v16 w16 =>
         Ext w15 w16 ∧
         ∃ t17 : ByteArray, v16 = (.string t17) ∧
         ((t17 ≠ t11) →
          ∀ w18, ExtB [b0] [] w2 w18 →
          Q (.tuple #[(.agg #[(.string (⟨#[]⟩ : ByteArray)), (.int .i64 0), (.int .i64 0), (.int .i64 0)]), (.int .i64 12)]) w18) ∧
         ((t17 = t11) →
          t3 ≠ none ∧
          (0 : Int) ≤ 0 ∧
          (0 : Int) < (tl4 : Int) ∧
          ∃ t18 : ByteArray, cell w2 (pIdx t3 0 1) 0 = some (.string t18) ∧
          ∀ w19, ExtB [] [b0] w2 w19 →
          New w19 37 [(.string (⟨#[]⟩ : ByteArray)), (.int .i64 0), (.int .i64 0), (.int .i64 0)] fun p20 w20 =>
           Store w20 p20 [(.string t18), (.int .i64 0), (.int .i64 0), (.int .i64 0)] [b0] fun w21 =>
            p20 ≠ none ∧
            p20 ≠ none ∧
            p20 ≠ none ∧
            ∀ w22, ExtB [] [b0] w21 w22 →
            Run Tryd.prog (.buildSlice 77 3 [(0, (.pointer (pAdd p20 1))), (1, (.pointer (pAdd p20 2))), (2, (.pointer (pAdd p20 3)))]) w22 fun v23 w23 =>
             Ext w22 w23 ∧
             ∃ t24 : Option Addr, ∃ tl25 : Nat, ∃ tc26 : Nat, v23 = (.slice t24 tl25 tc26) ∧
             ∃ (I27 : Int → World → Prop) (M27 : Int → World → Nat), I27 0 w23 ∧
             ∀ (k28 : Int) (w29 : World), I27 k28 w29 →
              (((k28 < (tl25 : Int)) →
               t24 ≠ none ∧
               (0 : Int) ≤ k28 ∧
               (k28 : Int) < (tl25 : Int) ∧
               ∃ t30 : Option Addr, cell w29 (pIdx t24 k28 1) 0 = some (.pointer t30) ∧
               InR .i64 (k28 + 1) ∧
               t3 ≠ none ∧
               (0 : Int) ≤ (k28 + 1) ∧
               ((k28 + 1) : Int) < (tl4 : Int) ∧
               ∃ t31 : ByteArray, cell w29 (pIdx t3 (k28 + 1) 1) 0 = some (.string t31) ∧
               ∀ w32, ExtB [] [b0] w29 w32 →
               FnP Tryd.prog F_strconv_ParseInt #[(.string t31), (.int .i64 10), (.int .i64 64)] w32 fun v33 w33 =>
                Ext w32 w33 ∧
                ∃ t34 : Int, ∃ t35 : Value, v33 = (.tuple #[(.int .i64 t34), t35]) ∧
                ∀ w36, Ext w33 w36 →
                Run Tryd.prog (.eq .neq 63 false true t35 .nilIface) w36 fun v37 w37 =>
                 Ext w36 w37 ∧
                 ∃ t38 : Bool, v37 = (.bool t38) ∧
                 ((t38 = true) →
                  ∀ w39, ExtB [b0] [] w33 w39 →
                  Q (.tuple #[(.agg #[(.string (⟨#[]⟩ : ByteArray)), (.int .i64 0), (.int .i64 0), (.int .i64 0)]), (.int .i64 3)]) w39) ∧
                 ((t38 = false) →
                  t30 ≠ none ∧
                  Store w33 t30 [(.int .i64 t34)] [b0] fun w39 =>
                   InR .i64 (k28 + 1) ∧
                   (I27 (k28 + 1) w39 ∧ M27 (k28 + 1) w39 < M27 k28 w29)))) ∧
              (((tl25 : Int) ≤ k28) →
               p20 ≠ none ∧
               ∃ t30 : ByteArray, cell w29 p20 0 = some (.string t30) ∧
               ∃ t31 : Int, cell w29 p20 1 = some (.int .i64 t31) ∧
               ∃ t32 : Int, cell w29 p20 2 = some (.int .i64 t32) ∧
               ∃ t33 : Int, cell w29 p20 3 = some (.int .i64 t33) ∧
               ∀ w34, Ext w29 w34 →
               FnP Tryd.prog F_ticket_Seal #[(.int .u64 key), (.agg #[(.string t30), (.int .i64 t31), (.int .i64 t32), (.int .i64 t33)])] w34 fun v35 w35 =>
                Ext w34 w35 ∧
                ∃ t36 : ByteArray, ∃ t37 : Int, v35 = (.tuple #[(.string t36), (.int .i64 t37)]) ∧
                (((t37 ≠ 0) ∨ (t36 ≠ s)) →
                 ∀ w38, ExtB [b0] [] w29 w38 →
                 Q (.tuple #[(.agg #[(.string (⟨#[]⟩ : ByteArray)), (.int .i64 0), (.int .i64 0), (.int .i64 0)]), (.int .i64 3)]) w38) ∧
                (((t37 = 0) ∧ (t36 = s)) →
                 p20 ≠ none ∧
                 ∃ t38 : Int, cell w29 (pAdd p20 1) 0 = some (.int .i64 t38) ∧
                 ((t38 ≤ now) →
                  p20 ≠ none) ∧
                 ((now < t38) →
                  ∀ w39, ExtB [b0] [] w29 w39 →
                  Q (.tuple #[(.agg #[(.string (⟨#[]⟩ : ByteArray)), (.int .i64 0), (.int .i64 0), (.int .i64 0)]), (.int .i64 11)]) w39) ∧
                 ((t38 ≤ now) →
                  ∃ t39 : Int, cell w29 (pAdd p20 2) 0 = some (.int .i64 t39) ∧
                  ((t39 < now) →
                   ∀ w40, ExtB [b0] [] w29 w40 →
                   Q (.tuple #[(.agg #[(.string (⟨#[]⟩ : ByteArray)), (.int .i64 0), (.int .i64 0), (.int .i64 0)]), (.int .i64 11)]) w40) ∧
                  ((now ≤ t39) →
                   p20 ≠ none ∧
                   ∃ t40 : ByteArray, cell w29 p20 0 = some (.string t40) ∧
                   ∃ t41 : Int, cell w29 p20 1 = some (.int .i64 t41) ∧
                   ∃ t42 : Int, cell w29 p20 2 = some (.int .i64 t42) ∧
                   ∃ t43 : Int, cell w29 p20 3 = some (.int .i64 t43) ∧
                   ∀ w44, ExtB [b0] [] w29 w44 →
                   Q (.tuple #[(.agg #[(.string t40), (.int .i64 t41), (.int .i64 t42), (.int .i64 t43)]), (.int .i64 0)]) w44))))))))

theorem ok_ticket_Open (key : Int) (s : ByteArray) (now : Int) (w : World) (Q : Value → World → Prop) (h : wp_ticket_Open key s now w Q) : FnP Tryd.prog F_ticket_Open #[(.int .u64 key), (.string s), (.int .i64 now)] w Q := by
  have e_ : wp_ticket_Open key s now w Q = Runs Tryd.prog Q ({ N := 109, wrap := [], pub := [10], muts := [], joins := [] } : Cfg) Tryd.f17 (Tryd.f17.body.getD .skip) [.sc (.int .u64 key), .sc (.str s), .sc (.int .i64 now)] w := by kernel_rfl
  rw [e_] at h
  exact runs_fn h Tryd.func17 (by kernel_rfl) (fun args w => Tryd.call17 args w) (by kernel_rfl) (by kernel_rfl) rfl rfl

/-- shiftbell/ticket.Renew -/
def wp_ticket_Renew (key : Int) (s : ByteArray) (now : Int) (until_v : Int) (w : World) (Q : Value → World → Prop) : Prop :=
  ∀ w0, Ext w w0 →
  FnP Tryd.prog F_ticket_Open #[(.int .u64 key), (.string s), (.int .i64 now)] w0 fun v1 w1 =>
   Ext w0 w1 ∧
   ∃ t_02 : ByteArray, ∃ t_13 : Int, ∃ t_24 : Int, ∃ t_35 : Int, ∃ t6 : Int, v1 = (.tuple #[(.agg #[(.string t_02), (.int .i64 t_13), (.int .i64 t_24), (.int .i64 t_35)]), (.int .i64 t6)]) ∧
   ∀ b7 : Nat, w.heap.size ≤ b7 → ((t6 ≠ 0) →
    ∀ w8, Ext w w8 →
    Q (.tuple #[(.string (⟨#[]⟩ : ByteArray)), (.int .i64 t6)]) w8) ∧
   ((t6 = 0) →
    ((t_35 < until_v) →
     ∀ w8, Ext w w8 →
     Q (.tuple #[(.string (⟨#[]⟩ : ByteArray)), (.int .i64 10)]) w8) ∧
    ((until_v ≤ t_35) →
     ((until_v < t_24) →
      ∀ w8, Ext w w8 →
      Q (.tuple #[(.string (⟨#[]⟩ : ByteArray)), (.int .i64 1)]) w8) ∧
     ((t_24 ≤ until_v) →
      ∀ w8, Ext w w8 →
      FnP Tryd.prog F_ticket_Seal #[(.int .u64 key), (.agg #[(.string t_02), (.int .i64 t_13), (.int .i64 until_v), (.int .i64 t_35)])] w8 fun v9 w9 =>
       Ext w8 w9 ∧
       ∃ t10 : ByteArray, ∃ t11 : Int, v9 = (.tuple #[(.string t10), (.int .i64 t11)]) ∧
       ∀ w12, Ext w w12 →
       Q (.tuple #[(.string t10), (.int .i64 t11)]) w12)))

theorem ok_ticket_Renew (key : Int) (s : ByteArray) (now : Int) (until_v : Int) (w : World) (Q : Value → World → Prop) (h : wp_ticket_Renew key s now until_v w Q) : FnP Tryd.prog F_ticket_Renew #[(.int .u64 key), (.string s), (.int .i64 now), (.int .i64 until_v)] w Q := by
  have e_ : wp_ticket_Renew key s now until_v w Q = Runs Tryd.prog Q ({ N := 40, wrap := [], pub := [], muts := [], joins := [] } : Cfg) Tryd.f19 (Tryd.f19.body.getD .skip) [.sc (.int .u64 key), .sc (.str s), .sc (.int .i64 now), .sc (.int .i64 until_v)] w := by kernel_rfl
  rw [e_] at h
  exact runs_fn h Tryd.func19 (by kernel_rfl) (fun args w => Tryd.call19 args w) (by kernel_rfl) (by kernel_rfl) rfl rfl

/-- shiftbell/shiftbellkeep.tickets -/
def wp_shiftbellkeep_tickets  (w : World) (Q : Value → World → Prop) : Prop :=
  ∀ w0, Ext w w0 →
  FnP Tryd.prog F_ticket_Sum #[(.int .u64 0), (.string (⟨#[]⟩ : ByteArray))] w0 fun v1 w1 =>
   Ext w0 w1 ∧
   ∃ t2 : Int, v1 = (.int .u64 t2) ∧
   (((t2 = 0) →
    ∀ w3, Ext w w3 →
    FnP Tryd.prog F_ticket_Sum #[(.int .u64 5), (.string (⟨#[]⟩ : ByteArray))] w3 fun v4 w4 =>
     Ext w3 w4 ∧
     ∃ t5 : Int, v4 = (.int .u64 t5) ∧
     ∀ w6, Ext w w6 →
     Q (.bool (decide (t5 = 5))) w6)) ∧
   ((t2 ≠ 0) →
    ∀ w3, Ext w w3 →
    Q (.bool false) w3)

theorem ok_shiftbellkeep_tickets  (w : World) (Q : Value → World → Prop) (h : wp_shiftbellkeep_tickets  w Q) : FnP Tryd.prog F_shiftbellkeep_tickets #[] w Q := by
  have e_ : wp_shiftbellkeep_tickets  w Q = Runs Tryd.prog Q ({ N := 7, wrap := [], pub := [], muts := [], joins := [] } : Cfg) Tryd.f15 (Tryd.f15.body.getD .skip) [] w := by kernel_rfl
  rw [e_] at h
  exact runs_fn h Tryd.func15 (by kernel_rfl) (fun args w => Tryd.call15 args w) (by kernel_rfl) (by kernel_rfl) rfl rfl

/-- shiftbell/shiftbellkeep.good -/
def wp_shiftbellkeep_good (l : Option Addr) (ll : Nat) (lc : Nat) (w : World) (Q : Value → World → Prop) : Prop :=
  ∀ w0, Ext w w0 →
  FnP Tryd.prog F_slices_ContainsFunc_api_Errno_api_Errno #[(.slice l ll lc), (.func (.func 33) #[] #[])] w0 fun v1 w1 =>
   Ext w0 w1 ∧
   ∃ t2 : Bool, v1 = (.bool t2) ∧
   ∀ w3, Ext w w3 →
   Q (.bool (!t2)) w3

theorem ok_shiftbellkeep_good (l : Option Addr) (ll : Nat) (lc : Nat) (w : World) (Q : Value → World → Prop) (h : wp_shiftbellkeep_good l ll lc w Q) : FnP Tryd.prog F_shiftbellkeep_good #[(.slice l ll lc)] w Q := by
  have e_ : wp_shiftbellkeep_good l ll lc w Q = Runs Tryd.prog Q ({ N := 6, wrap := [], pub := [], muts := [], joins := [] } : Cfg) Tryd.f14 (Tryd.f14.body.getD .skip) [.sc (.slc l ll lc)] w := by kernel_rfl
  rw [e_] at h
  exact runs_fn h Tryd.func14 (by kernel_rfl) (fun args w => Tryd.call14 args w) (by kernel_rfl) (by kernel_rfl) rfl rfl

/-- shiftbell/shiftbellkeep.good$1 -/
def wp_shiftbellkeep_good_1 (e : Int) (w : World) (Q : Value → World → Prop) : Prop :=
  ∀ w0, Ext w w0 →
  Q (.bool (decide (e ≠ 0))) w0

theorem ok_shiftbellkeep_good_1 (e : Int) (w : World) (Q : Value → World → Prop) (h : wp_shiftbellkeep_good_1 e w Q) : FnP Tryd.prog F_shiftbellkeep_good_1 #[(.int .i64 e)] w Q := by
  have e_ : wp_shiftbellkeep_good_1 e w Q = Runs Tryd.prog Q ({ N := 5, wrap := [], pub := [], muts := [], joins := [] } : Cfg) Tryd.f33 (Tryd.f33.body.getD .skip) [.sc (.int .i64 e)] w := by kernel_rfl
  rw [e_] at h
  exact runs_fn h Tryd.func33 (by kernel_rfl) (fun args w => Tryd.call33 args w) (by kernel_rfl) (by kernel_rfl) rfl rfl

/-- slices.ContainsFunc[[]shiftbell/api.Errno,shiftbell/api.Errno] -/
def wp_slices_ContainsFunc_api_Errno_api_Errno (s : Option Addr) (sl : Nat) (sc : Nat) (f : Value) (w : World) (Q : Value → World → Prop) : Prop :=
  ∀ w0, Ext w w0 →
  FnP Tryd.prog F_slices_IndexFunc_api_Errno_api_Errno #[(.slice s sl sc), f] w0 fun v1 w1 =>
   Ext w0 w1 ∧
   ∃ t2 : Int, v1 = (.int .i64 t2) ∧
   ∀ w3, Ext w w3 →
   Q (.bool (decide (0 ≤ t2))) w3

theorem ok_slices_ContainsFunc_api_Errno_api_Errno (s : Option Addr) (sl : Nat) (sc : Nat) (f : Value) (w : World) (Q : Value → World → Prop) (h : wp_slices_ContainsFunc_api_Errno_api_Errno s sl sc f w Q) : FnP Tryd.prog F_slices_ContainsFunc_api_Errno_api_Errno #[(.slice s sl sc), f] w Q := by
  have e_ : wp_slices_ContainsFunc_api_Errno_api_Errno s sl sc f w Q = Runs Tryd.prog Q ({ N := 9, wrap := [], pub := [], muts := [], joins := [] } : Cfg) Tryd.f32 (Tryd.f32.body.getD .skip) [.sc (.slc s sl sc), .sc (.val f)] w := by kernel_rfl
  rw [e_] at h
  exact runs_fn h Tryd.func32 (by kernel_rfl) (fun args w => Tryd.call32 args w) (by kernel_rfl) (by kernel_rfl) rfl rfl

/-- slices.IndexFunc[[]shiftbell/api.Errno,shiftbell/api.Errno] -/
def wp_slices_IndexFunc_api_Errno_api_Errno (s : Option Addr) (sl : Nat) (sc : Nat) (f : Value) (w : World) (Q : Value → World → Prop) : Prop :=
  ∃ (I0 : Int → World → Prop) (M0 : Int → World → Nat), I0 0 w ∧
  ∀ (k1 : Int) (w2 : World), I0 k1 w2 →
   (((k1 < (sl : Int)) →
    s ≠ none ∧
    (0 : Int) ≤ k1 ∧
    (k1 : Int) < (sl : Int) ∧
    ∃ t3 : Int, cell w2 (pIdx s k1 1) 0 = some (.int .i64 t3) ∧
    ∀ w4, Ext w2 w4 →
    FnVP Tryd.prog f [(.int .i64 t3)] w4 fun v5 w5 =>
     Ext w4 w5 ∧
     ∃ t6 : Bool, v5 = (.bool t6) ∧
     ((t6 = true) →
      ∀ w7, Ext w2 w7 →
      Q (.int .i64 k1) w7) ∧
     ((t6 = false) →
      InR .i64 (k1 + 1) ∧
      (I0 (k1 + 1) w2 ∧ M0 (k1 + 1) w2 < M0 k1 w2)))) ∧
   (((sl : Int) ≤ k1) →
    ∀ w3, Ext w2 w3 →
    Q (.int .i64 (-1)) w3)

theorem ok_slices_IndexFunc_api_Errno_api_Errno (s : Option Addr) (sl : Nat) (sc : Nat) (f : Value) (w : World) (Q : Value → World → Prop) (h : wp_slices_IndexFunc_api_Errno_api_Errno s sl sc f w Q) : FnP Tryd.prog F_slices_IndexFunc_api_Errno_api_Errno #[(.slice s sl sc), f] w Q := by
  have e_ : wp_slices_IndexFunc_api_Errno_api_Errno s sl sc f w Q = Runs Tryd.prog Q ({ N := 19, wrap := [], pub := [], muts := [], joins := [] } : Cfg) Tryd.f48 (Tryd.f48.body.getD .skip) [.sc (.slc s sl sc), .sc (.val f)] w := by kernel_rfl
  rw [e_] at h
  exact runs_fn h Tryd.func48 (by kernel_rfl) (fun args w => Tryd.call48 args w) (by kernel_rfl) (by kernel_rfl) rfl rfl

/-- shiftbell/shiftbellkeep.TicketApart -/
def wp_shiftbellkeep_TicketApart (key : Int) (t_0 : ByteArray) (t_1 : Int) (t_2 : Int) (t_3 : Int) (u_0 : ByteArray) (u_1 : Int) (u_2 : Int) (u_3 : Int) (w : World) (Q : Value → World → Prop) : Prop :=
  ∀ b0 : Nat, w.heap.size ≤ b0 → ∀ b1 : Nat, w.heap.size ≤ b1 → ∀ w2, Ext w w2 →
  FnP Tryd.prog F_shiftbellkeep_tickets #[] w2 fun v3 w3 =>
   Ext w2 w3 ∧
   ∃ t4 : Bool, v3 = (.bool t4) ∧
   ((t4 = false) →
    ∀ w5, Ext w w5 →
    Q (.bool false) w5) ∧
   ((t4 = true) →
    ∀ w5, Ext w w5 →
    FnP Tryd.prog F_ticket_Seal #[(.int .u64 key), (.agg #[(.string t_0), (.int .i64 t_1), (.int .i64 t_2), (.int .i64 t_3)])] w5 fun v6 w6 =>
     Ext w5 w6 ∧
     ∃ t7 : ByteArray, ∃ t8 : Int, v6 = (.tuple #[(.string t7), (.int .i64 t8)]) ∧
     ∀ w9, Ext w w9 →
     FnP Tryd.prog F_ticket_Seal #[(.int .u64 key), (.agg #[(.string u_0), (.int .i64 u_1), (.int .i64 u_2), (.int .i64 u_3)])] w9 fun v10 w10 =>
      Ext w9 w10 ∧
      ∃ t11 : ByteArray, ∃ t12 : Int, v10 = (.tuple #[(.string t11), (.int .i64 t12)]) ∧
      ∀ w13, ExtB [] [b0, b1] w w13 →
      Run Tryd.prog (.buildSlice 67 2 [(0, (.int .i64 t8)), (1, (.int .i64 t12))]) w13 fun v14 w14 =>
       Ext w13 w14 ∧
       ∃ t15 : Option Addr, ∃ tl16 : Nat, ∃ tc17 : Nat, v14 = (.slice t15 tl16 tc17) ∧
       ∀ w18, Ext w14 w18 →
       FnP Tryd.prog F_shiftbellkeep_good #[(.slice t15 tl16 tc17)] w18 fun v19 w19 =>
        Ext w18 w19 ∧
        ∃ t20 : Bool, v19 = (.bool t20) ∧
        ((t20 = false) →
         ∀ w21, Ext w14 w21 →
         Q (.bool (((decide (t8 = 0)) || (decide (t7 = (⟨#[]⟩ : ByteArray)))) && ((decide (t12 = 0)) || (decide (t11 = (⟨#[]⟩ : ByteArray)))))) w21) ∧
        ((t20 = true) →
         ∀ w21, Ext w14 w21 →
         Run Tryd.prog (.eq .eql 37 false false (.agg #[(.string t_0), (.int .i64 t_1), (.int .i64 t_2), (.int .i64 t_3)]) (.agg #[(.string u_0), (.int .i64 u_1), (.int .i64 u_2), (.int .i64 u_3)])) w21 fun v22 w22 =>
          Ext w21 w22 ∧
          ∃ t23 : Bool, v22 = (.bool t23) ∧
          ∀ w24, Ext w14 w24 →
          Q (.bool (((decide (t7 = t11)) && t23) || ((decide (t7 ≠ t11)) && (!t23)))) w24))

theorem ok_shiftbellkeep_TicketApart (key : Int) (t_0 : ByteArray) (t_1 : Int) (t_2 : Int) (t_3 : Int) (u_0 : ByteArray) (u_1 : Int) (u_2 : Int) (u_3 : Int) (w : World) (Q : Value → World → Prop) (h : wp_shiftbellkeep_TicketApart key t_0 t_1 t_2 t_3 u_0 u_1 u_2 u_3 w Q) : FnP Tryd.prog F_shiftbellkeep_TicketApart #[(.int .u64 key), (.agg #[(.string t_0), (.int .i64 t_1), (.int .i64 t_2), (.int .i64 t_3)]), (.agg #[(.string u_0), (.int .i64 u_1), (.int .i64 u_2), (.int .i64 u_3)])] w Q := by
  have e_ : wp_shiftbellkeep_TicketApart key t_0 t_1 t_2 t_3 u_0 u_1 u_2 u_3 w Q = Runs Tryd.prog Q ({ N := 51, wrap := [], pub := [], muts := [], joins := [] } : Cfg) Tryd.f4 (Tryd.f4.body.getD .skip) [.sc (.int .u64 key), .agg [.str t_0, .int .i64 t_1, .int .i64 t_2, .int .i64 t_3], .agg [.str u_0, .int .i64 u_1, .int .i64 u_2, .int .i64 u_3]] w := by kernel_rfl
  rw [e_] at h
  exact runs_fn h Tryd.func4 (by kernel_rfl) (fun args w => Tryd.call4 args w) (by kernel_rfl) (by kernel_rfl) rfl rfl

theorem open_shiftbellkeep_TicketApart (W : World) (R : Array Value → Prop) (h : ∀ key : Int, InR .u64 key → ∀ t_0 : ByteArray, t_0.size ≤ 9223372036854775807 → ∀ t_1 : Int, InR .i64 t_1 → ∀ t_2 : Int, InR .i64 t_2 → ∀ t_3 : Int, InR .i64 t_3 → ∀ u_0 : ByteArray, u_0.size ≤ 9223372036854775807 → ∀ u_1 : Int, InR .i64 u_1 → ∀ u_2 : Int, InR .i64 u_2 → ∀ u_3 : Int, InR .i64 u_3 → R #[(.int .u64 key), (.agg #[(.string t_0), (.int .i64 t_1), (.int .i64 t_2), (.int .i64 t_3)]), (.agg #[(.string u_0), (.int .i64 u_1), (.int .i64 u_2), (.int .i64 u_3)])]) (args : Array Value) (hg : GoodAll Tryd.prog W Tryd.f4.params.toList args.toList) : R args := by
  have e_ : (ArgsAll Tryd.prog W Tryd.f4.params.toList fun l => R l.toArray) = (∀ key : Int, InR .u64 key → ∀ t_0 : ByteArray, t_0.size ≤ 9223372036854775807 → ∀ t_1 : Int, InR .i64 t_1 → ∀ t_2 : Int, InR .i64 t_2 → ∀ t_3 : Int, InR .i64 t_3 → ∀ u_0 : ByteArray, u_0.size ≤ 9223372036854775807 → ∀ u_1 : Int, InR .i64 u_1 → ∀ u_2 : Int, InR .i64 u_2 → ∀ u_3 : Int, InR .i64 u_3 → R #[(.int .u64 key), (.agg #[(.string t_0), (.int .i64 t_1), (.int .i64 t_2), (.int .i64 t_3)]), (.agg #[(.string u_0), (.int .i64 u_1), (.int .i64 u_2), (.int .i64 u_3)])]) := by kernel_rfl
  exact args_open (by rw [e_]; exact h) args hg
-- wit 4 #[(.int .u64 0), (.agg #[(.string (⟨#[]⟩ : ByteArray)), (.int .i64 0), (.int .i64 0), (.int .i64 0)]), (.agg #[(.string (⟨#[]⟩ : ByteArray)), (.int .i64 0), (.int .i64 0), (.int .i64 0)])]

/-- shiftbell/shiftbellkeep.TicketBack -/
def wp_shiftbellkeep_TicketBack (key : Int) (t_0 : ByteArray) (t_1 : Int) (t_2 : Int) (t_3 : Int) (now : Int) (w : World) (Q : Value → World → Prop) : Prop :=
  ∀ b0 : Nat, w.heap.size ≤ b0 → ∀ w1, Ext w w1 →
  FnP Tryd.prog F_shiftbellkeep_tickets #[] w1 fun v2 w2 =>
   Ext w1 w2 ∧
   ∃ t3 : Bool, v2 = (.bool t3) ∧
   ((t3 = false) →
    ∀ w4, Ext w w4 →
    Q (.bool false) w4) ∧
   ((t3 = true) →
    ∀ w4, Ext w w4 →
    FnP Tryd.prog F_ticket_Seal #[(.int .u64 key), (.agg #[(.string t_0), (.int .i64 t_1), (.int .i64 t_2), (.int .i64 t_3)])] w4 fun v5 w5 =>
     Ext w4 w5 ∧
     ∃ t6 : ByteArray, ∃ t7 : Int, v5 = (.tuple #[(.string t6), (.int .i64 t7)]) ∧
     ((t7 ≠ 0) →
      ∀ w8, Ext w w8 →
      Q (.bool (decide (t6 = (⟨#[]⟩ : ByteArray)))) w8) ∧
     ((t7 = 0) →
      ∀ w8, Ext w w8 →
      FnP Tryd.prog F_ticket_Open #[(.int .u64 key), (.string t6), (.int .i64 now)] w8 fun v9 w9 =>
       Ext w8 w9 ∧
       ∃ t_010 : ByteArray, ∃ t_111 : Int, ∃ t_212 : Int, ∃ t_313 : Int, ∃ t14 : Int, v9 = (.tuple #[(.agg #[(.string t_010), (.int .i64 t_111), (.int .i64 t_212), (.int .i64 t_313)]), (.int .i64 t14)]) ∧
       ∀ b15 : Nat, w.heap.size ≤ b15 → ((((now < t_1) ∨ (t_2 < now)) →
        (((t14 = 11) →
         ∀ w16, Ext w w16 →
         Run Tryd.prog (.eq .eql 37 false false (.agg #[(.string t_010), (.int .i64 t_111), (.int .i64 t_212), (.int .i64 t_313)]) (.agg #[(.string (⟨#[]⟩ : ByteArray)), (.int .i64 0), (.int .i64 0), (.int .i64 0)])) w16 fun v17 w17 =>
          Ext w16 w17 ∧
          ∃ t18 : Bool, v17 = (.bool t18) ∧
          ∀ w19, Ext w w19 →
          Q (.bool t18) w19)) ∧
        ((t14 ≠ 11) →
         ∀ w16, Ext w w16 →
         Q (.bool false) w16))) ∧
       (((t_1 ≤ now) ∧ (now ≤ t_2)) →
        (((t14 = 0) →
         ∀ w16, Ext w w16 →
         Run Tryd.prog (.eq .eql 37 false false (.agg #[(.string t_010), (.int .i64 t_111), (.int .i64 t_212), (.int .i64 t_313)]) (.agg #[(.string t_0), (.int .i64 t_1), (.int .i64 t_2), (.int .i64 t_3)])) w16 fun v17 w17 =>
          Ext w16 w17 ∧
          ∃ t18 : Bool, v17 = (.bool t18) ∧
          ∀ w19, Ext w w19 →
          Q (.bool t18) w19)) ∧
        ((t14 ≠ 0) →
         ∀ w16, Ext w w16 →
         Q (.bool false) w16))))

theorem ok_shiftbellkeep_TicketBack (key : Int) (t_0 : ByteArray) (t_1 : Int) (t_2 : Int) (t_3 : Int) (now : Int) (w : World) (Q : Value → World → Prop) (h : wp_shiftbellkeep_TicketBack key t_0 t_1 t_2 t_3 now w Q) : FnP Tryd.prog F_shiftbellkeep_TicketBack #[(.int .u64 key), (.agg #[(.string t_0), (.int .i64 t_1), (.int .i64 t_2), (.int .i64 t_3)]), (.int .i64 now)] w Q := by
  have e_ : wp_shiftbellkeep_TicketBack key t_0 t_1 t_2 t_3 now w Q = Runs Tryd.prog Q ({ N := 54, wrap := [], pub := [], muts := [], joins := [] } : Cfg) Tryd.f5 (Tryd.f5.body.getD .skip) [.sc (.int .u64 key), .agg [.str t_0, .int .i64 t_1, .int .i64 t_2, .int .i64 t_3], .sc (.int .i64 now)] w := by kernel_rfl
  rw [e_] at h
  exact runs_fn h Tryd.func5 (by kernel_rfl) (fun args w => Tryd.call5 args w) (by kernel_rfl) (by kernel_rfl) rfl rfl

theorem open_shiftbellkeep_TicketBack (W : World) (R : Array Value → Prop) (h : ∀ key : Int, InR .u64 key → ∀ t_0 : ByteArray, t_0.size ≤ 9223372036854775807 → ∀ t_1 : Int, InR .i64 t_1 → ∀ t_2 : Int, InR .i64 t_2 → ∀ t_3 : Int, InR .i64 t_3 → ∀ now : Int, InR .i64 now → R #[(.int .u64 key), (.agg #[(.string t_0), (.int .i64 t_1), (.int .i64 t_2), (.int .i64 t_3)]), (.int .i64 now)]) (args : Array Value) (hg : GoodAll Tryd.prog W Tryd.f5.params.toList args.toList) : R args := by
  have e_ : (ArgsAll Tryd.prog W Tryd.f5.params.toList fun l => R l.toArray) = (∀ key : Int, InR .u64 key → ∀ t_0 : ByteArray, t_0.size ≤ 9223372036854775807 → ∀ t_1 : Int, InR .i64 t_1 → ∀ t_2 : Int, InR .i64 t_2 → ∀ t_3 : Int, InR .i64 t_3 → ∀ now : Int, InR .i64 now → R #[(.int .u64 key), (.agg #[(.string t_0), (.int .i64 t_1), (.int .i64 t_2), (.int .i64 t_3)]), (.int .i64 now)]) := by kernel_rfl
  exact args_open (by rw [e_]; exact h) args hg
-- wit 5 #[(.int .u64 0), (.agg #[(.string (⟨#[]⟩ : ByteArray)), (.int .i64 0), (.int .i64 0), (.int .i64 0)]), (.int .i64 0)]

/-- shiftbell/shiftbellkeep.TicketOne -/
def wp_shiftbellkeep_TicketOne (key : Int) (s : ByteArray) (now : Int) (w : World) (Q : Value → World → Prop) : Prop :=
  ∀ w0, Ext w w0 →
  FnP Tryd.prog F_shiftbellkeep_tickets #[] w0 fun v1 w1 =>
   Ext w0 w1 ∧
   ∃ t2 : Bool, v1 = (.bool t2) ∧
   ((t2 = false) →
    ∀ w3, Ext w w3 →
    Q (.bool false) w3) ∧
   ((t2 = true) →
    ∀ w3, Ext w w3 →
    FnP Tryd.prog F_ticket_Open #[(.int .u64 key), (.string s), (.int .i64 now)] w3 fun v4 w4 =>
     Ext w3 w4 ∧
     ∃ t_05 : ByteArray, ∃ t_16 : Int, ∃ t_27 : Int, ∃ t_38 : Int, ∃ t9 : Int, v4 = (.tuple #[(.agg #[(.string t_05), (.int .i64 t_16), (.int .i64 t_27), (.int .i64 t_38)]), (.int .i64 t9)]) ∧
     ∀ b10 : Nat, w.heap.size ≤ b10 → (((t9 ≠ 0) →
      ∀ w11, Ext w w11 →
      Run Tryd.prog (.eq .eql 37 false false (.agg #[(.string t_05), (.int .i64 t_16), (.int .i64 t_27), (.int .i64 t_38)]) (.agg #[(.string (⟨#[]⟩ : ByteArray)), (.int .i64 0), (.int .i64 0), (.int .i64 0)])) w11 fun v12 w12 =>
       Ext w11 w12 ∧
       ∃ t13 : Bool, v12 = (.bool t13) ∧
       ∀ w14, Ext w w14 →
       Q (.bool t13) w14)) ∧
     ((t9 = 0) →
      ∀ w11, Ext w w11 →
      FnP Tryd.prog F_ticket_Seal #[(.int .u64 key), (.agg #[(.string t_05), (.int .i64 t_16), (.int .i64 t_27), (.int .i64 t_38)])] w11 fun v12 w12 =>
       Ext w11 w12 ∧
       ∃ t13 : ByteArray, ∃ t14 : Int, v12 = (.tuple #[(.string t13), (.int .i64 t14)]) ∧
       ((((t14 = 0) ∧ (t13 = s)) →
        ∀ w15, Ext w w15 →
        FnP Tryd.prog F_ticket_Check #[(.agg #[(.string t_05), (.int .i64 t_16), (.int .i64 t_27), (.int .i64 t_38)])] w15 fun v16 w16 =>
         Ext w15 w16 ∧
         ∃ t17 : Int, v16 = (.int .i64 t17) ∧
         ∀ w18, Ext w w18 →
         Q (.bool (decide (t17 = 0))) w18)) ∧
       (((t14 ≠ 0) ∨ (t13 ≠ s)) →
        ∀ w15, Ext w w15 →
        Q (.bool false) w15)))

theorem ok_shiftbellkeep_TicketOne (key : Int) (s : ByteArray) (now : Int) (w : World) (Q : Value → World → Prop) (h : wp_shiftbellkeep_TicketOne key s now w Q) : FnP Tryd.prog F_shiftbellkeep_TicketOne #[(.int .u64 key), (.string s), (.int .i64 now)] w Q := by
  have e_ : wp_shiftbellkeep_TicketOne key s now w Q = Runs Tryd.prog Q ({ N := 43, wrap := [], pub := [], muts := [], joins := [] } : Cfg) Tryd.f6 (Tryd.f6.body.getD .skip) [.sc (.int .u64 key), .sc (.str s), .sc (.int .i64 now)] w := by kernel_rfl
  rw [e_] at h
  exact runs_fn h Tryd.func6 (by kernel_rfl) (fun args w => Tryd.call6 args w) (by kernel_rfl) (by kernel_rfl) rfl rfl

theorem open_shiftbellkeep_TicketOne (W : World) (R : Array Value → Prop) (h : ∀ key : Int, InR .u64 key → ∀ s : ByteArray, s.size ≤ 9223372036854775807 → ∀ now : Int, InR .i64 now → R #[(.int .u64 key), (.string s), (.int .i64 now)]) (args : Array Value) (hg : GoodAll Tryd.prog W Tryd.f6.params.toList args.toList) : R args := by
  have e_ : (ArgsAll Tryd.prog W Tryd.f6.params.toList fun l => R l.toArray) = (∀ key : Int, InR .u64 key → ∀ s : ByteArray, s.size ≤ 9223372036854775807 → ∀ now : Int, InR .i64 now → R #[(.int .u64 key), (.string s), (.int .i64 now)]) := by kernel_rfl
  exact args_open (by rw [e_]; exact h) args hg
-- wit 6 #[(.int .u64 0), (.string (⟨#[]⟩ : ByteArray)), (.int .i64 0)]

/-- shiftbell/shiftbellkeep.TicketTurned -/
def wp_shiftbellkeep_TicketTurned (key : Int) (t_0 : ByteArray) (t_1 : Int) (t_2 : Int) (t_3 : Int) (at_v : Int) (c : Int) (now : Int) (w : World) (Q : Value → World → Prop) : Prop :=
  ∀ b0 : Nat, w.heap.size ≤ b0 → ∀ w1, Ext w w1 →
  FnP Tryd.prog F_shiftbellkeep_tickets #[] w1 fun v2 w2 =>
   Ext w1 w2 ∧
   ∃ t3 : Bool, v2 = (.bool t3) ∧
   ((t3 = false) →
    ∀ w4, Ext w w4 →
    Q (.bool false) w4) ∧
   ((t3 = true) →
    ∀ w4, Ext w w4 →
    FnP Tryd.prog F_ticket_Seal #[(.int .u64 key), (.agg #[(.string t_0), (.int .i64 t_1), (.int .i64 t_2), (.int .i64 t_3)])] w4 fun v5 w5 =>
     Ext w4 w5 ∧
     ∃ t6 : ByteArray, ∃ t7 : Int, v5 = (.tuple #[(.string t6), (.int .i64 t7)]) ∧
     (((((t7 = 0) ∧ (0 ≤ at_v)) ∧ (at_v < (t6.size : Int))) →
      (0 : Int) ≤ at_v)) ∧
     (((((t7 = 0) ∧ (0 ≤ at_v)) ∧ (at_v < (t6.size : Int))) →
      (at_v : Int) < (t6.size : Int))) ∧
     (((((t7 ≠ 0) ∨ (at_v < 0)) ∨ ((t6.size : Int) ≤ at_v)) ∨ ((sAt t6 at_v) = c)) →
      ∀ w8, Ext w w8 →
      Q (.bool ((decide (t7 = 0)) || (decide (t6 = (⟨#[]⟩ : ByteArray))))) w8) ∧
     (((((t7 = 0) ∧ (0 ≤ at_v)) ∧ (at_v < (t6.size : Int))) ∧ ((sAt t6 at_v) ≠ c)) →
      ∀ w8, ExtB [] [b0] w w8 →
      Run Tryd.prog (.convert 9 45 (.string t6)) w8 fun v9 w9 =>
       Ext w8 w9 ∧
       ∃ t10 : Option Addr, ∃ tl11 : Nat, ∃ tc12 : Nat, v9 = (.slice t10 tl11 tc12) ∧
       t10 ≠ none ∧
       (0 : Int) ≤ at_v ∧
       (at_v : Int) < (tl11 : Int) ∧
       Store w9 (pIdx t10 at_v 1) [(.int .u8 c)] [b0] fun w13 =>
        ∀ w14, Ext w13 w14 →
        Run Tryd.prog (.convert 45 9 (.slice t10 tl11 tc12)) w14 fun v15 w15 =>
         Ext w14 w15 ∧
         ∃ t16 : ByteArray, v15 = (.string t16) ∧
         ∀ w17, Ext w13 w17 →
         FnP Tryd.prog F_ticket_Open #[(.int .u64 key), (.string t16), (.int .i64 now)] w17 fun v18 w18 =>
          Ext w17 w18 ∧
          ∃ t_019 : ByteArray, ∃ t_120 : Int, ∃ t_221 : Int, ∃ t_322 : Int, ∃ t23 : Int, v18 = (.tuple #[(.agg #[(.string t_019), (.int .i64 t_120), (.int .i64 t_221), (.int .i64 t_322)]), (.int .i64 t23)]) ∧
          ∀ b24 : Nat, w13.heap.size ≤ b24 → (((t23 ≠ 0) →
           ∀ w25, Ext w13 w25 →
           Run Tryd.prog (.eq .eql 37 false false (.agg #[(.string t_019), (.int .i64 t_120), (.int .i64 t_221), (.int .i64 t_322)]) (.agg #[(.string (⟨#[]⟩ : ByteArray)), (.int .i64 0), (.int .i64 0), (.int .i64 0)])) w25 fun v26 w26 =>
            Ext w25 w26 ∧
            ∃ t27 : Bool, v26 = (.bool t27) ∧
            ∀ w28, Ext w13 w28 →
            Q (.bool t27) w28)) ∧
          ((t23 = 0) →
           ∀ w25, Ext w13 w25 →
           Q (.bool false) w25)))

theorem ok_shiftbellkeep_TicketTurned (key : Int) (t_0 : ByteArray) (t_1 : Int) (t_2 : Int) (t_3 : Int) (at_v : Int) (c : Int) (now : Int) (w : World) (Q : Value → World → Prop) (h : wp_shiftbellkeep_TicketTurned key t_0 t_1 t_2 t_3 at_v c now w Q) : FnP Tryd.prog F_shiftbellkeep_TicketTurned #[(.int .u64 key), (.agg #[(.string t_0), (.int .i64 t_1), (.int .i64 t_2), (.int .i64 t_3)]), (.int .i64 at_v), (.int .u8 c), (.int .i64 now)] w Q := by
  have e_ : wp_shiftbellkeep_TicketTurned key t_0 t_1 t_2 t_3 at_v c now w Q = Runs Tryd.prog Q ({ N := 70, wrap := [], pub := [], muts := [], joins := [] } : Cfg) Tryd.f7 (Tryd.f7.body.getD .skip) [.sc (.int .u64 key), .agg [.str t_0, .int .i64 t_1, .int .i64 t_2, .int .i64 t_3], .sc (.int .i64 at_v), .sc (.int .u8 c), .sc (.int .i64 now)] w := by kernel_rfl
  rw [e_] at h
  exact runs_fn h Tryd.func7 (by kernel_rfl) (fun args w => Tryd.call7 args w) (by kernel_rfl) (by kernel_rfl) rfl rfl

theorem open_shiftbellkeep_TicketTurned (W : World) (R : Array Value → Prop) (h : ∀ key : Int, InR .u64 key → ∀ t_0 : ByteArray, t_0.size ≤ 9223372036854775807 → ∀ t_1 : Int, InR .i64 t_1 → ∀ t_2 : Int, InR .i64 t_2 → ∀ t_3 : Int, InR .i64 t_3 → ∀ at_v : Int, InR .i64 at_v → ∀ c : Int, InR .u8 c → ∀ now : Int, InR .i64 now → R #[(.int .u64 key), (.agg #[(.string t_0), (.int .i64 t_1), (.int .i64 t_2), (.int .i64 t_3)]), (.int .i64 at_v), (.int .u8 c), (.int .i64 now)]) (args : Array Value) (hg : GoodAll Tryd.prog W Tryd.f7.params.toList args.toList) : R args := by
  have e_ : (ArgsAll Tryd.prog W Tryd.f7.params.toList fun l => R l.toArray) = (∀ key : Int, InR .u64 key → ∀ t_0 : ByteArray, t_0.size ≤ 9223372036854775807 → ∀ t_1 : Int, InR .i64 t_1 → ∀ t_2 : Int, InR .i64 t_2 → ∀ t_3 : Int, InR .i64 t_3 → ∀ at_v : Int, InR .i64 at_v → ∀ c : Int, InR .u8 c → ∀ now : Int, InR .i64 now → R #[(.int .u64 key), (.agg #[(.string t_0), (.int .i64 t_1), (.int .i64 t_2), (.int .i64 t_3)]), (.int .i64 at_v), (.int .u8 c), (.int .i64 now)]) := by kernel_rfl
  exact args_open (by rw [e_]; exact h) args hg
-- wit 7 #[(.int .u64 0), (.agg #[(.string (⟨#[]⟩ : ByteArray)), (.int .i64 0), (.int .i64 0), (.int .i64 0)]), (.int .i64 0), (.int .u8 0), (.int .i64 0)]

/-- shiftbell/shiftbellkeep.TicketRenewed -/
def wp_shiftbellkeep_TicketRenewed (key : Int) (t_0 : ByteArray) (t_1 : Int) (t_2 : Int) (t_3 : Int) (now : Int) (until_v : Int) (w : World) (Q : Value → World → Prop) : Prop :=
  ∀ b0 : Nat, w.heap.size ≤ b0 → ∀ w1, Ext w w1 →
  FnP Tryd.prog F_shiftbellkeep_tickets #[] w1 fun v2 w2 =>
   Ext w1 w2 ∧
   ∃ t3 : Bool, v2 = (.bool t3) ∧
   ((t3 = false) →
    ∀ w4, Ext w w4 →
    Q (.bool false) w4) ∧
   ((t3 = true) →
    ∀ w4, Ext w w4 →
    FnP Tryd.prog F_ticket_Seal #[(.int .u64 key), (.agg #[(.string t_0), (.int .i64 t_1), (.int .i64 t_2), (.int .i64 t_3)])] w4 fun v5 w5 =>
     Ext w4 w5 ∧
     ∃ t6 : ByteArray, ∃ t7 : Int, v5 = (.tuple #[(.string t6), (.int .i64 t7)]) ∧
     ∀ w8, Ext w w8 →
     FnP Tryd.prog F_ticket_Renew #[(.int .u64 key), (.string t6), (.int .i64 now), (.int .i64 until_v)] w8 fun v9 w9 =>
      Ext w8 w9 ∧
      ∃ t10 : ByteArray, ∃ t11 : Int, v9 = (.tuple #[(.string t10), (.int .i64 t11)]) ∧
      (((t7 ≠ 0) ∨ (t11 ≠ 0)) →
       ∀ w12, Ext w w12 →
       Q (.bool ((decide (t10 = (⟨#[]⟩ : ByteArray))) && (((((decide (t7 ≠ 0)) || (decide (now < t_1))) || (decide (t_2 < now))) || (decide (until_v < t_2))) || (decide (t_3 < until_v))))) w12) ∧
      (((t7 = 0) ∧ (t11 = 0)) →
       ∀ w12, Ext w w12 →
       FnP Tryd.prog F_ticket_Open #[(.int .u64 key), (.string t10), (.int .i64 now)] w12 fun v13 w13 =>
        Ext w12 w13 ∧
        ∃ t_014 : ByteArray, ∃ t_115 : Int, ∃ t_216 : Int, ∃ t_317 : Int, ∃ t18 : Int, v13 = (.tuple #[(.agg #[(.string t_014), (.int .i64 t_115), (.int .i64 t_216), (.int .i64 t_317)]), (.int .i64 t18)]) ∧
        ∀ b19 : Nat, w.heap.size ≤ b19 → (((t18 = 0) →
         ∀ w20, Ext w w20 →
         Run Tryd.prog (.eq .eql 37 false false (.agg #[(.string t_014), (.int .i64 t_115), (.int .i64 t_216), (.int .i64 t_317)]) (.agg #[(.string t_0), (.int .i64 t_1), (.int .i64 until_v), (.int .i64 t_3)])) w20 fun v21 w21 =>
          Ext w20 w21 ∧
          ∃ t22 : Bool, v21 = (.bool t22) ∧
          ∀ w23, Ext w w23 →
          Q (.bool (t22 && (decide (t_216 ≤ t_317)))) w23)) ∧
        ((t18 ≠ 0) →
         ∀ w20, Ext w w20 →
         Q (.bool false) w20)))

theorem ok_shiftbellkeep_TicketRenewed (key : Int) (t_0 : ByteArray) (t_1 : Int) (t_2 : Int) (t_3 : Int) (now : Int) (until_v : Int) (w : World) (Q : Value → World → Prop) (h : wp_shiftbellkeep_TicketRenewed key t_0 t_1 t_2 t_3 now until_v w Q) : FnP Tryd.prog F_shiftbellkeep_TicketRenewed #[(.int .u64 key), (.agg #[(.string t_0), (.int .i64 t_1), (.int .i64 t_2), (.int .i64 t_3)]), (.int .i64 now), (.int .i64 until_v)] w Q := by
  have e_ : wp_shiftbellkeep_TicketRenewed key t_0 t_1 t_2 t_3 now until_v w Q = Runs Tryd.prog Q ({ N := 90, wrap := [], pub := [], muts := [], joins := [] } : Cfg) Tryd.f8 (Tryd.f8.body.getD .skip) [.sc (.int .u64 key), .agg [.str t_0, .int .i64 t_1, .int .i64 t_2, .int .i64 t_3], .sc (.int .i64 now), .sc (.int .i64 until_v)] w := by kernel_rfl
  rw [e_] at h
  exact runs_fn h Tryd.func8 (by kernel_rfl) (fun args w => Tryd.call8 args w) (by kernel_rfl) (by kernel_rfl) rfl rfl

theorem open_shiftbellkeep_TicketRenewed (W : World) (R : Array Value → Prop) (h : ∀ key : Int, InR .u64 key → ∀ t_0 : ByteArray, t_0.size ≤ 9223372036854775807 → ∀ t_1 : Int, InR .i64 t_1 → ∀ t_2 : Int, InR .i64 t_2 → ∀ t_3 : Int, InR .i64 t_3 → ∀ now : Int, InR .i64 now → ∀ until_v : Int, InR .i64 until_v → R #[(.int .u64 key), (.agg #[(.string t_0), (.int .i64 t_1), (.int .i64 t_2), (.int .i64 t_3)]), (.int .i64 now), (.int .i64 until_v)]) (args : Array Value) (hg : GoodAll Tryd.prog W Tryd.f8.params.toList args.toList) : R args := by
  have e_ : (ArgsAll Tryd.prog W Tryd.f8.params.toList fun l => R l.toArray) = (∀ key : Int, InR .u64 key → ∀ t_0 : ByteArray, t_0.size ≤ 9223372036854775807 → ∀ t_1 : Int, InR .i64 t_1 → ∀ t_2 : Int, InR .i64 t_2 → ∀ t_3 : Int, InR .i64 t_3 → ∀ now : Int, InR .i64 now → ∀ until_v : Int, InR .i64 until_v → R #[(.int .u64 key), (.agg #[(.string t_0), (.int .i64 t_1), (.int .i64 t_2), (.int .i64 t_3)]), (.int .i64 now), (.int .i64 until_v)]) := by kernel_rfl
  exact args_open (by rw [e_]; exact h) args hg
-- wit 8 #[(.int .u64 0), (.agg #[(.string (⟨#[]⟩ : ByteArray)), (.int .i64 0), (.int .i64 0), (.int .i64 0)]), (.int .i64 0), (.int .i64 0)]

end Go.Proofs.YtjeboeahhhhbdaaDoor
