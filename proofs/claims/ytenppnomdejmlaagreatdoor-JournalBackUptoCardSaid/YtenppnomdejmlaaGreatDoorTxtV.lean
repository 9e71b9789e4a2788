/- The texts of this seat's functions: what each computes, as its symbolic run says it. -/
import Derived.Test.YtenppnomdejmlaaGreatDoorRows
import Derived.Test.YtenppnomdejmlaaGreatDoorSxD
import Derived.Test.YtenppnomdejmlaaGreatDoorSxN
import Derived.Test.YtenppnomdejmlaaGreatDoorTxt
import Derived.Test.YtenppnomdejmlaaGreatDoorTxtD
import Derived.Test.YtenppnomdejmlaaGreatDoorTxtE
import Derived.Test.YtenppnomdejmlaaGreatDoorTxtJ
set_option linter.unusedVariables false
set_option linter.unusedSimpArgs false
set_option maxRecDepth 100000
namespace Go.Proofs.YtenppnomdejmlaaGreatDoor
open Go.Sx Go.RowKit

abbrev F_shiftbellkeep_EventBack : FuncId := 3
abbrev F_shiftbellkeep_JournalBack : FuncId := 4
abbrev F_shiftbellkeep_events : FuncId := 5
abbrev F_event_Decode : FuncId := 7
abbrev F_shiftbellkeep_sameEvent : FuncId := 8
abbrev F_shiftbellkeep_journals : FuncId := 11
abbrev F_shiftbellkeep_framed : FuncId := 12
abbrev F_journal_Cut : FuncId := 13
abbrev F_slices_EqualFunc_api_Event_api_Event_api_Event_api_Event : FuncId := 14

/-- shiftbell/event.Decode -/
def wp_event_Decode (b : Option Addr) (bl : Nat) (bc : Nat) (w : World) (Q : Value → World → Prop) : Prop :=
  ∀ b0 : Nat, w.heap.size ≤ b0 → ((3001 < (bl : Int)) →
   ∀ w1, Ext w w1 →
   Q (.tuple #[(.agg #[(.int .i64 0), (.string (⟨#[]⟩ : ByteArray)), (.int .i64 0), (.int .i64 0), (.int .i64 0), (.int .i64 0), (.int .i64 0), (.string (⟨#[]⟩ : ByteArray)), (.string (⟨#[]⟩ : ByteArray)), (.int .i64 0), (.slice none 0 0), (.slice none 0 0), (.int .i64 0), (.int .i64 0), (.bool false)]), (.int .i64 2)]) w1) ∧
  (((bl : Int) ≤ 3001) →
   (((bl : Int) = 0) →
    ∀ w1, Ext w w1 →
    Q (.tuple #[(.agg #[(.int .i64 0), (.string (⟨#[]⟩ : ByteArray)), (.int .i64 0), (.int .i64 0), (.int .i64 0), (.int .i64 0), (.int .i64 0), (.string (⟨#[]⟩ : ByteArray)), (.string (⟨#[]⟩ : ByteArray)), (.int .i64 0), (.slice none 0 0), (.slice none 0 0), (.int .i64 0), (.int .i64 0), (.bool false)]), (.int .i64 3)]) w1) ∧
   (((bl : Int) ≠ 0) →
    b ≠ none ∧
    (0 : Int) ≤ 0 ∧
    (0 : Int) < (bl : Int) ∧
    ∃ t1 : Int, cell w (pIdx b 0 1) 0 = some (.int .u8 t1) ∧
    InR .i64 t1 ∧
    ∀ b2 : Nat, w.heap.size ≤ b2 → (0 : Int) ≤ 1 ∧
    (1 : Int) ≤ (bl : Int) ∧
    ((bl : Int) : Int) ≤ (bc : Int) ∧
    (0 : Int) ≤ 0 ∧
    (0 : Int) ≤ (min 4 ((((bl : Int) - 1).toNat : Nat) : Int)) ∧
    ((min 4 ((((bl : Int) - 1).toNat : Nat) : Int)) : Int) ≤ (((bc - (1 : Int).toNat) : Nat) : Int) ∧
    ∃ (I3 : Int → Int → World → Prop) (M3 : Int → Int → World → Nat), I3 0 0 w ∧
    ∀ (n4 : Int) (k5 : Int) (w6 : World), I3 n4 k5 w6 →
     (((k5 < ((((min 4 ((((bl : Int) - 1).toNat : Nat) : Int)) - 0).toNat : Nat) : Int)) →
      (pCut (pCut b bc 1 1) (bc - (1 : Int).toNat) 0 1) ≠ none ∧
      (0 : Int) ≤ k5 ∧
      (k5 : Int) < ((((min 4 ((((bl : Int) - 1).toNat : Nat) : Int)) - 0).toNat : Nat) : Int) ∧
      ∃ t7 : Int, cell w6 (pIdx (pCut (pCut b bc 1 1) (bc - (1 : Int).toNat) 0 1) k5 1) 0 = some (.int .u8 t7) ∧
      InR .i64 t7 ∧
      InR .i64 (k5 + 1) ∧
      (I3 (iBit .or .i64 (iBit .shl .i64 n4 8) t7) (k5 + 1) w6 ∧ M3 (iBit .or .i64 (iBit .shl .i64 n4 8) t7) (k5 + 1) w6 < M3 n4 k5 w6))) ∧
     ((((((min 4 ((((bl : Int) - 1).toNat : Nat) : Int)) - 0).toNat : Nat) : Int) ≤ k5) →
      (((t1 = 1) →
       ∀ w7, Ext w6 w7 →
       Run Tryz.prog (.convert 32 9 (.slice (pCut b bc 1 1) ((bl : Int) - 1).toNat (bc - (1 : Int).toNat))) w7 fun v8 w8 =>
        Ext w7 w8 ∧
        ∃ t9 : ByteArray, v8 = (.string t9) ∧
        ∀ w10, ExtB [] [b0, b2] w6 w10 →
        FnP Tryz.prog F_job_Read #[(.string t9)] w10 fun v11 w11 =>
         Ext w10 w11 ∧
         ∃ t_012 : ByteArray, ∃ t_113 : Int, ∃ t_214 : Int, ∃ t_315 : Int, ∃ t_416 : Int, ∃ t_517 : Int, ∃ t_618 : ByteArray, ∃ t_719 : ByteArray, ∃ t_820 : Int, ∃ t_921 : Option Addr, ∃ t_9l22 : Nat, ∃ t_9c23 : Nat, ∃ t_1024 : Option Addr, ∃ t_10l25 : Nat, ∃ t_10c26 : Nat, ∃ t27 : Int, v11 = (.tuple #[(.agg #[(.string t_012), (.int .i64 t_113), (.int .i64 t_214), (.int .i64 t_315), (.int .i64 t_416), (.int .i64 t_517), (.string t_618), (.string t_719), (.int .i64 t_820), (.slice t_921 t_9l22 t_9c23), (.slice t_1024 t_10l25 t_10c26)]), (.int .i64 t27)]) ∧
         ∀ b28 : Nat, w11.heap.size ≤ b28 → ((t27 ≠ 0) →
          ∀ w29, ExtB [b0] [] w11 w29 →
          Q (.tuple #[(.agg #[(.int .i64 0), (.string (⟨#[]⟩ : ByteArray)), (.int .i64 0), (.int .i64 0), (.int .i64 0), (.int .i64 0), (.int .i64 0), (.string (⟨#[]⟩ : ByteArray)), (.string (⟨#[]⟩ : ByteArray)), (.int .i64 0), (.slice none 0 0), (.slice none 0 0), (.int .i64 0), (.int .i64 0), (.bool false)]), (.int .i64 3)]) w29) ∧
         ((t27 = 0) →
          ∀ w29, ExtB [b2] [b0, b2, b28] w11 w29 →
          FnP Tryz.prog F_event_Encode #[(.agg #[(.int .i64 t1), (.string t_012), (.int .i64 t_113), (.int .i64 t_214), (.int .i64 t_315), (.int .i64 t_416), (.int .i64 t_517), (.string t_618), (.string t_719), (.int .i64 t_820), (.slice t_921 t_9l22 t_9c23), (.slice t_1024 t_10l25 t_10c26), (.int .i64 0), (.int .i64 0), (.bool false)])] w29 fun v30 w30 =>
           Ext w29 w30 ∧
           ∃ t31 : Option Addr, ∃ tl32 : Nat, ∃ tc33 : Nat, ∃ t34 : Int, v30 = (.tuple #[(.slice t31 tl32 tc33), (.int .i64 t34)]) ∧
           ((t34 ≠ 0) →
            ∀ w35, ExtB [b0] [] w30 w35 →
            Q (.tuple #[(.agg #[(.int .i64 0), (.string (⟨#[]⟩ : ByteArray)), (.int .i64 0), (.int .i64 0), (.int .i64 0), (.int .i64 0), (.int .i64 0), (.string (⟨#[]⟩ : ByteArray)), (.string (⟨#[]⟩ : ByteArray)), (.int .i64 0), (.slice none 0 0), (.slice none 0 0), (.int .i64 0), (.int .i64 0), (.bool false)]), (.int .i64 3)]) w35) ∧
           ((t34 = 0) →
            ∀ w35, Ext w30 w35 →
            FnP Tryz.prog F_bytes_Equal #[(.slice t31 tl32 tc33), (.slice b bl bc)] w35 fun v36 w36 =>
             Ext w35 w36 ∧
             ∃ t37 : Bool, v36 = (.bool t37) ∧
             ((t37 = false) →
              ∀ w38, ExtB [b0] [] w30 w38 →
              Q (.tuple #[(.agg #[(.int .i64 0), (.string (⟨#[]⟩ : ByteArray)), (.int .i64 0), (.int .i64 0), (.int .i64 0), (.int .i64 0), (.int .i64 0), (.string (⟨#[]⟩ : ByteArray)), (.string (⟨#[]⟩ : ByteArray)), (.int .i64 0), (.slice none 0 0), (.slice none 0 0), (.int .i64 0), (.int .i64 0), (.bool false)]), (.int .i64 3)]) w38) ∧
             ((t37 = true) →
              ∀ w38, ExtB [b0] [] w30 w38 →
              Q (.tuple #[(.agg #[(.int .i64 t1), (.string t_012), (.int .i64 t_113), (.int .i64 t_214), (.int .i64 t_315), (.int .i64 t_416), (.int .i64 t_517), (.string t_618), (.string t_719), (.int .i64 t_820), (.slice t_921 t_9l22 t_9c23), (.slice t_1024 t_10l25 t_10c26), (.int .i64 0), (.int .i64 0), (.bool false)]), (.int .i64 0)]) w38))))) ∧
      ((t1 ≠ 1) →
       (((t1 = 2) →
        ∀ w7, ExtB [b2] [b0, b2] w6 w7 →
        FnP Tryz.prog F_event_Encode #[(.agg #[(.int .i64 t1), (.string (⟨#[]⟩ : ByteArray)), (.int .i64 0), (.int .i64 0), (.int .i64 0), (.int .i64 0), (.int .i64 0), (.string (⟨#[]⟩ : ByteArray)), (.string (⟨#[]⟩ : ByteArray)), (.int .i64 0), (.slice none 0 0), (.slice none 0 0), (.int .i64 n4), (.int .i64 0), (.bool false)])] w7 fun v8 w8 =>
         Ext w7 w8 ∧
         ∃ t9 : Option Addr, ∃ tl10 : Nat, ∃ tc11 : Nat, ∃ t12 : Int, v8 = (.tuple #[(.slice t9 tl10 tc11), (.int .i64 t12)]) ∧
         ((t12 ≠ 0) →
          ∀ w13, ExtB [b0] [] w8 w13 →
          Q (.tuple #[(.agg #[(.int .i64 0), (.string (⟨#[]⟩ : ByteArray)), (.int .i64 0), (.int .i64 0), (.int .i64 0), (.int .i64 0), (.int .i64 0), (.string (⟨#[]⟩ : ByteArray)), (.string (⟨#[]⟩ : ByteArray)), (.int .i64 0), (.slice none 0 0), (.slice none 0 0), (.int .i64 0), (.int .i64 0), (.bool false)]), (.int .i64 3)]) w13) ∧
         ((t12 = 0) →
          ∀ w13, Ext w8 w13 →
          FnP Tryz.prog F_bytes_Equal #[(.slice t9 tl10 tc11), (.slice b bl bc)] w13 fun v14 w14 =>
           Ext w13 w14 ∧
           ∃ t15 : Bool, v14 = (.bool t15) ∧
           ((t15 = false) →
            ∀ w16, ExtB [b0] [] w8 w16 →
            Q (.tuple #[(.agg #[(.int .i64 0), (.string (⟨#[]⟩ : ByteArray)), (.int .i64 0), (.int .i64 0), (.int .i64 0), (.int .i64 0), (.int .i64 0), (.string (⟨#[]⟩ : ByteArray)), (.string (⟨#[]⟩ : ByteArray)), (.int .i64 0), (.slice none 0 0), (.slice none 0 0), (.int .i64 0), (.int .i64 0), (.bool false)]), (.int .i64 3)]) w16) ∧
           ((t15 = true) →
            ∀ w16, ExtB [b0] [] w8 w16 →
            Q (.tuple #[(.agg #[(.int .i64 t1), (.string (⟨#[]⟩ : ByteArray)), (.int .i64 0), (.int .i64 0), (.int .i64 0), (.int .i64 0), (.int .i64 0), (.string (⟨#[]⟩ : ByteArray)), (.string (⟨#[]⟩ : ByteArray)), (.int .i64 0), (.slice none 0 0), (.slice none 0 0), (.int .i64 n4), (.int .i64 0), (.bool false)]), (.int .i64 0)]) w16)))) ∧
       ((t1 ≠ 2) →
        ((((t1 = 4) ∧ (((((bl : Int) - 1).toNat : Nat) : Int) = 3)) →
         ∀ w7, ExtB [b2] [b0, b2] w6 w7 →
         FnP Tryz.prog F_event_Encode #[(.agg #[(.int .i64 t1), (.string (⟨#[]⟩ : ByteArray)), (.int .i64 0), (.int .i64 0), (.int .i64 0), (.int .i64 0), (.int .i64 0), (.string (⟨#[]⟩ : ByteArray)), (.string (⟨#[]⟩ : ByteArray)), (.int .i64 0), (.slice none 0 0), (.slice none 0 0), (.int .i64 0), (.int .i64 (iBit .shr .i64 n4 8)), (.bool (decide ((iBit .and .i64 n4 255) = 1)))])] w7 fun v8 w8 =>
          Ext w7 w8 ∧
          ∃ t9 : Option Addr, ∃ tl10 : Nat, ∃ tc11 : Nat, ∃ t12 : Int, v8 = (.tuple #[(.slice t9 tl10 tc11), (.int .i64 t12)]) ∧
          ((t12 ≠ 0) →
           ∀ w13, ExtB [b0] [] w8 w13 →
           Q (.tuple #[(.agg #[(.int .i64 0), (.string (⟨#[]⟩ : ByteArray)), (.int .i64 0), (.int .i64 0), (.int .i64 0), (.int .i64 0), (.int .i64 0), (.string (⟨#[]⟩ : ByteArray)), (.string (⟨#[]⟩ : ByteArray)), (.int .i64 0), (.slice none 0 0), (.slice none 0 0), (.int .i64 0), (.int .i64 0), (.bool false)]), (.int .i64 3)]) w13) ∧
          ((t12 = 0) →
           ∀ w13, Ext w8 w13 →
           FnP Tryz.prog F_bytes_Equal #[(.slice t9 tl10 tc11), (.slice b bl bc)] w13 fun v14 w14 =>
            Ext w13 w14 ∧
            ∃ t15 : Bool, v14 = (.bool t15) ∧
            ((t15 = false) →
             ∀ w16, ExtB [b0] [] w8 w16 →
             Q (.tuple #[(.agg #[(.int .i64 0), (.string (⟨#[]⟩ : ByteArray)), (.int .i64 0), (.int .i64 0), (.int .i64 0), (.int .i64 0), (.int .i64 0), (.string (⟨#[]⟩ : ByteArray)), (.string (⟨#[]⟩ : ByteArray)), (.int .i64 0), (.slice none 0 0), (.slice none 0 0), (.int .i64 0), (.int .i64 0), (.bool false)]), (.int .i64 3)]) w16) ∧
            ((t15 = true) →
             ∀ w16, ExtB [b0] [] w8 w16 →
             Q (.tuple #[(.agg #[(.int .i64 t1), (.string (⟨#[]⟩ : ByteArray)), (.int .i64 0), (.int .i64 0), (.int .i64 0), (.int .i64 0), (.int .i64 0), (.string (⟨#[]⟩ : ByteArray)), (.string (⟨#[]⟩ : ByteArray)), (.int .i64 0), (.slice none 0 0), (.slice none 0 0), (.int .i64 0), (.int .i64 (iBit .shr .i64 n4 8)), (.bool (decide ((iBit .and .i64 n4 255) = 1)))]), (.int .i64 0)]) w16)))) ∧
        (((t1 ≠ 4) ∨ (((((bl : Int) - 1).toNat : Nat) : Int) ≠ 3)) →
         (((t1 = 5) →
          ∀ w7, ExtB [b2] [b0, b2] w6 w7 →
          FnP Tryz.prog F_event_Encode #[(.agg #[(.int .i64 t1), (.string (⟨#[]⟩ : ByteArray)), (.int .i64 0), (.int .i64 0), (.int .i64 0), (.int .i64 0), (.int .i64 0), (.string (⟨#[]⟩ : ByteArray)), (.string (⟨#[]⟩ : ByteArray)), (.int .i64 0), (.slice none 0 0), (.slice none 0 0), (.int .i64 0), (.int .i64 n4), (.bool false)])] w7 fun v8 w8 =>
           Ext w7 w8 ∧
           ∃ t9 : Option Addr, ∃ tl10 : Nat, ∃ tc11 : Nat, ∃ t12 : Int, v8 = (.tuple #[(.slice t9 tl10 tc11), (.int .i64 t12)]) ∧
           ((t12 ≠ 0) →
            ∀ w13, ExtB [b0] [] w8 w13 →
            Q (.tuple #[(.agg #[(.int .i64 0), (.string (⟨#[]⟩ : ByteArray)), (.int .i64 0), (.int .i64 0), (.int .i64 0), (.int .i64 0), (.int .i64 0), (.string (⟨#[]⟩ : ByteArray)), (.string (⟨#[]⟩ : ByteArray)), (.int .i64 0), (.slice none 0 0), (.slice none 0 0), (.int .i64 0), (.int .i64 0), (.bool false)]), (.int .i64 3)]) w13) ∧
           ((t12 = 0) →
            ∀ w13, Ext w8 w13 →
            FnP Tryz.prog F_bytes_Equal #[(.slice t9 tl10 tc11), (.slice b bl bc)] w13 fun v14 w14 =>
             Ext w13 w14 ∧
             ∃ t15 : Bool, v14 = (.bool t15) ∧
             ((t15 = false) →
              ∀ w16, ExtB [b0] [] w8 w16 →
              Q (.tuple #[(.agg #[(.int .i64 0), (.string (⟨#[]⟩ : ByteArray)), (.int .i64 0), (.int .i64 0), (.int .i64 0), (.int .i64 0), (.int .i64 0), (.string (⟨#[]⟩ : ByteArray)), (.string (⟨#[]⟩ : ByteArray)), (.int .i64 0), (.slice none 0 0), (.slice none 0 0), (.int .i64 0), (.int .i64 0), (.bool false)]), (.int .i64 3)]) w16) ∧
             ((t15 = true) →
              ∀ w16, ExtB [b0] [] w8 w16 →
              Q (.tuple #[(.agg #[(.int .i64 t1), (.string (⟨#[]⟩ : ByteArray)), (.int .i64 0), (.int .i64 0), (.int .i64 0), (.int .i64 0), (.int .i64 0), (.string (⟨#[]⟩ : ByteArray)), (.string (⟨#[]⟩ : ByteArray)), (.int .i64 0), (.slice none 0 0), (.slice none 0 0), (.int .i64 0), (.int .i64 n4), (.bool false)]), (.int .i64 0)]) w16)))) ∧
         ((t1 ≠ 5) →
          ∀ w7, ExtB [] [b0, b2] w6 w7 →
          FnP Tryz.prog F_event_Encode #[(.agg #[(.int .i64 t1), (.string (⟨#[]⟩ : ByteArray)), (.int .i64 0), (.int .i64 0), (.int .i64 0), (.int .i64 0), (.int .i64 0), (.string (⟨#[]⟩ : ByteArray)), (.string (⟨#[]⟩ : ByteArray)), (.int .i64 0), (.slice none 0 0), (.slice none 0 0), (.int .i64 0), (.int .i64 0), (.bool false)])] w7 fun v8 w8 =>
           Ext w7 w8 ∧
           ∃ t9 : Option Addr, ∃ tl10 : Nat, ∃ tc11 : Nat, ∃ t12 : Int, v8 = (.tuple #[(.slice t9 tl10 tc11), (.int .i64 t12)]) ∧
           ((t12 ≠ 0) →
            ∀ w13, ExtB [b0] [] w8 w13 →
            Q (.tuple #[(.agg #[(.int .i64 0), (.string (⟨#[]⟩ : ByteArray)), (.int .i64 0), (.int .i64 0), (.int .i64 0), (.int .i64 0), (.int .i64 0), (.string (⟨#[]⟩ : ByteArray)), (.string (⟨#[]⟩ : ByteArray)), (.int .i64 0), (.slice none 0 0), (.slice none 0 0), (.int .i64 0), (.int .i64 0), (.bool false)]), (.int .i64 3)]) w13) ∧
           ((t12 = 0) →
            ∀ w13, Ext w8 w13 →
            FnP Tryz.prog F_bytes_Equal #[(.slice t9 tl10 tc11), (.slice b bl bc)] w13 fun v14 w14 =>
             Ext w13 w14 ∧
             ∃ t15 : Bool, v14 = (.bool t15) ∧
             ((t15 = false) →
              ∀ w16, ExtB [b0] [] w8 w16 →
              Q (.tuple #[(.agg #[(.int .i64 0), (.string (⟨#[]⟩ : ByteArray)), (.int .i64 0), (.int .i64 0), (.int .i64 0), (.int .i64 0), (.int .i64 0), (.string (⟨#[]⟩ : ByteArray)), (.string (⟨#[]⟩ : ByteArray)), (.int .i64 0), (.slice none 0 0), (.slice none 0 0), (.int .i64 0), (.int .i64 0), (.bool false)]), (.int .i64 3)]) w16) ∧
             ((t15 = true) →
              ∀ w16, ExtB [b0] [] w8 w16 →
              Q (.tuple #[(.agg #[(.int .i64 t1), (.string (⟨#[]⟩ : ByteArray)), (.int .i64 0), (.int .i64 0), (.int .i64 0), (.int .i64 0), (.int .i64 0), (.string (⟨#[]⟩ : ByteArray)), (.string (⟨#[]⟩ : ByteArray)), (.int .i64 0), (.slice none 0 0), (.slice none 0 0), (.int .i64 0), (.int .i64 0), (.bool false)]), (.int .i64 0)]) w16)))))))))

theorem ok_event_Decode (b : Option Addr) (bl : Nat) (bc : Nat) (w : World) (Q : Value → World → Prop) (h : wp_event_Decode b bl bc w Q) : FnP Tryz.prog F_event_Decode #[(.slice b bl bc)] w Q := by
  have e_ : wp_event_Decode b bl bc w Q = Runs Tryz.prog Q ({ N := 104, wrap := [], pub := [], muts := [], joins := [] } : Cfg) Tryz.f7 (Tryz.f7.body.getD .skip) [.sc (.slc b bl bc)] w := by kernel_rfl
  rw [e_] at h
  exact runs_fn h Tryz.func7 (by kernel_rfl) (fun args w => Tryz.call7 args w) (by kernel_rfl) (by kernel_rfl) rfl rfl

/-- shiftbell/shiftbellkeep.sameEvent -/
def wp_shiftbellkeep_sameEvent (a_0 : Int) (a_1 : ByteArray) (a_2 : Int) (a_3 : Int) (a_4 : Int) (a_5 : Int) (a_6 : Int) (a_7 : ByteArray) (a_8 : ByteArray) (a_9 : Int) (a_10 : Option Addr) (a_10l : Nat) (a_10c : Nat) (a_11 : Option Addr) (a_11l : Nat) (a_11c : Nat) (a_12 : Int) (a_13 : Int) (a_14 : Bool) (b_0 : Int) (b_1 : ByteArray) (b_2 : Int) (b_3 : Int) (b_4 : Int) (b_5 : Int) (b_6 : Int) (b_7 : ByteArray) (b_8 : ByteArray) (b_9 : Int) (b_10 : Option Addr) (b_10l : Nat) (b_10c : Nat) (b_11 : Option Addr) (b_11l : Nat) (b_11c : Nat) (b_12 : Int) (b_13 : Int) (b_14 : Bool) (w : World) (Q : Value → World → Prop) : Prop :=
  ∀ b0 : Nat, w.heap.size ≤ b0 → ∀ b1 : Nat, w.heap.size ≤ b1 → ((((((a_0 = b_0) ∧ (a_12 = b_12)) ∧ (a_13 = b_13)) ∧ (((a_14 = true) ∧ (b_14 = true)) ∨ ((a_14 = false) ∧ (b_14 = false)))) →
   ∀ w2, Ext w w2 →
   FnP Tryz.prog F_shiftbellkeep_sameJob #[(.agg #[(.string a_1), (.int .i64 a_2), (.int .i64 a_3), (.int .i64 a_4), (.int .i64 a_5), (.int .i64 a_6), (.string a_7), (.string a_8), (.int .i64 a_9), (.slice a_10 a_10l a_10c), (.slice a_11 a_11l a_11c)]), (.agg #[(.string b_1), (.int .i64 b_2), (.int .i64 b_3), (.int .i64 b_4), (.int .i64 b_5), (.int .i64 b_6), (.string b_7), (.string b_8), (.int .i64 b_9), (.slice b_10 b_10l b_10c), (.slice b_11 b_11l b_11c)])] w2 fun v3 w3 =>
    Ext w2 w3 ∧
    ∃ t4 : Bool, v3 = (.bool t4) ∧
    ∀ w5, Ext w w5 →
    Q (.bool t4) w5)) ∧
  (((((a_0 ≠ b_0) ∨ (a_12 ≠ b_12)) ∨ (a_13 ≠ b_13)) ∨ (((a_14 = false) ∨ (b_14 = false)) ∧ ((a_14 = true) ∨ (b_14 = true)))) →
   ∀ w2, Ext w w2 →
   Q (.bool false) w2)

theorem ok_shiftbellkeep_sameEvent (a_0 : Int) (a_1 : ByteArray) (a_2 : Int) (a_3 : Int) (a_4 : Int) (a_5 : Int) (a_6 : Int) (a_7 : ByteArray) (a_8 : ByteArray) (a_9 : Int) (a_10 : Option Addr) (a_10l : Nat) (a_10c : Nat) (a_11 : Option Addr) (a_11l : Nat) (a_11c : Nat) (a_12 : Int) (a_13 : Int) (a_14 : Bool) (b_0 : Int) (b_1 : ByteArray) (b_2 : Int) (b_3 : Int) (b_4 : Int) (b_5 : Int) (b_6 : Int) (b_7 : ByteArray) (b_8 : ByteArray) (b_9 : Int) (b_10 : Option Addr) (b_10l : Nat) (b_10c : Nat) (b_11 : Option Addr) (b_11l : Nat) (b_11c : Nat) (b_12 : Int) (b_13 : Int) (b_14 : Bool) (w : World) (Q : Value → World → Prop) (h : wp_shiftbellkeep_sameEvent a_0 a_1 a_2 a_3 a_4 a_5 a_6 a_7 a_8 a_9 a_10 a_10l a_10c a_11 a_11l a_11c a_12 a_13 a_14 b_0 b_1 b_2 b_3 b_4 b_5 b_6 b_7 b_8 b_9 b_10 b_10l b_10c b_11 b_11l b_11c b_12 b_13 b_14 w Q) : FnP Tryz.prog F_shiftbellkeep_sameEvent #[(.agg #[(.int .i64 a_0), (.string a_1), (.int .i64 a_2), (.int .i64 a_3), (.int .i64 a_4), (.int .i64 a_5), (.int .i64 a_6), (.string a_7), (.string a_8), (.int .i64 a_9), (.slice a_10 a_10l a_10c), (.slice a_11 a_11l a_11c), (.int .i64 a_12), (.int .i64 a_13), (.bool a_14)]), (.agg #[(.int .i64 b_0), (.string b_1), (.int .i64 b_2), (.int .i64 b_3), (.int .i64 b_4), (.int .i64 b_5), (.int .i64 b_6), (.string b_7), (.string b_8), (.int .i64 b_9), (.slice b_10 b_10l b_10c), (.slice b_11 b_11l b_11c), (.int .i64 b_12), (.int .i64 b_13), (.bool b_14)])] w Q := by
  have e_ : wp_shiftbellkeep_sameEvent a_0 a_1 a_2 a_3 a_4 a_5 a_6 a_7 a_8 a_9 a_10 a_10l a_10c a_11 a_11l a_11c a_12 a_13 a_14 b_0 b_1 b_2 b_3 b_4 b_5 b_6 b_7 b_8 b_9 b_10 b_10l b_10c b_11 b_11l b_11c b_12 b_13 b_14 w Q = Runs Tryz.prog Q ({ N := 38, wrap := [], pub := [], muts := [], joins := [] } : Cfg) Tryz.f8 (Tryz.f8.body.getD .skip) [.agg [.int .i64 a_0, .str a_1, .int .i64 a_2, .int .i64 a_3, .int .i64 a_4, .int .i64 a_5, .int .i64 a_6, .str a_7, .str a_8, .int .i64 a_9, .slc a_10 a_10l a_10c, .slc a_11 a_11l a_11c, .int .i64 a_12, .int .i64 a_13, .bool (.atom true a_14)], .agg [.int .i64 b_0, .str b_1, .int .i64 b_2, .int .i64 b_3, .int .i64 b_4, .int .i64 b_5, .int .i64 b_6, .str b_7, .str b_8, .int .i64 b_9, .slc b_10 b_10l b_10c, .slc b_11 b_11l b_11c, .int .i64 b_12, .int .i64 b_13, .bool (.atom true b_14)]] w := by kernel_rfl
  rw [e_] at h
  exact runs_fn h Tryz.func8 (by kernel_rfl) (fun args w => Tryz.call8 args w) (by kernel_rfl) (by kernel_rfl) rfl rfl

/-- shiftbell/shiftbellkeep.events -/
def wp_shiftbellkeep_events  (w : World) (Q : Value → World → Prop) : Prop :=
  ∀ w0, Ext w w0 →
  FnP Tryz.prog F_event_Encode #[(.agg #[(.int .i64 3), (.string (⟨#[]⟩ : ByteArray)), (.int .i64 0), (.int .i64 0), (.int .i64 0), (.int .i64 0), (.int .i64 0), (.string (⟨#[]⟩ : ByteArray)), (.string (⟨#[]⟩ : ByteArray)), (.int .i64 0), (.slice none 0 0), (.slice none 0 0), (.int .i64 0), (.int .i64 0), (.bool false)])] w0 fun v1 w1 =>
   Ext w0 w1 ∧
   ∃ t2 : Option Addr, ∃ tl3 : Nat, ∃ tc4 : Nat, ∃ t5 : Int, v1 = (.tuple #[(.slice t2 tl3 tc4), (.int .i64 t5)]) ∧
   ∀ w6, Ext w1 w6 →
   Q (.bool ((decide (t5 = 0)) && (decide ((tl3 : Int) = 1)))) w6

theorem ok_shiftbellkeep_events  (w : World) (Q : Value → World → Prop) (h : wp_shiftbellkeep_events  w Q) : FnP Tryz.prog F_shiftbellkeep_events #[] w Q := by
  have e_ : wp_shiftbellkeep_events  w Q = Runs Tryz.prog Q ({ N := 15, wrap := [], pub := [], muts := [], joins := [] } : Cfg) Tryz.f5 (Tryz.f5.body.getD .skip) [] w := by kernel_rfl
  rw [e_] at h
  exact runs_fn h Tryz.func5 (by kernel_rfl) (fun args w => Tryz.call5 args w) (by kernel_rfl) (by kernel_rfl) rfl rfl

/-- shiftbell/shiftbellkeep.EventBack -/
def wp_shiftbellkeep_EventBack (x_0 : Int) (x_1 : ByteArray) (x_2 : Int) (x_3 : Int) (x_4 : Int) (x_5 : Int) (x_6 : Int) (x_7 : ByteArray) (x_8 : ByteArray) (x_9 : Int) (x_10 : Option Addr) (x_10l : Nat) (x_10c : Nat) (x_11 : Option Addr) (x_11l : Nat) (x_11c : Nat) (x_12 : Int) (x_13 : Int) (x_14 : Bool) (b : Option Addr) (bl : Nat) (bc : Nat) (w : World) (Q : Value → World → Prop) : Prop :=
  ∀ b0 : Nat, w.heap.size ≤ b0 → ∀ w1, Ext w w1 →
  FnP Tryz.prog F_shiftbellkeep_events #[] w1 fun v2 w2 =>
   Ext w1 w2 ∧
   ∃ t3 : Bool, v2 = (.bool t3) ∧
   ((t3 = false) →
    ∀ w4, Ext w w4 →
    Q (.bool false) w4) ∧
   ((t3 = true) →
    ∀ w4, ExtB [] [b0] w w4 →
    FnP Tryz.prog F_event_Encode #[(.agg #[(.int .i64 x_0), (.string x_1), (.int .i64 x_2), (.int .i64 x_3), (.int .i64 x_4), (.int .i64 x_5), (.int .i64 x_6), (.string x_7), (.string x_8), (.int .i64 x_9), (.slice x_10 x_10l x_10c), (.slice x_11 x_11l x_11c), (.int .i64 x_12), (.int .i64 x_13), (.bool x_14)])] w4 fun v5 w5 =>
     Ext w4 w5 ∧
     ∃ t6 : Option Addr, ∃ tl7 : Nat, ∃ tc8 : Nat, ∃ t9 : Int, v5 = (.tuple #[(.slice t6 tl7 tc8), (.int .i64 t9)]) ∧
     ((((t9 = 0) ∧ ((tl7 : Int) < 2000)) →
      ∀ w10, ExtB [] [b0] w5 w10 →
      FnP Tryz.prog F_event_Decode #[(.slice t6 tl7 tc8)] w10 fun v11 w11 =>
       Ext w10 w11 ∧
       ∃ t_012 : Int, ∃ t_113 : ByteArray, ∃ t_214 : Int, ∃ t_315 : Int, ∃ t_416 : Int, ∃ t_517 : Int, ∃ t_618 : Int, ∃ t_719 : ByteArray, ∃ t_820 : ByteArray, ∃ t_921 : Int, ∃ t_1022 : Option Addr, ∃ t_10l23 : Nat, ∃ t_10c24 : Nat, ∃ t_1125 : Option Addr, ∃ t_11l26 : Nat, ∃ t_11c27 : Nat, ∃ t_1228 : Int, ∃ t_1329 : Int, ∃ t_1430 : Bool, ∃ t31 : Int, v11 = (.tuple #[(.agg #[(.int .i64 t_012), (.string t_113), (.int .i64 t_214), (.int .i64 t_315), (.int .i64 t_416), (.int .i64 t_517), (.int .i64 t_618), (.string t_719), (.string t_820), (.int .i64 t_921), (.slice t_1022 t_10l23 t_10c24), (.slice t_1125 t_11l26 t_11c27), (.int .i64 t_1228), (.int .i64 t_1329), (.bool t_1430)]), (.int .i64 t31)]) ∧
       ∀ b32 : Nat, w11.heap.size ≤ b32 → ((t31 ≠ 0) →
        ∀ w33, Ext w11 w33 →
        Q (.bool false) w33) ∧
       ((t31 = 0) →
        ∀ w33, Ext w11 w33 →
        FnP Tryz.prog F_shiftbellkeep_sameEvent #[(.agg #[(.int .i64 x_0), (.string x_1), (.int .i64 x_2), (.int .i64 x_3), (.int .i64 x_4), (.int .i64 x_5), (.int .i64 x_6), (.string x_7), (.string x_8), (.int .i64 x_9), (.slice x_10 x_10l x_10c), (.slice x_11 x_11l x_11c), (.int .i64 x_12), (.int .i64 x_13), (.bool x_14)]), (.agg #[(.int .i64 t_012), (.string t_113), (.int .i64 t_214), (.int .i64 t_315), (.int .i64 t_416), (.int .i64 t_517), (.int .i64 t_618), (.string t_719), (.string t_820), (.int .i64 t_921), (.slice t_1022 t_10l23 t_10c24), (.slice t_1125 t_11l26 t_11c27), (.int .i64 t_1228), (.int .i64 t_1329), (.bool t_1430)])] w33 fun v34 w34 =>
         Ext w33 w34 ∧
         ∃ t35 : Bool, v34 = (.bool t35) ∧
         ((t35 = false) →
          ∀ w36, Ext w11 w36 →
          Q (.bool false) w36) ∧
         ((t35 = true) →
          ∀ w36, ExtB [] [b0, b32] w11 w36 →
          FnP Tryz.prog F_event_Decode #[(.slice b bl bc)] w36 fun v37 w37 =>
           Ext w36 w37 ∧
           ∃ t_038 : Int, ∃ t_139 : ByteArray, ∃ t_240 : Int, ∃ t_341 : Int, ∃ t_442 : Int, ∃ t_543 : Int, ∃ t_644 : Int, ∃ t_745 : ByteArray, ∃ t_846 : ByteArray, ∃ t_947 : Int, ∃ t_1048 : Option Addr, ∃ t_10l49 : Nat, ∃ t_10c50 : Nat, ∃ t_1151 : Option Addr, ∃ t_11l52 : Nat, ∃ t_11c53 : Nat, ∃ t_1254 : Int, ∃ t_1355 : Int, ∃ t_1456 : Bool, ∃ t57 : Int, v37 = (.tuple #[(.agg #[(.int .i64 t_038), (.string t_139), (.int .i64 t_240), (.int .i64 t_341), (.int .i64 t_442), (.int .i64 t_543), (.int .i64 t_644), (.string t_745), (.string t_846), (.int .i64 t_947), (.slice t_1048 t_10l49 t_10c50), (.slice t_1151 t_11l52 t_11c53), (.int .i64 t_1254), (.int .i64 t_1355), (.bool t_1456)]), (.int .i64 t57)]) ∧
           ∀ b58 : Nat, w37.heap.size ≤ b58 → (((t57 ≠ 0) →
            ∀ w59, Ext w37 w59 →
            FnP Tryz.prog F_shiftbellkeep_sameEvent #[(.agg #[(.int .i64 t_038), (.string t_139), (.int .i64 t_240), (.int .i64 t_341), (.int .i64 t_442), (.int .i64 t_543), (.int .i64 t_644), (.string t_745), (.string t_846), (.int .i64 t_947), (.slice t_1048 t_10l49 t_10c50), (.slice t_1151 t_11l52 t_11c53), (.int .i64 t_1254), (.int .i64 t_1355), (.bool t_1456)]), (.agg #[(.int .i64 0), (.string (⟨#[]⟩ : ByteArray)), (.int .i64 0), (.int .i64 0), (.int .i64 0), (.int .i64 0), (.int .i64 0), (.string (⟨#[]⟩ : ByteArray)), (.string (⟨#[]⟩ : ByteArray)), (.int .i64 0), (.slice none 0 0), (.slice none 0 0), (.int .i64 0), (.int .i64 0), (.bool false)])] w59 fun v60 w60 =>
             Ext w59 w60 ∧
             ∃ t61 : Bool, v60 = (.bool t61) ∧
             ∀ w62, Ext w37 w62 →
             Q (.bool (t61 && ((decide (t9 = 0)) || (decide ((tl7 : Int) = 0))))) w62)) ∧
           ((t57 = 0) →
            ∀ w59, ExtB [] [b0, b32, b58] w37 w59 →
            FnP Tryz.prog F_event_Encode #[(.agg #[(.int .i64 t_038), (.string t_139), (.int .i64 t_240), (.int .i64 t_341), (.int .i64 t_442), (.int .i64 t_543), (.int .i64 t_644), (.string t_745), (.string t_846), (.int .i64 t_947), (.slice t_1048 t_10l49 t_10c50), (.slice t_1151 t_11l52 t_11c53), (.int .i64 t_1254), (.int .i64 t_1355), (.bool t_1456)])] w59 fun v60 w60 =>
             Ext w59 w60 ∧
             ∃ t61 : Option Addr, ∃ tl62 : Nat, ∃ tc63 : Nat, ∃ t64 : Int, v60 = (.tuple #[(.slice t61 tl62 tc63), (.int .i64 t64)]) ∧
             (((t64 = 0) →
              ∀ w65, Ext w60 w65 →
              FnP Tryz.prog F_bytes_Equal #[(.slice t61 tl62 tc63), (.slice b bl bc)] w65 fun v66 w66 =>
               Ext w65 w66 ∧
               ∃ t67 : Bool, v66 = (.bool t67) ∧
               (((t67 = true) →
                ∀ w68, Ext w60 w68 →
                FnP Tryz.prog F_event_Check #[(.agg #[(.int .i64 t_038), (.string t_139), (.int .i64 t_240), (.int .i64 t_341), (.int .i64 t_442), (.int .i64 t_543), (.int .i64 t_644), (.string t_745), (.string t_846), (.int .i64 t_947), (.slice t_1048 t_10l49 t_10c50), (.slice t_1151 t_11l52 t_11c53), (.int .i64 t_1254), (.int .i64 t_1355), (.bool t_1456)])] w68 fun v69 w69 =>
                 Ext w68 w69 ∧
                 ∃ t70 : Int, v69 = (.int .i64 t70) ∧
                 ∀ w71, Ext w60 w71 →
                 Q (.bool (decide (t70 = 0))) w71)) ∧
               ((t67 = false) →
                ∀ w68, Ext w60 w68 →
                Q (.bool false) w68))) ∧
             ((t64 ≠ 0) →
              ∀ w65, Ext w60 w65 →
              Q (.bool false) w65)))))) ∧
     (((t9 ≠ 0) ∨ (2000 ≤ (tl7 : Int))) →
      ∀ w10, ExtB [] [b0] w5 w10 →
      FnP Tryz.prog F_event_Decode #[(.slice b bl bc)] w10 fun v11 w11 =>
       Ext w10 w11 ∧
       ∃ t_012 : Int, ∃ t_113 : ByteArray, ∃ t_214 : Int, ∃ t_315 : Int, ∃ t_416 : Int, ∃ t_517 : Int, ∃ t_618 : Int, ∃ t_719 : ByteArray, ∃ t_820 : ByteArray, ∃ t_921 : Int, ∃ t_1022 : Option Addr, ∃ t_10l23 : Nat, ∃ t_10c24 : Nat, ∃ t_1125 : Option Addr, ∃ t_11l26 : Nat, ∃ t_11c27 : Nat, ∃ t_1228 : Int, ∃ t_1329 : Int, ∃ t_1430 : Bool, ∃ t31 : Int, v11 = (.tuple #[(.agg #[(.int .i64 t_012), (.string t_113), (.int .i64 t_214), (.int .i64 t_315), (.int .i64 t_416), (.int .i64 t_517), (.int .i64 t_618), (.string t_719), (.string t_820), (.int .i64 t_921), (.slice t_1022 t_10l23 t_10c24), (.slice t_1125 t_11l26 t_11c27), (.int .i64 t_1228), (.int .i64 t_1329), (.bool t_1430)]), (.int .i64 t31)]) ∧
       ∀ b32 : Nat, w11.heap.size ≤ b32 → (((t31 ≠ 0) →
        ∀ w33, Ext w11 w33 →
        FnP Tryz.prog F_shiftbellkeep_sameEvent #[(.agg #[(.int .i64 t_012), (.string t_113), (.int .i64 t_214), (.int .i64 t_315), (.int .i64 t_416), (.int .i64 t_517), (.int .i64 t_618), (.string t_719), (.string t_820), (.int .i64 t_921), (.slice t_1022 t_10l23 t_10c24), (.slice t_1125 t_11l26 t_11c27), (.int .i64 t_1228), (.int .i64 t_1329), (.bool t_1430)]), (.agg #[(.int .i64 0), (.string (⟨#[]⟩ : ByteArray)), (.int .i64 0), (.int .i64 0), (.int .i64 0), (.int .i64 0), (.int .i64 0), (.string (⟨#[]⟩ : ByteArray)), (.string (⟨#[]⟩ : ByteArray)), (.int .i64 0), (.slice none 0 0), (.slice none 0 0), (.int .i64 0), (.int .i64 0), (.bool false)])] w33 fun v34 w34 =>
         Ext w33 w34 ∧
         ∃ t35 : Bool, v34 = (.bool t35) ∧
         ∀ w36, Ext w11 w36 →
         Q (.bool (t35 && ((decide (t9 = 0)) || (decide ((tl7 : Int) = 0))))) w36)) ∧
       ((t31 = 0) →
        ∀ w33, ExtB [] [b0, b32] w11 w33 →
        FnP Tryz.prog F_event_Encode #[(.agg #[(.int .i64 t_012), (.string t_113), (.int .i64 t_214), (.int .i64 t_315), (.int .i64 t_416), (.int .i64 t_517), (.int .i64 t_618), (.string t_719), (.string t_820), (.int .i64 t_921), (.slice t_1022 t_10l23 t_10c24), (.slice t_1125 t_11l26 t_11c27), (.int .i64 t_1228), (.int .i64 t_1329), (.bool t_1430)])] w33 fun v34 w34 =>
         Ext w33 w34 ∧
         ∃ t35 : Option Addr, ∃ tl36 : Nat, ∃ tc37 : Nat, ∃ t38 : Int, v34 = (.tuple #[(.slice t35 tl36 tc37), (.int .i64 t38)]) ∧
         (((t38 = 0) →
          ∀ w39, Ext w34 w39 →
          FnP Tryz.prog F_bytes_Equal #[(.slice t35 tl36 tc37), (.slice b bl bc)] w39 fun v40 w40 =>
           Ext w39 w40 ∧
           ∃ t41 : Bool, v40 = (.bool t41) ∧
           (((t41 = true) →
            ∀ w42, Ext w34 w42 →
            FnP Tryz.prog F_event_Check #[(.agg #[(.int .i64 t_012), (.string t_113), (.int .i64 t_214), (.int .i64 t_315), (.int .i64 t_416), (.int .i64 t_517), (.int .i64 t_618), (.string t_719), (.string t_820), (.int .i64 t_921), (.slice t_1022 t_10l23 t_10c24), (.slice t_1125 t_11l26 t_11c27), (.int .i64 t_1228), (.int .i64 t_1329), (.bool t_1430)])] w42 fun v43 w43 =>
             Ext w42 w43 ∧
             ∃ t44 : Int, v43 = (.int .i64 t44) ∧
             ∀ w45, Ext w34 w45 →
             Q (.bool (decide (t44 = 0))) w45)) ∧
           ((t41 = false) →
            ∀ w42, Ext w34 w42 →
            Q (.bool false) w42))) ∧
         ((t38 ≠ 0) →
          ∀ w39, Ext w34 w39 →
          Q (.bool false) w39))))

theorem ok_shiftbellkeep_EventBack (x_0 : Int) (x_1 : ByteArray) (x_2 : Int) (x_3 : Int) (x_4 : Int) (x_5 : Int) (x_6 : Int) (x_7 : ByteArray) (x_8 : ByteArray) (x_9 : Int) (x_10 : Option Addr) (x_10l : Nat) (x_10c : Nat) (x_11 : Option Addr) (x_11l : Nat) (x_11c : Nat) (x_12 : Int) (x_13 : Int) (x_14 : Bool) (b : Option Addr) (bl : Nat) (bc : Nat) (w : World) (Q : Value → World → Prop) (h : wp_shiftbellkeep_EventBack x_0 x_1 x_2 x_3 x_4 x_5 x_6 x_7 x_8 x_9 x_10 x_10l x_10c x_11 x_11l x_11c x_12 x_13 x_14 b bl bc w Q) : FnP Tryz.prog F_shiftbellkeep_EventBack #[(.agg #[(.int .i64 x_0), (.string x_1), (.int .i64 x_2), (.int .i64 x_3), (.int .i64 x_4), (.int .i64 x_5), (.int .i64 x_6), (.string x_7), (.string x_8), (.int .i64 x_9), (.slice x_10 x_10l x_10c), (.slice x_11 x_11l x_11c), (.int .i64 x_12), (.int .i64 x_13), (.bool x_14)]), (.slice b bl bc)] w Q := by
  have e_ : wp_shiftbellkeep_EventBack x_0 x_1 x_2 x_3 x_4 x_5 x_6 x_7 x_8 x_9 x_10 x_10l x_10c x_11 x_11l x_11c x_12 x_13 x_14 b bl bc w Q = Runs Tryz.prog Q ({ N := 76, wrap := [], pub := [], muts := [], joins := [] } : Cfg) Tryz.f3 (Tryz.f3.body.getD .skip) [.agg [.int .i64 x_0, .str x_1, .int .i64 x_2, .int .i64 x_3, .int .i64 x_4, .int .i64 x_5, .int .i64 x_6, .str x_7, .str x_8, .int .i64 x_9, .slc x_10 x_10l x_10c, .slc x_11 x_11l x_11c, .int .i64 x_12, .int .i64 x_13, .bool (.atom true x_14)], .sc (.slc b bl bc)] w := by kernel_rfl
  rw [e_] at h
  exact runs_fn h Tryz.func3 (by kernel_rfl) (fun args w => Tryz.call3 args w) (by kernel_rfl) (by kernel_rfl) rfl rfl

theorem open_shiftbellkeep_EventBack (W : World) (R : Array Value → Prop) (h : ∀ x_0 : Int, InR .i64 x_0 → ∀ x_1 : ByteArray, x_1.size ≤ 9223372036854775807 → ∀ x_2 : Int, InR .i64 x_2 → ∀ x_3 : Int, InR .i64 x_3 → ∀ x_4 : Int, InR .i64 x_4 → ∀ x_5 : Int, InR .i64 x_5 → ∀ x_6 : Int, InR .i64 x_6 → ∀ x_7 : ByteArray, x_7.size ≤ 9223372036854775807 → ∀ x_8 : ByteArray, x_8.size ≤ 9223372036854775807 → ∀ x_9 : Int, InR .i64 x_9 → ∀ x_10 : Option Addr, ∀ x_10l : Nat, ∀ x_10c : Nat, SlcArg Tryz.prog W 26 x_10 x_10l x_10c → ∀ x_11 : Option Addr, ∀ x_11l : Nat, ∀ x_11c : Nat, SlcArg Tryz.prog W 3 x_11 x_11l x_11c → ∀ x_12 : Int, InR .i64 x_12 → ∀ x_13 : Int, InR .i64 x_13 → ∀ x_14 : Bool, ∀ b : Option Addr, ∀ bl : Nat, ∀ bc : Nat, SlcArg Tryz.prog W 5 b bl bc → R #[(.agg #[(.int .i64 x_0), (.string x_1), (.int .i64 x_2), (.int .i64 x_3), (.int .i64 x_4), (.int .i64 x_5), (.int .i64 x_6), (.string x_7), (.string x_8), (.int .i64 x_9), (.slice x_10 x_10l x_10c), (.slice x_11 x_11l x_11c), (.int .i64 x_12), (.int .i64 x_13), (.bool x_14)]), (.slice b bl bc)]) (args : Array Value) (hg : GoodAll Tryz.prog W Tryz.f3.params.toList args.toList) : R args := by
  have e_ : (ArgsAll Tryz.prog W Tryz.f3.params.toList fun l => R l.toArray) = (∀ x_0 : Int, InR .i64 x_0 → ∀ x_1 : ByteArray, x_1.size ≤ 9223372036854775807 → ∀ x_2 : Int, InR .i64 x_2 → ∀ x_3 : Int, InR .i64 x_3 → ∀ x_4 : Int, InR .i64 x_4 → ∀ x_5 : Int, InR .i64 x_5 → ∀ x_6 : Int, InR .i64 x_6 → ∀ x_7 : ByteArray, x_7.size ≤ 9223372036854775807 → ∀ x_8 : ByteArray, x_8.size ≤ 9223372036854775807 → ∀ x_9 : Int, InR .i64 x_9 → ∀ x_10 : Option Addr, ∀ x_10l : Nat, ∀ x_10c : Nat, SlcArg Tryz.prog W 26 x_10 x_10l x_10c → ∀ x_11 : Option Addr, ∀ x_11l : Nat, ∀ x_11c : Nat, SlcArg Tryz.prog W 3 x_11 x_11l x_11c → ∀ x_12 : Int, InR .i64 x_12 → ∀ x_13 : Int, InR .i64 x_13 → ∀ x_14 : Bool, ∀ b : Option Addr, ∀ bl : Nat, ∀ bc : Nat, SlcArg Tryz.prog W 5 b bl bc → R #[(.agg #[(.int .i64 x_0), (.string x_1), (.int .i64 x_2), (.int .i64 x_3), (.int .i64 x_4), (.int .i64 x_5), (.int .i64 x_6), (.string x_7), (.string x_8), (.int .i64 x_9), (.slice x_10 x_10l x_10c), (.slice x_11 x_11l x_11c), (.int .i64 x_12), (.int .i64 x_13), (.bool x_14)]), (.slice b bl bc)]) := by kernel_rfl
  exact args_open (by rw [e_]; exact h) args hg
-- wit 3 #[(.agg #[(.int .i64 0), (.string (⟨#[]⟩ : ByteArray)), (.int .i64 0), (.int .i64 0), (.int .i64 0), (.int .i64 0), (.int .i64 0), (.string (⟨#[]⟩ : ByteArray)), (.string (⟨#[]⟩ : ByteArray)), (.int .i64 0), (.slice none 0 0), (.slice none 0 0), (.int .i64 0), (.int .i64 0), (.bool false)]), (.slice none 0 0)]

/-- shiftbell/journal.Cut -/
def wp_journal_Cut (b : Option Addr) (bl : Nat) (bc : Nat) (w : World) (Q : Value → World → Prop) : Prop :=
  ∃ (I0 : Option Addr → Nat → Nat → Int → World → Prop) (M0 : Option Addr → Nat → Nat → Int → World → Nat), I0 none 0 0 0 w ∧
  ∀ (out1 : Option Addr) (outl1 : Nat) (outc1 : Nat) (at2 : Int) (w3 : World), I0 out1 outl1 outc1 at2 w3 →
   (0 : Int) ≤ at2 ∧
   (at2 : Int) ≤ (bl : Int) ∧
   ((bl : Int) : Int) ≤ (bc : Int) ∧
   ((((((bl : Int) - at2).toNat : Nat) : Int) < 2) →
    ∀ w4, Ext w3 w4 →
    Q (.tuple #[(.slice out1 outl1 outc1), (.int .i64 at2)]) w4) ∧
   ((2 ≤ ((((bl : Int) - at2).toNat : Nat) : Int)) →
    (pCut b bc at2 1) ≠ none ∧
    (0 : Int) ≤ 0 ∧
    (0 : Int) < ((((bl : Int) - at2).toNat : Nat) : Int) ∧
    ∃ t4 : Int, cell w3 (pIdx (pCut b bc at2 1) 0 1) 0 = some (.int .u8 t4) ∧
    InR .i64 t4 ∧
    (pCut b bc at2 1) ≠ none ∧
    (0 : Int) ≤ 1 ∧
    (1 : Int) < ((((bl : Int) - at2).toNat : Nat) : Int) ∧
    ∃ t5 : Int, cell w3 (pIdx (pCut b bc at2 1) 1 1) 0 = some (.int .u8 t5) ∧
    InR .i64 t5 ∧
    InR .i64 ((iBit .shl .i64 t4 8) + t5) ∧
    InR .i64 (((iBit .shl .i64 t4 8) + t5) + 10) ∧
    ((((((bl : Int) - at2).toNat : Nat) : Int) < (((iBit .shl .i64 t4 8) + t5) + 10)) →
     ∀ w6, Ext w3 w6 →
     Q (.tuple #[(.slice out1 outl1 outc1), (.int .i64 at2)]) w6) ∧
    (((((iBit .shl .i64 t4 8) + t5) + 10) ≤ ((((bl : Int) - at2).toNat : Nat) : Int)) →
     InR .i64 (((iBit .shl .i64 t4 8) + t5) + 2) ∧
     (0 : Int) ≤ 2 ∧
     (2 : Int) ≤ (((iBit .shl .i64 t4 8) + t5) + 2) ∧
     ((((iBit .shl .i64 t4 8) + t5) + 2) : Int) ≤ (((bc - at2.toNat) : Nat) : Int) ∧
     ∀ w6, Ext w3 w6 →
     FnP Tryz.prog F_event_Decode #[(.slice (pCut (pCut b bc at2 1) (bc - at2.toNat) 2 1) ((((iBit .shl .i64 t4 8) + t5) + 2) - 2).toNat ((bc - at2.toNat) - (2 : Int).toNat))] w6 fun v7 w7 =>
      Ext w6 w7 ∧
      ∃ t_08 : Int, ∃ t_19 : ByteArray, ∃ t_210 : Int, ∃ t_311 : Int, ∃ t_412 : Int, ∃ t_513 : Int, ∃ t_614 : Int, ∃ t_715 : ByteArray, ∃ t_816 : ByteArray, ∃ t_917 : Int, ∃ t_1018 : Option Addr, ∃ t_10l19 : Nat, ∃ t_10c20 : Nat, ∃ t_1121 : Option Addr, ∃ t_11l22 : Nat, ∃ t_11c23 : Nat, ∃ t_1224 : Int, ∃ t_1325 : Int, ∃ t_1426 : Bool, ∃ t27 : Int, v7 = (.tuple #[(.agg #[(.int .i64 t_08), (.string t_19), (.int .i64 t_210), (.int .i64 t_311), (.int .i64 t_412), (.int .i64 t_513), (.int .i64 t_614), (.string t_715), (.string t_816), (.int .i64 t_917), (.slice t_1018 t_10l19 t_10c20), (.slice t_1121 t_11l22 t_11c23), (.int .i64 t_1224), (.int .i64 t_1325), (.bool t_1426)]), (.int .i64 t27)]) ∧
      ∀ b28 : Nat, w7.heap.size ≤ b28 → ∀ w29, ExtB [] [b28] w7 w29 →
      FnP Tryz.prog F_journal_Frame #[(.agg #[(.int .i64 t_08), (.string t_19), (.int .i64 t_210), (.int .i64 t_311), (.int .i64 t_412), (.int .i64 t_513), (.int .i64 t_614), (.string t_715), (.string t_816), (.int .i64 t_917), (.slice t_1018 t_10l19 t_10c20), (.slice t_1121 t_11l22 t_11c23), (.int .i64 t_1224), (.int .i64 t_1325), (.bool t_1426)])] w29 fun v30 w30 =>
       Ext w29 w30 ∧
       ∃ t31 : Option Addr, ∃ tl32 : Nat, ∃ tc33 : Nat, ∃ t34 : Int, v30 = (.tuple #[(.slice t31 tl32 tc33), (.int .i64 t34)]) ∧
       ((((t27 = 0) ∧ (t34 = 0)) →
        InR .i64 (((iBit .shl .i64 t4 8) + t5) + 10))) ∧
       ((((t27 = 0) ∧ (t34 = 0)) →
        (0 : Int) ≤ 0)) ∧
       ((((t27 = 0) ∧ (t34 = 0)) →
        (0 : Int) ≤ (((iBit .shl .i64 t4 8) + t5) + 10))) ∧
       ((((t27 = 0) ∧ (t34 = 0)) →
        ((((iBit .shl .i64 t4 8) + t5) + 10) : Int) ≤ (((bc - at2.toNat) : Nat) : Int))) ∧
       (((t27 ≠ 0) ∨ (t34 ≠ 0)) →
        ∀ w35, Ext w30 w35 →
        Q (.tuple #[(.slice out1 outl1 outc1), (.int .i64 at2)]) w35) ∧
       (((t27 = 0) ∧ (t34 = 0)) →
        ∀ w35, Ext w30 w35 →
        FnP Tryz.prog F_bytes_Equal #[(.slice t31 tl32 tc33), (.slice (pCut (pCut b bc at2 1) (bc - at2.toNat) 0 1) ((((iBit .shl .i64 t4 8) + t5) + 10) - 0).toNat ((bc - at2.toNat) - (0 : Int).toNat))] w35 fun v36 w36 =>
         Ext w35 w36 ∧
         ∃ t37 : Bool, v36 = (.bool t37) ∧
         ((t37 = false) →
          ∀ w38, Ext w30 w38 →
          Q (.tuple #[(.slice out1 outl1 outc1), (.int .i64 at2)]) w38) ∧
         ((t37 = true) →
          ∀ w38, ExtB [] [b28] w30 w38 →
          Run Tryz.prog (.buildSlice 43 1 [(0, (.agg #[(.int .i64 t_08), (.string t_19), (.int .i64 t_210), (.int .i64 t_311), (.int .i64 t_412), (.int .i64 t_513), (.int .i64 t_614), (.string t_715), (.string t_816), (.int .i64 t_917), (.slice t_1018 t_10l19 t_10c20), (.slice t_1121 t_11l22 t_11c23), (.int .i64 t_1224), (.int .i64 t_1325), (.bool t_1426)]))]) w38 fun v39 w39 =>
           Ext w38 w39 ∧
           ∃ t40 : Option Addr, ∃ tl41 : Nat, ∃ tc42 : Nat, v39 = (.slice t40 tl41 tc42) ∧
           ∀ w43, ExtB [] [b28] w39 w43 →
           Run Tryz.prog (.append #[43, 43] 43 [(.slice out1 outl1 outc1), (.slice t40 tl41 tc42)]) w43 fun v44 w44 =>
            Kept [b28] w43 w44 ∧
            ∃ t45 : Option Addr, ∃ tl46 : Nat, ∃ tc47 : Nat, v44 = (.slice t45 tl46 tc47) ∧
            InR .i64 (((iBit .shl .i64 t4 8) + t5) + 10) ∧
            InR .i64 (at2 + (((iBit .shl .i64 t4 8) + t5) + 10)) ∧
            (I0 t45 tl46 tc47 (at2 + (((iBit .shl .i64 t4 8) + t5) + 10)) w44 ∧ M0 t45 tl46 tc47 (at2 + (((iBit .shl .i64 t4 8) + t5) + 10)) w44 < M0 out1 outl1 outc1 at2 w3)))))

theorem ok_journal_Cut (b : Option Addr) (bl : Nat) (bc : Nat) (w : World) (Q : Value → World → Prop) (h : wp_journal_Cut b bl bc w Q) : FnP Tryz.prog F_journal_Cut #[(.slice b bl bc)] w Q := by
  have e_ : wp_journal_Cut b bl bc w Q = Runs Tryz.prog Q ({ N := 75, wrap := [], pub := [], muts := [], joins := [] } : Cfg) Tryz.f13 (Tryz.f13.body.getD .skip) [.sc (.slc b bl bc)] w := by kernel_rfl
  rw [e_] at h
  exact runs_fn h Tryz.func13 (by kernel_rfl) (fun args w => Tryz.call13 args w) (by kernel_rfl) (by kernel_rfl) rfl rfl

/-- shiftbell/shiftbellkeep.journals -/
def wp_shiftbellkeep_journals  (w : World) (Q : Value → World → Prop) : Prop :=
  ∀ w0, Ext w w0 →
  FnP Tryz.prog F_journal_Frame #[(.agg #[(.int .i64 3), (.string (⟨#[]⟩ : ByteArray)), (.int .i64 0), (.int .i64 0), (.int .i64 0), (.int .i64 0), (.int .i64 0), (.string (⟨#[]⟩ : ByteArray)), (.string (⟨#[]⟩ : ByteArray)), (.int .i64 0), (.slice none 0 0), (.slice none 0 0), (.int .i64 0), (.int .i64 0), (.bool false)])] w0 fun v1 w1 =>
   Ext w0 w1 ∧
   ∃ t2 : Option Addr, ∃ tl3 : Nat, ∃ tc4 : Nat, ∃ t5 : Int, v1 = (.tuple #[(.slice t2 tl3 tc4), (.int .i64 t5)]) ∧
   ∀ w6, Ext w1 w6 →
   Q (.bool ((decide (t5 = 0)) && (decide ((tl3 : Int) = 11)))) w6

theorem ok_shiftbellkeep_journals  (w : World) (Q : Value → World → Prop) (h : wp_shiftbellkeep_journals  w Q) : FnP Tryz.prog F_shiftbellkeep_journals #[] w Q := by
  have e_ : wp_shiftbellkeep_journals  w Q = Runs Tryz.prog Q ({ N := 15, wrap := [], pub := [], muts := [], joins := [] } : Cfg) Tryz.f11 (Tryz.f11.body.getD .skip) [] w := by kernel_rfl
  rw [e_] at h
  exact runs_fn h Tryz.func11 (by kernel_rfl) (fun args w => Tryz.call11 args w) (by kernel_rfl) (by kernel_rfl) rfl rfl

/-- shiftbell/shiftbellkeep.framed -/
def wp_shiftbellkeep_framed (l : Option Addr) (ll : Nat) (lc : Nat) (w : World) (Q : Value → World → Prop) : Prop :=
  ∃ (I0 : Option Addr → Nat → Nat → Option Addr → Nat → Nat → Int → World → Prop) (M0 : Option Addr → Nat → Nat → Option Addr → Nat → Nat → Int → World → Nat), I0 none 0 0 none 0 0 0 w ∧
  ∀ (out1 : Option Addr) (outl1 : Nat) (outc1 : Nat) (all2 : Option Addr) (alll2 : Nat) (allc2 : Nat) (k3 : Int) (w4 : World), I0 out1 outl1 outc1 all2 alll2 allc2 k3 w4 →
   (((k3 < (ll : Int)) →
    l ≠ none ∧
    (0 : Int) ≤ k3 ∧
    (k3 : Int) < (ll : Int) ∧
    (pIdx l k3 15) ≠ none ∧
    ∃ t5 : Int, cell w4 (pIdx l k3 15) 0 = some (.int .i64 t5) ∧
    ∃ t6 : ByteArray, cell w4 (pIdx l k3 15) 1 = some (.string t6) ∧
    ∃ t7 : Int, cell w4 (pIdx l k3 15) 2 = some (.int .i64 t7) ∧
    ∃ t8 : Int, cell w4 (pIdx l k3 15) 3 = some (.int .i64 t8) ∧
    ∃ t9 : Int, cell w4 (pIdx l k3 15) 4 = some (.int .i64 t9) ∧
    ∃ t10 : Int, cell w4 (pIdx l k3 15) 5 = some (.int .i64 t10) ∧
    ∃ t11 : Int, cell w4 (pIdx l k3 15) 6 = some (.int .i64 t11) ∧
    ∃ t12 : ByteArray, cell w4 (pIdx l k3 15) 7 = some (.string t12) ∧
    ∃ t13 : ByteArray, cell w4 (pIdx l k3 15) 8 = some (.string t13) ∧
    ∃ t14 : Int, cell w4 (pIdx l k3 15) 9 = some (.int .i64 t14) ∧
    ∃ t15 : Option Addr, ∃ tl16 : Nat, ∃ tc17 : Nat, cell w4 (pIdx l k3 15) 10 = some (.slice t15 tl16 tc17) ∧
    ∃ t18 : Option Addr, ∃ tl19 : Nat, ∃ tc20 : Nat, cell w4 (pIdx l k3 15) 11 = some (.slice t18 tl19 tc20) ∧
    ∃ t21 : Int, cell w4 (pIdx l k3 15) 12 = some (.int .i64 t21) ∧
    ∃ t22 : Int, cell w4 (pIdx l k3 15) 13 = some (.int .i64 t22) ∧
    ∃ t23 : Bool, cell w4 (pIdx l k3 15) 14 = some (.bool t23) ∧
    ∀ b24 : Nat, w4.heap.size ≤ b24 → ∀ w25, ExtB [] [b24] w4 w25 →
    FnP Tryz.prog F_journal_Frame #[(.agg #[(.int .i64 t5), (.string t6), (.int .i64 t7), (.int .i64 t8), (.int .i64 t9), (.int .i64 t10), (.int .i64 t11), (.string t12), (.string t13), (.int .i64 t14), (.slice t15 tl16 tc17), (.slice t18 tl19 tc20), (.int .i64 t21), (.int .i64 t22), (.bool t23)])] w25 fun v26 w26 =>
     Ext w25 w26 ∧
     ∃ t27 : Option Addr, ∃ tl28 : Nat, ∃ tc29 : Nat, ∃ t30 : Int, v26 = (.tuple #[(.slice t27 tl28 tc29), (.int .i64 t30)]) ∧
     ((((t30 = 0) ∧ ((tl28 : Int) < 2000)) →
      ∀ w31, ExtB [] [b24] w26 w31 →
      Run Tryz.prog (.buildSlice 43 1 [(0, (.agg #[(.int .i64 t5), (.string t6), (.int .i64 t7), (.int .i64 t8), (.int .i64 t9), (.int .i64 t10), (.int .i64 t11), (.string t12), (.string t13), (.int .i64 t14), (.slice t15 tl16 tc17), (.slice t18 tl19 tc20), (.int .i64 t21), (.int .i64 t22), (.bool t23)]))]) w31 fun v32 w32 =>
       Ext w31 w32 ∧
       ∃ t33 : Option Addr, ∃ tl34 : Nat, ∃ tc35 : Nat, v32 = (.slice t33 tl34 tc35) ∧
       ∀ w36, ExtB [] [b24] w32 w36 →
       Run Tryz.prog (.append #[43, 43] 43 [(.slice out1 outl1 outc1), (.slice t33 tl34 tc35)]) w36 fun v37 w37 =>
        Kept [b24] w36 w37 ∧
        ∃ t38 : Option Addr, ∃ tl39 : Nat, ∃ tc40 : Nat, v37 = (.slice t38 tl39 tc40) ∧
        ∀ w41, ExtB [] [b24] w37 w41 →
        Run Tryz.prog (.append #[32, 32] 32 [(.slice all2 alll2 allc2), (.slice t27 tl28 tc29)]) w41 fun v42 w42 =>
         Kept [b24] w41 w42 ∧
         ∃ t43 : Option Addr, ∃ tl44 : Nat, ∃ tc45 : Nat, v42 = (.slice t43 tl44 tc45) ∧
         InR .i64 (k3 + 1) ∧
         (I0 t38 tl39 tc40 t43 tl44 tc45 (k3 + 1) w42 ∧ M0 t38 tl39 tc40 t43 tl44 tc45 (k3 + 1) w42 < M0 out1 outl1 outc1 all2 alll2 allc2 k3 w4))) ∧
     (((t30 ≠ 0) ∨ (2000 ≤ (tl28 : Int))) →
      InR .i64 (k3 + 1) ∧
      (I0 out1 outl1 outc1 all2 alll2 allc2 (k3 + 1) w26 ∧ M0 out1 outl1 outc1 all2 alll2 allc2 (k3 + 1) w26 < M0 out1 outl1 outc1 all2 alll2 allc2 k3 w4)))) ∧
   (((ll : Int) ≤ k3) →
    ∀ w5, Ext w4 w5 →
    Q (.tuple #[(.slice out1 outl1 outc1), (.slice all2 alll2 allc2)]) w5)

theorem ok_shiftbellkeep_framed (l : Option Addr) (ll : Nat) (lc : Nat) (w : World) (Q : Value → World → Prop) (h : wp_shiftbellkeep_framed l ll lc w Q) : FnP Tryz.prog F_shiftbellkeep_framed #[(.slice l ll lc)] w Q := by
  have e_ : wp_shiftbellkeep_framed l ll lc w Q = Runs Tryz.prog Q ({ N := 38, wrap := [], pub := [], muts := [], joins := [] } : Cfg) Tryz.f12 (Tryz.f12.body.getD .skip) [.sc (.slc l ll lc)] w := by kernel_rfl
  rw [e_] at h
  exact runs_fn h Tryz.func12 (by kernel_rfl) (fun args w => Tryz.call12 args w) (by kernel_rfl) (by kernel_rfl) rfl rfl

/-- slices.EqualFunc[[]shiftbell/api.Event,[]shiftbell/api.Event,shiftbell/api.Event,shiftbell/api.Event] -/
def wp_slices_EqualFunc_api_Event_api_Event_api_Event_api_Event (s1 : Option Addr) (s1l : Nat) (s1c : Nat) (s2 : Option Addr) (s2l : Nat) (s2c : Nat) (eq : Value) (w : World) (Q : Value → World → Prop) : Prop :=
  (((s1l : Int) ≠ (s2l : Int)) →
   ∀ w0, Ext w w0 →
   Q (.bool false) w0) ∧
  (((s1l : Int) = (s2l : Int)) →
   ∃ (I0 : Int → World → Prop) (M0 : Int → World → Nat), I0 0 w ∧
   ∀ (k1 : Int) (w2 : World), I0 k1 w2 →
    (((k1 < (s1l : Int)) →
     s1 ≠ none ∧
     (0 : Int) ≤ k1 ∧
     (k1 : Int) < (s1l : Int) ∧
     (pIdx s1 k1 15) ≠ none ∧
     ∃ t3 : Int, cell w2 (pIdx s1 k1 15) 0 = some (.int .i64 t3) ∧
     ∃ t4 : ByteArray, cell w2 (pIdx s1 k1 15) 1 = some (.string t4) ∧
     ∃ t5 : Int, cell w2 (pIdx s1 k1 15) 2 = some (.int .i64 t5) ∧
     ∃ t6 : Int, cell w2 (pIdx s1 k1 15) 3 = some (.int .i64 t6) ∧
     ∃ t7 : Int, cell w2 (pIdx s1 k1 15) 4 = some (.int .i64 t7) ∧
     ∃ t8 : Int, cell w2 (pIdx s1 k1 15) 5 = some (.int .i64 t8) ∧
     ∃ t9 : Int, cell w2 (pIdx s1 k1 15) 6 = some (.int .i64 t9) ∧
     ∃ t10 : ByteArray, cell w2 (pIdx s1 k1 15) 7 = some (.string t10) ∧
     ∃ t11 : ByteArray, cell w2 (pIdx s1 k1 15) 8 = some (.string t11) ∧
     ∃ t12 : Int, cell w2 (pIdx s1 k1 15) 9 = some (.int .i64 t12) ∧
     ∃ t13 : Option Addr, ∃ tl14 : Nat, ∃ tc15 : Nat, cell w2 (pIdx s1 k1 15) 10 = some (.slice t13 tl14 tc15) ∧
     ∃ t16 : Option Addr, ∃ tl17 : Nat, ∃ tc18 : Nat, cell w2 (pIdx s1 k1 15) 11 = some (.slice t16 tl17 tc18) ∧
     ∃ t19 : Int, cell w2 (pIdx s1 k1 15) 12 = some (.int .i64 t19) ∧
     ∃ t20 : Int, cell w2 (pIdx s1 k1 15) 13 = some (.int .i64 t20) ∧
     ∃ t21 : Bool, cell w2 (pIdx s1 k1 15) 14 = some (.bool t21) ∧
     ∀ b22 : Nat, w2.heap.size ≤ b22 → s2 ≠ none ∧
     (0 : Int) ≤ k1 ∧
     (k1 : Int) < (s2l : Int) ∧
     (pIdx s2 k1 15) ≠ none ∧
     ∃ t23 : Int, cell w2 (pIdx s2 k1 15) 0 = some (.int .i64 t23) ∧
     ∃ t24 : ByteArray, cell w2 (pIdx s2 k1 15) 1 = some (.string t24) ∧
     ∃ t25 : Int, cell w2 (pIdx s2 k1 15) 2 = some (.int .i64 t25) ∧
     ∃ t26 : Int, cell w2 (pIdx s2 k1 15) 3 = some (.int .i64 t26) ∧
     ∃ t27 : Int, cell w2 (pIdx s2 k1 15) 4 = some (.int .i64 t27) ∧
     ∃ t28 : Int, cell w2 (pIdx s2 k1 15) 5 = some (.int .i64 t28) ∧
     ∃ t29 : Int, cell w2 (pIdx s2 k1 15) 6 = some (.int .i64 t29) ∧
     ∃ t30 : ByteArray, cell w2 (pIdx s2 k1 15) 7 = some (.string t30) ∧
     ∃ t31 : ByteArray, cell w2 (pIdx s2 k1 15) 8 = some (.string t31) ∧
     ∃ t32 : Int, cell w2 (pIdx s2 k1 15) 9 = some (.int .i64 t32) ∧
     ∃ t33 : Option Addr, ∃ tl34 : Nat, ∃ tc35 : Nat, cell w2 (pIdx s2 k1 15) 10 = some (.slice t33 tl34 tc35) ∧
     ∃ t36 : Option Addr, ∃ tl37 : Nat, ∃ tc38 : Nat, cell w2 (pIdx s2 k1 15) 11 = some (.slice t36 tl37 tc38) ∧
     ∃ t39 : Int, cell w2 (pIdx s2 k1 15) 12 = some (.int .i64 t39) ∧
     ∃ t40 : Int, cell w2 (pIdx s2 k1 15) 13 = some (.int .i64 t40) ∧
     ∃ t41 : Bool, cell w2 (pIdx s2 k1 15) 14 = some (.bool t41) ∧
     ∀ b42 : Nat, w2.heap.size ≤ b42 → ∀ w43, Ext w2 w43 →
     FnVP Tryz.prog eq [(.agg #[(.int .i64 t3), (.string t4), (.int .i64 t5), (.int .i64 t6), (.int .i64 t7), (.int .i64 t8), (.int .i64 t9), (.string t10), (.string t11), (.int .i64 t12), (.slice t13 tl14 tc15), (.slice t16 tl17 tc18), (.int .i64 t19), (.int .i64 t20), (.bool t21)]), (.agg #[(.int .i64 t23), (.string t24), (.int .i64 t25), (.int .i64 t26), (.int .i64 t27), (.int .i64 t28), (.int .i64 t29), (.string t30), (.string t31), (.int .i64 t32), (.slice t33 tl34 tc35), (.slice t36 tl37 tc38), (.int .i64 t39), (.int .i64 t40), (.bool t41)])] w43 fun v44 w44 =>
      Ext w43 w44 ∧
      ∃ t45 : Bool, v44 = (.bool t45) ∧
      ((t45 = false) →
       ∀ w46, Ext w2 w46 →
       Q (.bool false) w46) ∧
      ((t45 = true) →
       InR .i64 (k1 + 1) ∧
       (I0 (k1 + 1) w2 ∧ M0 (k1 + 1) w2 < M0 k1 w2)))) ∧
    (((s1l : Int) ≤ k1) →
     ∀ w3, Ext w2 w3 →
     Q (.bool true) w3))

theorem ok_slices_EqualFunc_api_Event_api_Event_api_Event_api_Event (s1 : Option Addr) (s1l : Nat) (s1c : Nat) (s2 : Option Addr) (s2l : Nat) (s2c : Nat) (eq : Value) (w : World) (Q : Value → World → Prop) (h : wp_slices_EqualFunc_api_Event_api_Event_api_Event_api_Event s1 s1l s1c s2 s2l s2c eq w Q) : FnP Tryz.prog F_slices_EqualFunc_api_Event_api_Event_api_Event_api_Event #[(.slice s1 s1l s1c), (.slice s2 s2l s2c), eq] w Q := by
  have e_ : wp_slices_EqualFunc_api_Event_api_Event_api_Event_api_Event s1 s1l s1c s2 s2l s2c eq w Q = Runs Tryz.prog Q ({ N := 32, wrap := [], pub := [], muts := [], joins := [] } : Cfg) Tryz.f14 (Tryz.f14.body.getD .skip) [.sc (.slc s1 s1l s1c), .sc (.slc s2 s2l s2c), .sc (.val eq)] w := by kernel_rfl
  rw [e_] at h
  exact runs_fn h Tryz.func14 (by kernel_rfl) (fun args w => Tryz.call14 args w) (by kernel_rfl) (by kernel_rfl) rfl rfl

/-- shiftbell/shiftbellkeep.JournalBack -/
def wp_shiftbellkeep_JournalBack (l : Option Addr) (ll : Nat) (lc : Nat) (keep : Int) (w : World) (Q : Value → World → Prop) : Prop :=
  ∀ w0, Ext w w0 →
  FnP Tryz.prog F_shiftbellkeep_journals #[] w0 fun v1 w1 =>
   Ext w0 w1 ∧
   ∃ t2 : Bool, v1 = (.bool t2) ∧
   ((t2 = false) →
    ∀ w3, Ext w w3 →
    Q (.bool false) w3) ∧
   ((t2 = true) →
    ((20 < (ll : Int)) →
     ∀ w3, Ext w w3 →
     Q (.bool true) w3) ∧
    (((ll : Int) ≤ 20) →
     ∀ w3, Ext w w3 →
     FnP Tryz.prog F_shiftbellkeep_framed #[(.slice l ll lc)] w3 fun v4 w4 =>
      Ext w3 w4 ∧
      ∃ t5 : Option Addr, ∃ tl6 : Nat, ∃ tc7 : Nat, ∃ t8 : Option Addr, ∃ tl9 : Nat, ∃ tc10 : Nat, v4 = (.tuple #[(.slice t5 tl6 tc7), (.slice t8 tl9 tc10)]) ∧
      ∀ w11, Ext w4 w11 →
      FnP Tryz.prog F_journal_Cut #[(.slice t8 tl9 tc10)] w11 fun v12 w12 =>
       Ext w11 w12 ∧
       ∃ t13 : Option Addr, ∃ tl14 : Nat, ∃ tc15 : Nat, ∃ t16 : Int, v12 = (.tuple #[(.slice t13 tl14 tc15), (.int .i64 t16)]) ∧
       ∀ w17, Ext w12 w17 →
       FnP Tryz.prog F_slices_EqualFunc_api_Event_api_Event_api_Event_api_Event #[(.slice t13 tl14 tc15), (.slice t5 tl6 tc7), (.func (.func 8) #[] #[])] w17 fun v18 w18 =>
        Ext w17 w18 ∧
        ∃ t19 : Bool, v18 = (.bool t19) ∧
        (((t19 = false) ∨ (t16 ≠ (tl9 : Int))) →
         ∀ w20, Ext w12 w20 →
         Q (.bool false) w20) ∧
        (((t19 = true) ∧ (t16 = (tl9 : Int))) →
         (((keep < 0) ∨ ((tl9 : Int) < keep)) →
          ∀ w20, Ext w12 w20 →
          Q (.bool true) w20) ∧
         (((0 ≤ keep) ∧ (keep ≤ (tl9 : Int))) →
          (0 : Int) ≤ 0 ∧
          (0 : Int) ≤ keep ∧
          (keep : Int) ≤ (tc10 : Int) ∧
          ∀ w20, Ext w12 w20 →
          FnP Tryz.prog F_journal_Cut #[(.slice (pCut t8 tc10 0 1) (keep - 0).toNat (tc10 - (0 : Int).toNat))] w20 fun v21 w21 =>
           Ext w20 w21 ∧
           ∃ t22 : Option Addr, ∃ tl23 : Nat, ∃ tc24 : Nat, ∃ t25 : Int, v21 = (.tuple #[(.slice t22 tl23 tc24), (.int .i64 t25)]) ∧
           ((((t25 ≤ keep) ∧ ((tl23 : Int) ≤ (tl6 : Int))) →
            (0 : Int) ≤ 0)) ∧
           ((((t25 ≤ keep) ∧ ((tl23 : Int) ≤ (tl6 : Int))) →
            (0 : Int) ≤ (tl23 : Int))) ∧
           ((((t25 ≤ keep) ∧ ((tl23 : Int) ≤ (tl6 : Int))) →
            ((tl23 : Int) : Int) ≤ (tc7 : Int))) ∧
           (((keep < t25) ∨ ((tl6 : Int) < (tl23 : Int))) →
            ∀ w26, Ext w21 w26 →
            Q (.bool false) w26) ∧
           (((t25 ≤ keep) ∧ ((tl23 : Int) ≤ (tl6 : Int))) →
            ∀ w26, Ext w21 w26 →
            FnP Tryz.prog F_slices_EqualFunc_api_Event_api_Event_api_Event_api_Event #[(.slice t22 tl23 tc24), (.slice (pCut t5 tc7 0 15) ((tl23 : Int) - 0).toNat (tc7 - (0 : Int).toNat)), (.func (.func 8) #[] #[])] w26 fun v27 w27 =>
             Ext w26 w27 ∧
             ∃ t28 : Bool, v27 = (.bool t28) ∧
             ((t28 = false) →
              ∀ w29, Ext w21 w29 →
              Q (.bool false) w29) ∧
             ((t28 = true) →
              (0 : Int) ≤ 0 ∧
              (0 : Int) ≤ (tl23 : Int) ∧
              ((tl23 : Int) : Int) ≤ (tc7 : Int) ∧
              ∀ w29, Ext w21 w29 →
              FnP Tryz.prog F_shiftbellkeep_framed #[(.slice (pCut t5 tc7 0 15) ((tl23 : Int) - 0).toNat (tc7 - (0 : Int).toNat))] w29 fun v30 w30 =>
               Ext w29 w30 ∧
               ∃ t31 : Option Addr, ∃ tl32 : Nat, ∃ tc33 : Nat, ∃ t34 : Option Addr, ∃ tl35 : Nat, ∃ tc36 : Nat, v30 = (.tuple #[(.slice t31 tl32 tc33), (.slice t34 tl35 tc36)]) ∧
               InR .i64 ((tl23 : Int) + 1) ∧
               (0 : Int) ≤ 0 ∧
               (0 : Int) ≤ (min ((tl23 : Int) + 1) (tl6 : Int)) ∧
               ((min ((tl23 : Int) + 1) (tl6 : Int)) : Int) ≤ (tc7 : Int) ∧
               ∀ w37, Ext w30 w37 →
               FnP Tryz.prog F_shiftbellkeep_framed #[(.slice (pCut t5 tc7 0 15) ((min ((tl23 : Int) + 1) (tl6 : Int)) - 0).toNat (tc7 - (0 : Int).toNat))] w37 fun v38 w38 =>
                Ext w37 w38 ∧
                ∃ t39 : Option Addr, ∃ tl40 : Nat, ∃ tc41 : Nat, ∃ t42 : Option Addr, ∃ tl43 : Nat, ∃ tc44 : Nat, v38 = (.tuple #[(.slice t39 tl40 tc41), (.slice t42 tl43 tc44)]) ∧
                ∀ w45, Ext w38 w45 →
                Q (.bool ((decide ((tl35 : Int) = t25)) && ((decide ((tl23 : Int) = (tl6 : Int))) || (decide (keep < (tl43 : Int)))))) w45))))))

theorem ok_shiftbellkeep_JournalBack (l : Option Addr) (ll : Nat) (lc : Nat) (keep : Int) (w : World) (Q : Value → World → Prop) (h : wp_shiftbellkeep_JournalBack l ll lc keep w Q) : FnP Tryz.prog F_shiftbellkeep_JournalBack #[(.slice l ll lc), (.int .i64 keep)] w Q := by
  have e_ : wp_shiftbellkeep_JournalBack l ll lc keep w Q = Runs Tryz.prog Q ({ N := 109, wrap := [], pub := [], muts := [], joins := [] } : Cfg) Tryz.f4 (Tryz.f4.body.getD .skip) [.sc (.slc l ll lc), .sc (.int .i64 keep)] w := by kernel_rfl
  rw [e_] at h
  exact runs_fn h Tryz.func4 (by kernel_rfl) (fun args w => Tryz.call4 args w) (by kernel_rfl) (by kernel_rfl) rfl rfl

theorem open_shiftbellkeep_JournalBack (W : World) (R : Array Value → Prop) (h : ∀ l : Option Addr, ∀ ll : Nat, ∀ lc : Nat, SlcArg Tryz.prog W 31 l ll lc → ∀ keep : Int, InR .i64 keep → R #[(.slice l ll lc), (.int .i64 keep)]) (args : Array Value) (hg : GoodAll Tryz.prog W Tryz.f4.params.toList args.toList) : R args := by
  have e_ : (ArgsAll Tryz.prog W Tryz.f4.params.toList fun l => R l.toArray) = (∀ l : Option Addr, ∀ ll : Nat, ∀ lc : Nat, SlcArg Tryz.prog W 31 l ll lc → ∀ keep : Int, InR .i64 keep → R #[(.slice l ll lc), (.int .i64 keep)]) := by kernel_rfl
  exact args_open (by rw [e_]; exact h) args hg
-- wit 4 #[(.slice none 0 0), (.int .i64 0)]

end Go.Proofs.YtenppnomdejmlaaGreatDoor
