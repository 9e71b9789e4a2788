/- The texts of this seat's functions: what each computes, as its symbolic run says it. -/
import Derived.Test.YtenppnomdejmlaaDoorRows
import Derived.Test.YtenppnomdejmlaaDoorSxD
import Derived.Test.YtenppnomdejmlaaDoorSxN
import Derived.Test.YtenppnomdejmlaaDoorTxt
import Derived.Test.YtenppnomdejmlaaDoorTxtD
import Derived.Test.YtenppnomdejmlaaDoorTxtE
import Derived.Test.YtenppnomdejmlaaDoorTxtJ
set_option linter.unusedVariables false
set_option linter.unusedSimpArgs false
set_option maxRecDepth 100000
namespace Go.Proofs.YtenppnomdejmlaaDoor
open Go.Sx Go.RowKit

abbrev F_shiftbellkeep_JournalOne : FuncId := 5
abbrev F_journal_Cut : FuncId := 18
abbrev F_event_Decode : FuncId := 36

/-- shiftbell/event.Decode -/
def wp_event_Decode (b : Option Addr) (bl : Nat) (bc : Nat) (w : World) (Q : Value → World → Prop) : Prop :=
  ∀ b0 : Nat, w.heap.size ≤ b0 → ((3001 < (bl : Int)) →
   ∀ w1, Ext w w1 →
   Q (.tuple #[(.agg #[(.int .i64 0), (.string (⟨#[]⟩ : ByteArray)), (.int .i64 0), (.int .i64 0), (.int .i64 0), (.int .i64 0), (.int .i64 0), (.string (⟨#[]⟩ : ByteArray)), (.string (⟨#[]⟩ : ByteArray)), (.int .i64 0), (.slice none 0 0), (.slice none 0 0), (.int .i64 0), (.int .i64 0), (.bool false)]), (.int .i64 2)]) w1) ∧
  (((bl : Int) ≤ 3001) →
   (((bl : Int) = 0) →
    ∀ w1, Ext w w1 →
    Q (.tuple #[(.agg #[(.int .i64 0), (.string (⟨#[]⟩ : ByteArray)), (.int .i64 0), (.int .i64 0), (.int .i64 0), (.int .i64 0), (.int .i64 0), (.string (⟨#[]⟩ : ByteArray)), (.string (⟨#[]⟩ : ByteArray)), (.int .i64 0), (.slice none 0 0), (.slice none 0 0), (.int .i64 0), (.int .i64 0), (.bool false)]), (.int .i64 3)]) w1) ∧
   (((bl : Int) ≠ 0) →
    b ≠ none ∧
    (0 : Int) ≤ 0 ∧
    (0 : Int) < (bl : Int) ∧
    ∃ t1 : Int, cell w (pIdx b 0 1) 0 = some (.int .u8 t1) ∧
    InR .i64 t1 ∧
    ∀ b2 : Nat, w.heap.size ≤ b2 → (0 : Int) ≤ 1 ∧
    (1 : Int) ≤ (bl : Int) ∧
    ((bl : Int) : Int) ≤ (bc : Int) ∧
    (0 : Int) ≤ 0 ∧
    (0 : Int) ≤ (min 4 ((((bl : Int) - 1).toNat : Nat) : Int)) ∧
    ((min 4 ((((bl : Int) - 1).toNat : Nat) : Int)) : Int) ≤ (((bc - (1 : Int).toNat) : Nat) : Int) ∧
    ∃ (I3 : Int → Int → World → Prop) (M3 : Int → Int → World → Nat), I3 0 0 w ∧
    ∀ (n4 : Int) (k5 : Int) (w6 : World), I3 n4 k5 w6 →
     (((k5 < ((((min 4 ((((bl : Int) - 1).toNat : Nat) : Int)) - 0).toNat : Nat) : Int)) →
      (pCut (pCut b bc 1 1) (bc - (1 : Int).toNat) 0 1) ≠ none ∧
      (0 : Int) ≤ k5 ∧
      (k5 : Int) < ((((min 4 ((((bl : Int) - 1).toNat : Nat) : Int)) - 0).toNat : Nat) : Int) ∧
      ∃ t7 : Int, cell w6 (pIdx (pCut (pCut b bc 1 1) (bc - (1 : Int).toNat) 0 1) k5 1) 0 = some (.int .u8 t7) ∧
      InR .i64 t7 ∧
      InR .i64 (k5 + 1) ∧
      (I3 (iBit .or .i64 (iBit .shl .i64 n4 8) t7) (k5 + 1) w6 ∧ M3 (iBit .or .i64 (iBit .shl .i64 n4 8) t7) (k5 + 1) w6 < M3 n4 k5 w6))) ∧
     ((((((min 4 ((((bl : Int) - 1).toNat : Nat) : Int)) - 0).toNat : Nat) : Int) ≤ k5) →
      (((t1 = 1) →
       ∀ w7, Ext w6 w7 →
       Run Tryd.prog (.convert 23 9 (.slice (pCut b bc 1 1) ((bl : Int) - 1).toNat (bc - (1 : Int).toNat))) w7 fun v8 w8 =>
        Ext w7 w8 ∧
        ∃ t9 : ByteArray, v8 = (.string t9) ∧
        ∀ w10, ExtB [] [b0, b2] w6 w10 →
        FnP Tryd.prog F_job_Read #[(.string t9)] w10 fun v11 w11 =>
         Ext w10 w11 ∧
         ∃ t_012 : ByteArray, ∃ t_113 : Int, ∃ t_214 : Int, ∃ t_315 : Int, ∃ t_416 : Int, ∃ t_517 : Int, ∃ t_618 : ByteArray, ∃ t_719 : ByteArray, ∃ t_820 : Int, ∃ t_921 : Option Addr, ∃ t_9l22 : Nat, ∃ t_9c23 : Nat, ∃ t_1024 : Option Addr, ∃ t_10l25 : Nat, ∃ t_10c26 : Nat, ∃ t27 : Int, v11 = (.tuple #[(.agg #[(.string t_012), (.int .i64 t_113), (.int .i64 t_214), (.int .i64 t_315), (.int .i64 t_416), (.int .i64 t_517), (.string t_618), (.string t_719), (.int .i64 t_820), (.slice t_921 t_9l22 t_9c23), (.slice t_1024 t_10l25 t_10c26)]), (.int .i64 t27)]) ∧
         ∀ b28 : Nat, w11.heap.size ≤ b28 → ((t27 ≠ 0) →
          ∀ w29, ExtB [b0] [] w11 w29 →
          Q (.tuple #[(.agg #[(.int .i64 0), (.string (⟨#[]⟩ : ByteArray)), (.int .i64 0), (.int .i64 0), (.int .i64 0), (.int .i64 0), (.int .i64 0), (.string (⟨#[]⟩ : ByteArray)), (.string (⟨#[]⟩ : ByteArray)), (.int .i64 0), (.slice none 0 0), (.slice none 0 0), (.int .i64 0), (.int .i64 0), (.bool false)]), (.int .i64 3)]) w29) ∧
         ((t27 = 0) →
          ∀ w29, ExtB [b2] [b0, b2, b28] w11 w29 →
          FnP Tryd.prog F_event_Encode #[(.agg #[(.int .i64 t1), (.string t_012), (.int .i64 t_113), (.int .i64 t_214), (.int .i64 t_315), (.int .i64 t_416), (.int .i64 t_517), (.string t_618), (.string t_719), (.int .i64 t_820), (.slice t_921 t_9l22 t_9c23), (.slice t_1024 t_10l25 t_10c26), (.int .i64 0), (.int .i64 0), (.bool false)])] w29 fun v30 w30 =>
           Ext w29 w30 ∧
           ∃ t31 : Option Addr, ∃ tl32 : Nat, ∃ tc33 : Nat, ∃ t34 : Int, v30 = (.tuple #[(.slice t31 tl32 tc33), (.int .i64 t34)]) ∧
           ((t34 ≠ 0) →
            ∀ w35, ExtB [b0] [] w30 w35 →
            Q (.tuple #[(.agg #[(.int .i64 0), (.string (⟨#[]⟩ : ByteArray)), (.int .i64 0), (.int .i64 0), (.int .i64 0), (.int .i64 0), (.int .i64 0), (.string (⟨#[]⟩ : ByteArray)), (.string (⟨#[]⟩ : ByteArray)), (.int .i64 0), (.slice none 0 0), (.slice none 0 0), (.int .i64 0), (.int .i64 0), (.bool false)]), (.int .i64 3)]) w35) ∧
           ((t34 = 0) →
            ∀ w35, Ext w30 w35 →
            FnP Tryd.prog F_bytes_Equal #[(.slice t31 tl32 tc33), (.slice b bl bc)] w35 fun v36 w36 =>
             Ext w35 w36 ∧
             ∃ t37 : Bool, v36 = (.bool t37) ∧
             ((t37 = false) →
              ∀ w38, ExtB [b0] [] w30 w38 →
              Q (.tuple #[(.agg #[(.int .i64 0), (.string (⟨#[]⟩ : ByteArray)), (.int .i64 0), (.int .i64 0), (.int .i64 0), (.int .i64 0), (.int .i64 0), (.string (⟨#[]⟩ : ByteArray)), (.string (⟨#[]⟩ : ByteArray)), (.int .i64 0), (.slice none 0 0), (.slice none 0 0), (.int .i64 0), (.int .i64 0), (.bool false)]), (.int .i64 3)]) w38) ∧
             ((t37 = true) →
              ∀ w38, ExtB [b0] [] w30 w38 →
              Q (.tuple #[(.agg #[(.int .i64 t1), (.string t_012), (.int .i64 t_113), (.int .i64 t_214), (.int .i64 t_315), (.int .i64 t_416), (.int .i64 t_517), (.string t_618), (.string t_719), (.int .i64 t_820), (.slice t_921 t_9l22 t_9c23), (.slice t_1024 t_10l25 t_10c26), (.int .i64 0), (.int .i64 0), (.bool false)]), (.int .i64 0)]) w38))))) ∧
      ((t1 ≠ 1) →
       (((t1 = 2) →
        ∀ w7, ExtB [b2] [b0, b2] w6 w7 →
        FnP Tryd.prog F_event_Encode #[(.agg #[(.int .i64 t1), (.string (⟨#[]⟩ : ByteArray)), (.int .i64 0), (.int .i64 0), (.int .i64 0), (.int .i64 0), (.int .i64 0), (.string (⟨#[]⟩ : ByteArray)), (.string (⟨#[]⟩ : ByteArray)), (.int .i64 0), (.slice none 0 0), (.slice none 0 0), (.int .i64 n4), (.int .i64 0), (.bool false)])] w7 fun v8 w8 =>
         Ext w7 w8 ∧
         ∃ t9 : Option Addr, ∃ tl10 : Nat, ∃ tc11 : Nat, ∃ t12 : Int, v8 = (.tuple #[(.slice t9 tl10 tc11), (.int .i64 t12)]) ∧
         ((t12 ≠ 0) →
          ∀ w13, ExtB [b0] [] w8 w13 →
          Q (.tuple #[(.agg #[(.int .i64 0), (.string (⟨#[]⟩ : ByteArray)), (.int .i64 0), (.int .i64 0), (.int .i64 0), (.int .i64 0), (.int .i64 0), (.string (⟨#[]⟩ : ByteArray)), (.string (⟨#[]⟩ : ByteArray)), (.int .i64 0), (.slice none 0 0), (.slice none 0 0), (.int .i64 0), (.int .i64 0), (.bool false)]), (.int .i64 3)]) w13) ∧
         ((t12 = 0) →
          ∀ w13, Ext w8 w13 →
          FnP Tryd.prog F_bytes_Equal #[(.slice t9 tl10 tc11), (.slice b bl bc)] w13 fun v14 w14 =>
           Ext w13 w14 ∧
           ∃ t15 : Bool, v14 = (.bool t15) ∧
           ((t15 = false) →
            ∀ w16, ExtB [b0] [] w8 w16 →
            Q (.tuple #[(.agg #[(.int .i64 0), (.string (⟨#[]⟩ : ByteArray)), (.int .i64 0), (.int .i64 0), (.int .i64 0), (.int .i64 0), (.int .i64 0), (.string (⟨#[]⟩ : ByteArray)), (.string (⟨#[]⟩ : ByteArray)), (.int .i64 0), (.slice none 0 0), (.slice none 0 0), (.int .i64 0), (.int .i64 0), (.bool false)]), (.int .i64 3)]) w16) ∧
           ((t15 = true) →
            ∀ w16, ExtB [b0] [] w8 w16 →
            Q (.tuple #[(.agg #[(.int .i64 t1), (.string (⟨#[]⟩ : ByteArray)), (.int .i64 0), (.int .i64 0), (.int .i64 0), (.int .i64 0), (.int .i64 0), (.string (⟨#[]⟩ : ByteArray)), (.string (⟨#[]⟩ : ByteArray)), (.int .i64 0), (.slice none 0 0), (.slice none 0 0), (.int .i64 n4), (.int .i64 0), (.bool false)]), (.int .i64 0)]) w16)))) ∧
       ((t1 ≠ 2) →
        ((((t1 = 4) ∧ (((((bl : Int) - 1).toNat : Nat) : Int) = 3)) →
         ∀ w7, ExtB [b2] [b0, b2] w6 w7 →
         FnP Tryd.prog F_event_Encode #[(.agg #[(.int .i64 t1), (.string (⟨#[]⟩ : ByteArray)), (.int .i64 0), (.int .i64 0), (.int .i64 0), (.int .i64 0), (.int .i64 0), (.string (⟨#[]⟩ : ByteArray)), (.string (⟨#[]⟩ : ByteArray)), (.int .i64 0), (.slice none 0 0), (.slice none 0 0), (.int .i64 0), (.int .i64 (iBit .shr .i64 n4 8)), (.bool (decide ((iBit .and .i64 n4 255) = 1)))])] w7 fun v8 w8 =>
          Ext w7 w8 ∧
          ∃ t9 : Option Addr, ∃ tl10 : Nat, ∃ tc11 : Nat, ∃ t12 : Int, v8 = (.tuple #[(.slice t9 tl10 tc11), (.int .i64 t12)]) ∧
          ((t12 ≠ 0) →
           ∀ w13, ExtB [b0] [] w8 w13 →
           Q (.tuple #[(.agg #[(.int .i64 0), (.string (⟨#[]⟩ : ByteArray)), (.int .i64 0), (.int .i64 0), (.int .i64 0), (.int .i64 0), (.int .i64 0), (.string (⟨#[]⟩ : ByteArray)), (.string (⟨#[]⟩ : ByteArray)), (.int .i64 0), (.slice none 0 0), (.slice none 0 0), (.int .i64 0), (.int .i64 0), (.bool false)]), (.int .i64 3)]) w13) ∧
          ((t12 = 0) →
           ∀ w13, Ext w8 w13 →
           FnP Tryd.prog F_bytes_Equal #[(.slice t9 tl10 tc11), (.slice b bl bc)] w13 fun v14 w14 =>
            Ext w13 w14 ∧
            ∃ t15 : Bool, v14 = (.bool t15) ∧
            ((t15 = false) →
             ∀ w16, ExtB [b0] [] w8 w16 →
             Q (.tuple #[(.agg #[(.int .i64 0), (.string (⟨#[]⟩ : ByteArray)), (.int .i64 0), (.int .i64 0), (.int .i64 0), (.int .i64 0), (.int .i64 0), (.string (⟨#[]⟩ : ByteArray)), (.string (⟨#[]⟩ : ByteArray)), (.int .i64 0), (.slice none 0 0), (.slice none 0 0), (.int .i64 0), (.int .i64 0), (.bool false)]), (.int .i64 3)]) w16) ∧
            ((t15 = true) →
             ∀ w16, ExtB [b0] [] w8 w16 →
             Q (.tuple #[(.agg #[(.int .i64 t1), (.string (⟨#[]⟩ : ByteArray)), (.int .i64 0), (.int .i64 0), (.int .i64 0), (.int .i64 0), (.int .i64 0), (.string (⟨#[]⟩ : ByteArray)), (.string (⟨#[]⟩ : ByteArray)), (.int .i64 0), (.slice none 0 0), (.slice none 0 0), (.int .i64 0), (.int .i64 (iBit .shr .i64 n4 8)), (.bool (decide ((iBit .and .i64 n4 255) = 1)))]), (.int .i64 0)]) w16)))) ∧
        (((t1 ≠ 4) ∨ (((((bl : Int) - 1).toNat : Nat) : Int) ≠ 3)) →
         (((t1 = 5) →
          ∀ w7, ExtB [b2] [b0, b2] w6 w7 →
          FnP Tryd.prog F_event_Encode #[(.agg #[(.int .i64 t1), (.string (⟨#[]⟩ : ByteArray)), (.int .i64 0), (.int .i64 0), (.int .i64 0), (.int .i64 0), (.int .i64 0), (.string (⟨#[]⟩ : ByteArray)), (.string (⟨#[]⟩ : ByteArray)), (.int .i64 0), (.slice none 0 0), (.slice none 0 0), (.int .i64 0), (.int .i64 n4), (.bool false)])] w7 fun v8 w8 =>
           Ext w7 w8 ∧
           ∃ t9 : Option Addr, ∃ tl10 : Nat, ∃ tc11 : Nat, ∃ t12 : Int, v8 = (.tuple #[(.slice t9 tl10 tc11), (.int .i64 t12)]) ∧
           ((t12 ≠ 0) →
            ∀ w13, ExtB [b0] [] w8 w13 →
            Q (.tuple #[(.agg #[(.int .i64 0), (.string (⟨#[]⟩ : ByteArray)), (.int .i64 0), (.int .i64 0), (.int .i64 0), (.int .i64 0), (.int .i64 0), (.string (⟨#[]⟩ : ByteArray)), (.string (⟨#[]⟩ : ByteArray)), (.int .i64 0), (.slice none 0 0), (.slice none 0 0), (.int .i64 0), (.int .i64 0), (.bool false)]), (.int .i64 3)]) w13) ∧
           ((t12 = 0) →
            ∀ w13, Ext w8 w13 →
            FnP Tryd.prog F_bytes_Equal #[(.slice t9 tl10 tc11), (.slice b bl bc)] w13 fun v14 w14 =>
             Ext w13 w14 ∧
             ∃ t15 : Bool, v14 = (.bool t15) ∧
             ((t15 = false) →
              ∀ w16, ExtB [b0] [] w8 w16 →
              Q (.tuple #[(.agg #[(.int .i64 0), (.string (⟨#[]⟩ : ByteArray)), (.int .i64 0), (.int .i64 0), (.int .i64 0), (.int .i64 0), (.int .i64 0), (.string (⟨#[]⟩ : ByteArray)), (.string (⟨#[]⟩ : ByteArray)), (.int .i64 0), (.slice none 0 0), (.slice none 0 0), (.int .i64 0), (.int .i64 0), (.bool false)]), (.int .i64 3)]) w16) ∧
             ((t15 = true) →
              ∀ w16, ExtB [b0] [] w8 w16 →
              Q (.tuple #[(.agg #[(.int .i64 t1), (.string (⟨#[]⟩ : ByteArray)), (.int .i64 0), (.int .i64 0), (.int .i64 0), (.int .i64 0), (.int .i64 0), (.string (⟨#[]⟩ : ByteArray)), (.string (⟨#[]⟩ : ByteArray)), (.int .i64 0), (.slice none 0 0), (.slice none 0 0), (.int .i64 0), (.int .i64 n4), (.bool false)]), (.int .i64 0)]) w16)))) ∧
         ((t1 ≠ 5) →
          ∀ w7, ExtB [] [b0, b2] w6 w7 →
          FnP Tryd.prog F_event_Encode #[(.agg #[(.int .i64 t1), (.string (⟨#[]⟩ : ByteArray)), (.int .i64 0), (.int .i64 0), (.int .i64 0), (.int .i64 0), (.int .i64 0), (.string (⟨#[]⟩ : ByteArray)), (.string (⟨#[]⟩ : ByteArray)), (.int .i64 0), (.slice none 0 0), (.slice none 0 0), (.int .i64 0), (.int .i64 0), (.bool false)])] w7 fun v8 w8 =>
           Ext w7 w8 ∧
           ∃ t9 : Option Addr, ∃ tl10 : Nat, ∃ tc11 : Nat, ∃ t12 : Int, v8 = (.tuple #[(.slice t9 tl10 tc11), (.int .i64 t12)]) ∧
           ((t12 ≠ 0) →
            ∀ w13, ExtB [b0] [] w8 w13 →
            Q (.tuple #[(.agg #[(.int .i64 0), (.string (⟨#[]⟩ : ByteArray)), (.int .i64 0), (.int .i64 0), (.int .i64 0), (.int .i64 0), (.int .i64 0), (.string (⟨#[]⟩ : ByteArray)), (.string (⟨#[]⟩ : ByteArray)), (.int .i64 0), (.slice none 0 0), (.slice none 0 0), (.int .i64 0), (.int .i64 0), (.bool false)]), (.int .i64 3)]) w13) ∧
           ((t12 = 0) →
            ∀ w13, Ext w8 w13 →
            FnP Tryd.prog F_bytes_Equal #[(.slice t9 tl10 tc11), (.slice b bl bc)] w13 fun v14 w14 =>
             Ext w13 w14 ∧
             ∃ t15 : Bool, v14 = (.bool t15) ∧
             ((t15 = false) →
              ∀ w16, ExtB [b0] [] w8 w16 →
              Q (.tuple #[(.agg #[(.int .i64 0), (.string (⟨#[]⟩ : ByteArray)), (.int .i64 0), (.int .i64 0), (.int .i64 0), (.int .i64 0), (.int .i64 0), (.string (⟨#[]⟩ : ByteArray)), (.string (⟨#[]⟩ : ByteArray)), (.int .i64 0), (.slice none 0 0), (.slice none 0 0), (.int .i64 0), (.int .i64 0), (.bool false)]), (.int .i64 3)]) w16) ∧
             ((t15 = true) →
              ∀ w16, ExtB [b0] [] w8 w16 →
              Q (.tuple #[(.agg #[(.int .i64 t1), (.string (⟨#[]⟩ : ByteArray)), (.int .i64 0), (.int .i64 0), (.int .i64 0), (.int .i64 0), (.int .i64 0), (.string (⟨#[]⟩ : ByteArray)), (.string (⟨#[]⟩ : ByteArray)), (.int .i64 0), (.slice none 0 0), (.slice none 0 0), (.int .i64 0), (.int .i64 0), (.bool false)]), (.int .i64 0)]) w16)))))))))

theorem ok_event_Decode (b : Option Addr) (bl : Nat) (bc : Nat) (w : World) (Q : Value → World → Prop) (h : wp_event_Decode b bl bc w Q) : FnP Tryd.prog F_event_Decode #[(.slice b bl bc)] w Q := by
  have e_ : wp_event_Decode b bl bc w Q = Runs Tryd.prog Q ({ N := 104, wrap := [], pub := [], muts := [], joins := [] } : Cfg) Tryd.f36 (Tryd.f36.body.getD .skip) [.sc (.slc b bl bc)] w := by kernel_rfl
  rw [e_] at h
  exact runs_fn h Tryd.func36 (by kernel_rfl) (fun args w => Tryd.call36 args w) (by kernel_rfl) (by kernel_rfl) rfl rfl

/-- shiftbell/journal.Cut -/
def wp_journal_Cut (b : Option Addr) (bl : Nat) (bc : Nat) (w : World) (Q : Value → World → Prop) : Prop :=
  ∃ (I0 : Option Addr → Nat → Nat → Int → World → Prop) (M0 : Option Addr → Nat → Nat → Int → World → Nat), I0 none 0 0 0 w ∧
  ∀ (out1 : Option Addr) (outl1 : Nat) (outc1 : Nat) (at2 : Int) (w3 : World), I0 out1 outl1 outc1 at2 w3 →
   (0 : Int) ≤ at2 ∧
   (at2 : Int) ≤ (bl : Int) ∧
   ((bl : Int) : Int) ≤ (bc : Int) ∧
   ((((((bl : Int) - at2).toNat : Nat) : Int) < 2) →
    ∀ w4, Ext w3 w4 →
    Q (.tuple #[(.slice out1 outl1 outc1), (.int .i64 at2)]) w4) ∧
   ((2 ≤ ((((bl : Int) - at2).toNat : Nat) : Int)) →
    (pCut b bc at2 1) ≠ none ∧
    (0 : Int) ≤ 0 ∧
    (0 : Int) < ((((bl : Int) - at2).toNat : Nat) : Int) ∧
    ∃ t4 : Int, cell w3 (pIdx (pCut b bc at2 1) 0 1) 0 = some (.int .u8 t4) ∧
    InR .i64 t4 ∧
    (pCut b bc at2 1) ≠ none ∧
    (0 : Int) ≤ 1 ∧
    (1 : Int) < ((((bl : Int) - at2).toNat : Nat) : Int) ∧
    ∃ t5 : Int, cell w3 (pIdx (pCut b bc at2 1) 1 1) 0 = some (.int .u8 t5) ∧
    InR .i64 t5 ∧
    InR .i64 ((iBit .shl .i64 t4 8) + t5) ∧
    InR .i64 (((iBit .shl .i64 t4 8) + t5) + 10) ∧
    ((((((bl : Int) - at2).toNat : Nat) : Int) < (((iBit .shl .i64 t4 8) + t5) + 10)) →
     ∀ w6, Ext w3 w6 →
     Q (.tuple #[(.slice out1 outl1 outc1), (.int .i64 at2)]) w6) ∧
    (((((iBit .shl .i64 t4 8) + t5) + 10) ≤ ((((bl : Int) - at2).toNat : Nat) : Int)) →
     InR .i64 (((iBit .shl .i64 t4 8) + t5) + 2) ∧
     (0 : Int) ≤ 2 ∧
     (2 : Int) ≤ (((iBit .shl .i64 t4 8) + t5) + 2) ∧
     ((((iBit .shl .i64 t4 8) + t5) + 2) : Int) ≤ (((bc - at2.toNat) : Nat) : Int) ∧
     ∀ w6, Ext w3 w6 →
     FnP Tryd.prog F_event_Decode #[(.slice (pCut (pCut b bc at2 1) (bc - at2.toNat) 2 1) ((((iBit .shl .i64 t4 8) + t5) + 2) - 2).toNat ((bc - at2.toNat) - (2 : Int).toNat))] w6 fun v7 w7 =>
      Ext w6 w7 ∧
      ∃ t_08 : Int, ∃ t_19 : ByteArray, ∃ t_210 : Int, ∃ t_311 : Int, ∃ t_412 : Int, ∃ t_513 : Int, ∃ t_614 : Int, ∃ t_715 : ByteArray, ∃ t_816 : ByteArray, ∃ t_917 : Int, ∃ t_1018 : Option Addr, ∃ t_10l19 : Nat, ∃ t_10c20 : Nat, ∃ t_1121 : Option Addr, ∃ t_11l22 : Nat, ∃ t_11c23 : Nat, ∃ t_1224 : Int, ∃ t_1325 : Int, ∃ t_1426 : Bool, ∃ t27 : Int, v7 = (.tuple #[(.agg #[(.int .i64 t_08), (.string t_19), (.int .i64 t_210), (.int .i64 t_311), (.int .i64 t_412), (.int .i64 t_513), (.int .i64 t_614), (.string t_715), (.string t_816), (.int .i64 t_917), (.slice t_1018 t_10l19 t_10c20), (.slice t_1121 t_11l22 t_11c23), (.int .i64 t_1224), (.int .i64 t_1325), (.bool t_1426)]), (.int .i64 t27)]) ∧
      ∀ b28 : Nat, w7.heap.size ≤ b28 → ∀ w29, ExtB [] [b28] w7 w29 →
      FnP Tryd.prog F_journal_Frame #[(.agg #[(.int .i64 t_08), (.string t_19), (.int .i64 t_210), (.int .i64 t_311), (.int .i64 t_412), (.int .i64 t_513), (.int .i64 t_614), (.string t_715), (.string t_816), (.int .i64 t_917), (.slice t_1018 t_10l19 t_10c20), (.slice t_1121 t_11l22 t_11c23), (.int .i64 t_1224), (.int .i64 t_1325), (.bool t_1426)])] w29 fun v30 w30 =>
       Ext w29 w30 ∧
       ∃ t31 : Option Addr, ∃ tl32 : Nat, ∃ tc33 : Nat, ∃ t34 : Int, v30 = (.tuple #[(.slice t31 tl32 tc33), (.int .i64 t34)]) ∧
       ((((t27 = 0) ∧ (t34 = 0)) →
        InR .i64 (((iBit .shl .i64 t4 8) + t5) + 10))) ∧
       ((((t27 = 0) ∧ (t34 = 0)) →
        (0 : Int) ≤ 0)) ∧
       ((((t27 = 0) ∧ (t34 = 0)) →
        (0 : Int) ≤ (((iBit .shl .i64 t4 8) + t5) + 10))) ∧
       ((((t27 = 0) ∧ (t34 = 0)) →
        ((((iBit .shl .i64 t4 8) + t5) + 10) : Int) ≤ (((bc - at2.toNat) : Nat) : Int))) ∧
       (((t27 ≠ 0) ∨ (t34 ≠ 0)) →
        ∀ w35, Ext w30 w35 →
        Q (.tuple #[(.slice out1 outl1 outc1), (.int .i64 at2)]) w35) ∧
       (((t27 = 0) ∧ (t34 = 0)) →
        ∀ w35, Ext w30 w35 →
        FnP Tryd.prog F_bytes_Equal #[(.slice t31 tl32 tc33), (.slice (pCut (pCut b bc at2 1) (bc - at2.toNat) 0 1) ((((iBit .shl .i64 t4 8) + t5) + 10) - 0).toNat ((bc - at2.toNat) - (0 : Int).toNat))] w35 fun v36 w36 =>
         Ext w35 w36 ∧
         ∃ t37 : Bool, v36 = (.bool t37) ∧
         ((t37 = false) →
          ∀ w38, Ext w30 w38 →
          Q (.tuple #[(.slice out1 outl1 outc1), (.int .i64 at2)]) w38) ∧
         ((t37 = true) →
          ∀ w38, ExtB [] [b28] w30 w38 →
          Run Tryd.prog (.buildSlice 48 1 [(0, (.agg #[(.int .i64 t_08), (.string t_19), (.int .i64 t_210), (.int .i64 t_311), (.int .i64 t_412), (.int .i64 t_513), (.int .i64 t_614), (.string t_715), (.string t_816), (.int .i64 t_917), (.slice t_1018 t_10l19 t_10c20), (.slice t_1121 t_11l22 t_11c23), (.int .i64 t_1224), (.int .i64 t_1325), (.bool t_1426)]))]) w38 fun v39 w39 =>
           Ext w38 w39 ∧
           ∃ t40 : Option Addr, ∃ tl41 : Nat, ∃ tc42 : Nat, v39 = (.slice t40 tl41 tc42) ∧
           ∀ w43, ExtB [] [b28] w39 w43 →
           Run Tryd.prog (.append #[48, 48] 48 [(.slice out1 outl1 outc1), (.slice t40 tl41 tc42)]) w43 fun v44 w44 =>
            Kept [b28] w43 w44 ∧
            ∃ t45 : Option Addr, ∃ tl46 : Nat, ∃ tc47 : Nat, v44 = (.slice t45 tl46 tc47) ∧
            InR .i64 (((iBit .shl .i64 t4 8) + t5) + 10) ∧
            InR .i64 (at2 + (((iBit .shl .i64 t4 8) + t5) + 10)) ∧
            (I0 t45 tl46 tc47 (at2 + (((iBit .shl .i64 t4 8) + t5) + 10)) w44 ∧ M0 t45 tl46 tc47 (at2 + (((iBit .shl .i64 t4 8) + t5) + 10)) w44 < M0 out1 outl1 outc1 at2 w3)))))

theorem ok_journal_Cut (b : Option Addr) (bl : Nat) (bc : Nat) (w : World) (Q : Value → World → Prop) (h : wp_journal_Cut b bl bc w Q) : FnP Tryd.prog F_journal_Cut #[(.slice b bl bc)] w Q := by
  have e_ : wp_journal_Cut b bl bc w Q = Runs Tryd.prog Q ({ N := 75, wrap := [], pub := [], muts := [], joins := [] } : Cfg) Tryd.f18 (Tryd.f18.body.getD .skip) [.sc (.slc b bl bc)] w := by kernel_rfl
  rw [e_] at h
  exact runs_fn h Tryd.func18 (by kernel_rfl) (fun args w => Tryd.call18 args w) (by kernel_rfl) (by kernel_rfl) rfl rfl

/-- shiftbell/shiftbellkeep.JournalOne -/
def wp_shiftbellkeep_JournalOne (b : Option Addr) (bl : Nat) (bc : Nat) (w : World) (Q : Value → World → Prop) : Prop :=
  ∀ w0, Ext w w0 →
  FnP Tryd.prog F_shiftbellkeep_journals #[] w0 fun v1 w1 =>
   Ext w0 w1 ∧
   ∃ t2 : Bool, v1 = (.bool t2) ∧
   ((t2 = false) →
    ∀ w3, Ext w w3 →
    Q (.bool false) w3) ∧
   ((t2 = true) →
    ∀ w3, Ext w w3 →
    FnP Tryd.prog F_journal_Cut #[(.slice b bl bc)] w3 fun v4 w4 =>
     Ext w3 w4 ∧
     ∃ t5 : Option Addr, ∃ tl6 : Nat, ∃ tc7 : Nat, ∃ t8 : Int, v4 = (.tuple #[(.slice t5 tl6 tc7), (.int .i64 t8)]) ∧
     (((t8 < 0) ∨ ((bl : Int) < t8)) →
      ∀ w9, Ext w4 w9 →
      Q (.bool false) w9) ∧
     (((0 ≤ t8) ∧ (t8 ≤ (bl : Int))) →
      ∃ (I9 : Option Addr → Nat → Nat → Int → World → Prop) (M9 : Option Addr → Nat → Nat → Int → World → Nat), I9 none 0 0 0 w4 ∧
      ∀ (all10 : Option Addr) (alll10 : Nat) (allc10 : Nat) (k11 : Int) (w12 : World), I9 all10 alll10 allc10 k11 w12 →
       (((k11 < (tl6 : Int)) →
        t5 ≠ none ∧
        (0 : Int) ≤ k11 ∧
        (k11 : Int) < (tl6 : Int) ∧
        (pIdx t5 k11 15) ≠ none ∧
        ∃ t13 : Int, cell w12 (pIdx t5 k11 15) 0 = some (.int .i64 t13) ∧
        ∃ t14 : ByteArray, cell w12 (pIdx t5 k11 15) 1 = some (.string t14) ∧
        ∃ t15 : Int, cell w12 (pIdx t5 k11 15) 2 = some (.int .i64 t15) ∧
        ∃ t16 : Int, cell w12 (pIdx t5 k11 15) 3 = some (.int .i64 t16) ∧
        ∃ t17 : Int, cell w12 (pIdx t5 k11 15) 4 = some (.int .i64 t17) ∧
        ∃ t18 : Int, cell w12 (pIdx t5 k11 15) 5 = some (.int .i64 t18) ∧
        ∃ t19 : Int, cell w12 (pIdx t5 k11 15) 6 = some (.int .i64 t19) ∧
        ∃ t20 : ByteArray, cell w12 (pIdx t5 k11 15) 7 = some (.string t20) ∧
        ∃ t21 : ByteArray, cell w12 (pIdx t5 k11 15) 8 = some (.string t21) ∧
        ∃ t22 : Int, cell w12 (pIdx t5 k11 15) 9 = some (.int .i64 t22) ∧
        ∃ t23 : Option Addr, ∃ tl24 : Nat, ∃ tc25 : Nat, cell w12 (pIdx t5 k11 15) 10 = some (.slice t23 tl24 tc25) ∧
        ∃ t26 : Option Addr, ∃ tl27 : Nat, ∃ tc28 : Nat, cell w12 (pIdx t5 k11 15) 11 = some (.slice t26 tl27 tc28) ∧
        ∃ t29 : Int, cell w12 (pIdx t5 k11 15) 12 = some (.int .i64 t29) ∧
        ∃ t30 : Int, cell w12 (pIdx t5 k11 15) 13 = some (.int .i64 t30) ∧
        ∃ t31 : Bool, cell w12 (pIdx t5 k11 15) 14 = some (.bool t31) ∧
        ∀ b32 : Nat, w12.heap.size ≤ b32 → ∀ w33, ExtB [] [b32] w12 w33 →
        FnP Tryd.prog F_journal_Frame #[(.agg #[(.int .i64 t13), (.string t14), (.int .i64 t15), (.int .i64 t16), (.int .i64 t17), (.int .i64 t18), (.int .i64 t19), (.string t20), (.string t21), (.int .i64 t22), (.slice t23 tl24 tc25), (.slice t26 tl27 tc28), (.int .i64 t29), (.int .i64 t30), (.bool t31)])] w33 fun v34 w34 =>
         Ext w33 w34 ∧
         ∃ t35 : Option Addr, ∃ tl36 : Nat, ∃ tc37 : Nat, ∃ t38 : Int, v34 = (.tuple #[(.slice t35 tl36 tc37), (.int .i64 t38)]) ∧
         ((t38 ≠ 0) →
          ∀ w39, Ext w34 w39 →
          Q (.bool false) w39) ∧
         ((t38 = 0) →
          ∀ w39, ExtB [] [b32] w34 w39 →
          Run Tryd.prog (.append #[23, 23] 23 [(.slice all10 alll10 allc10), (.slice t35 tl36 tc37)]) w39 fun v40 w40 =>
           Kept [b32] w39 w40 ∧
           ∃ t41 : Option Addr, ∃ tl42 : Nat, ∃ tc43 : Nat, v40 = (.slice t41 tl42 tc43) ∧
           InR .i64 (k11 + 1) ∧
           (I9 t41 tl42 tc43 (k11 + 1) w40 ∧ M9 t41 tl42 tc43 (k11 + 1) w40 < M9 all10 alll10 allc10 k11 w12)))) ∧
       (((tl6 : Int) ≤ k11) →
        (0 : Int) ≤ 0 ∧
        (0 : Int) ≤ t8 ∧
        (t8 : Int) ≤ (bc : Int) ∧
        ∀ w13, Ext w12 w13 →
        FnP Tryd.prog F_bytes_Equal #[(.slice all10 alll10 allc10), (.slice (pCut b bc 0 1) (t8 - 0).toNat (bc - (0 : Int).toNat))] w13 fun v14 w14 =>
         Ext w13 w14 ∧
         ∃ t15 : Bool, v14 = (.bool t15) ∧
         ∀ w16, Ext w12 w16 →
         Q (.bool t15) w16)))

theorem ok_shiftbellkeep_JournalOne (b : Option Addr) (bl : Nat) (bc : Nat) (w : World) (Q : Value → World → Prop) (h : wp_shiftbellkeep_JournalOne b bl bc w Q) : FnP Tryd.prog F_shiftbellkeep_JournalOne #[(.slice b bl bc)] w Q := by
  have e_ : wp_shiftbellkeep_JournalOne b bl bc w Q = Runs Tryd.prog Q ({ N := 47, wrap := [], pub := [], muts := [], joins := [] } : Cfg) Tryd.f5 (Tryd.f5.body.getD .skip) [.sc (.slc b bl bc)] w := by kernel_rfl
  rw [e_] at h
  exact runs_fn h Tryd.func5 (by kernel_rfl) (fun args w => Tryd.call5 args w) (by kernel_rfl) (by kernel_rfl) rfl rfl

theorem open_shiftbellkeep_JournalOne (W : World) (R : Array Value → Prop) (h : ∀ b : Option Addr, ∀ bl : Nat, ∀ bc : Nat, SlcArg Tryd.prog W 5 b bl bc → R #[(.slice b bl bc)]) (args : Array Value) (hg : GoodAll Tryd.prog W Tryd.f5.params.toList args.toList) : R args := by
  have e_ : (ArgsAll Tryd.prog W Tryd.f5.params.toList fun l => R l.toArray) = (∀ b : Option Addr, ∀ bl : Nat, ∀ bc : Nat, SlcArg Tryd.prog W 5 b bl bc → R #[(.slice b bl bc)]) := by kernel_rfl
  exact args_open (by rw [e_]; exact h) args hg
-- wit 5 #[(.slice none 0 0)]

end Go.Proofs.YtenppnomdejmlaaDoor
