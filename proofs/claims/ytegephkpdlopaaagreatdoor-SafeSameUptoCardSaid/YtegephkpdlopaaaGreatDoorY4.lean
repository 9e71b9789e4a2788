/- The framework, the program's texts and what is shown of them: part 4. -/
import Derived.Test.YtegephkpdlopaaaGreatDoorY3
import Derived.Test.YtegephkpdlopaaaGreatDoorRows
set_option linter.unusedVariables false
set_option linter.unusedSimpArgs false
set_option maxRecDepth 100000
namespace Go.Proofs.YtegephkpdlopaaaGreatDoor
open Go.Sx Go.RowKit
abbrev F_ask_Read:FuncId:=109
abbrev F_ask_reader_ask:FuncId:=130
abbrev F_ask_reader_two:FuncId:=151
def wp_ask_reader_ask (r:Option Addr) (w:World) (Q:Value->World->Prop):Prop :=
 ∀ b0:Nat,w.heap.size <= b0->r ≠ none /\
 r ≠ none /\
 ∃ t1:Int,cell w (pAdd r 1) 0 = some (.int .i64 t1) /\
 ((t1 = 0) ->
 ∀ w2,Ext w w2 ->
 Q (.tuple #[(.agg #[(.int .i64 0),(.string (⟨#[]⟩:ByteArray)),(.string (⟨#[]⟩:ByteArray)),(.int .i64 0),(.slice none 0 0)]),(.bool false)]) w2) /\
 ((t1 ≠ 0) ->
 r ≠ none /\
 r ≠ none /\
 ∃ t2:Int,cell w (pAdd r 1) 0 = some (.int .i64 t2) /\
 InR .i64 (t2 - 1) /\
 r ≠ none /\
 r ≠ none /\
 Store w (pAdd r 1) [(.int .i64 (t2 - 1))] [b0] fun w3 =>
 ∀ w4,ExtB [] [b0] w3 w4 ->
 FnP Tryz.prog F_ask_reader_take #[(.pointer r),(.int .u8 63)] w4 fun v5 w5 =>
 Kept [b0] w4 w5 /\
 ∃ t6:Bool,v5 = (.bool t6) /\
 (((t6 = true) ->
 ∀ w7,ExtB [] [b0] w5 w7 ->
 FnP Tryz.prog F_ask_reader_word #[(.pointer r)] w7 fun v8 w8 =>
 Kept [b0] w7 w8 /\
 ∃ t9:ByteArray,v8 = (.string t9) /\
 ∀ w10,ExtB [b0] [] w8 w10 ->
 Q (.tuple #[(.agg #[(.int .i64 1),(.string t9),(.string (⟨#[]⟩:ByteArray)),(.int .i64 0),(.slice none 0 0)]),(.bool true)]) w10)) /\
 ((t6 = false) ->
 ∀ w7,ExtB [] [b0] w5 w7 ->
 FnP Tryz.prog F_ask_reader_take #[(.pointer r),(.int .u8 33)] w7 fun v8 w8 =>
 Kept [b0] w7 w8 /\
 ∃ t9:Bool,v8 = (.bool t9) /\
 (((t9 = true) ->
 ∀ w10,ExtB [] [b0] w8 w10 ->
 FnP Tryz.prog F_ask_reader_ask #[(.pointer r)] w10 fun v11 w11 =>
 Kept [b0] w10 w11 /\
 ∃ t_012:Int,∃ t_113:ByteArray,∃ t_214:ByteArray,∃ t_315:Int,∃ t_416:Option Addr,∃ t_4l17:Nat,∃ t_4c18:Nat,∃ t19:Bool,v11 = (.tuple #[(.agg #[(.int .i64 t_012),(.string t_113),(.string t_214),(.int .i64 t_315),(.slice t_416 t_4l17 t_4c18)]),(.bool t19)]) /\
 ∀ b20:Nat,w11.heap.size <= b20->∀ w21,ExtB [] [b0,b20] w11 w21 ->
 Run Tryz.prog (.buildSlice 35 1 [(0,(.agg #[(.int .i64 t_012),(.string t_113),(.string t_214),(.int .i64 t_315),(.slice t_416 t_4l17 t_4c18)]))]) w21 fun v22 w22 =>
 Ext w21 w22 /\
 ∃ t23:Option Addr,∃ tl24:Nat,∃ tc25:Nat,v22 = (.slice t23 tl24 tc25) /\
 ∀ w26,ExtB [b0] [] w22 w26 ->
 Q (.tuple #[(.agg #[(.int .i64 4),(.string (⟨#[]⟩:ByteArray)),(.string (⟨#[]⟩:ByteArray)),(.int .i64 0),(.slice t23 tl24 tc25)]),(.bool t19)]) w26)) /\
 ((t9 = false) ->
 ∀ w10,ExtB [] [b0] w8 w10 ->
 FnP Tryz.prog F_ask_reader_take #[(.pointer r),(.int .u8 40)] w10 fun v11 w11 =>
 Kept [b0] w10 w11 /\
 ∃ t12:Bool,v11 = (.bool t12) /\
 (((t12 = true) ->
 ∀ w13,ExtB [] [b0] w11 w13 ->
 FnP Tryz.prog F_ask_reader_two #[(.pointer r)] w13 fun v14 w14 =>
 Kept [b0] w13 w14 /\
 ∃ t_015:Int,∃ t_116:ByteArray,∃ t_217:ByteArray,∃ t_318:Int,∃ t_419:Option Addr,∃ t_4l20:Nat,∃ t_4c21:Nat,∃ t22:Bool,v14 = (.tuple #[(.agg #[(.int .i64 t_015),(.string t_116),(.string t_217),(.int .i64 t_318),(.slice t_419 t_4l20 t_4c21)]),(.bool t22)]) /\
 ∀ w23,ExtB [b0] [] w14 w23 ->
 Q (.tuple #[(.agg #[(.int .i64 t_015),(.string t_116),(.string t_217),(.int .i64 t_318),(.slice t_419 t_4l20 t_4c21)]),(.bool t22)]) w23)) /\
 ((t12 = false) ->
 ∀ w13,ExtB [] [b0] w11 w13 ->
 FnP Tryz.prog F_ask_reader_word #[(.pointer r)] w13 fun v14 w14 =>
 Kept [b0] w13 w14 /\
 ∃ t15:ByteArray,v14 = (.string t15) /\
 ∀ w16,ExtB [] [b0] w14 w16 ->
 FnP Tryz.prog F_ask_reader_take #[(.pointer r),(.int .u8 62)] w16 fun v17 w17 =>
 Kept [b0] w16 w17 /\
 ∃ t18:Bool,v17 = (.bool t18) /\
 (((t18 = true) ->
 ∀ w19,ExtB [] [b0] w17 w19 ->
 FnP Tryz.prog F_ask_reader_take #[(.pointer r),(.int .u8 61)] w19 fun v20 w20 =>
 Kept [b0] w19 w20 /\
 ∃ t21:Bool,v20 = (.bool t21) /\
 ((t21 = false) ->
 ∀ w22,ExtB [b0] [] w20 w22 ->
 Q (.tuple #[(.agg #[(.int .i64 0),(.string (⟨#[]⟩:ByteArray)),(.string (⟨#[]⟩:ByteArray)),(.int .i64 0),(.slice none 0 0)]),(.bool false)]) w22) /\
 ((t21 = true) ->
 ∀ w22,ExtB [] [b0] w20 w22 ->
 FnP Tryz.prog F_ask_reader_word #[(.pointer r)] w22 fun v23 w23 =>
 Kept [b0] w22 w23 /\
 ∃ t24:ByteArray,v23 = (.string t24) /\
 ∀ w25,ExtB [] [b0] w23 w25 ->
 FnP Tryz.prog F_strconv_ParseInt #[(.string t24),(.int .i64 10),(.int .i64 64)] w25 fun v26 w26 =>
 Ext w25 w26 /\
 ∃ t27:Int,∃ t28:Value,v26 = (.tuple #[(.int .i64 t27),t28]) /\
 ∃ (J29:Bool->Int->ByteArray->ByteArray->Int->Option Addr->Nat->Nat->World->Prop),((∀ w37,Ext w26 w37 ->
 Run Tryz.prog (.eq .eql 188 false true t28 .nilIface) w37 fun v38 w38 =>
 Ext w37 w38 /\
 ∃ t39:Bool,v38 = (.bool t39) /\
 J29 t39 3 t15 (⟨#[]⟩:ByteArray) t27 none 0 0 w26) /\
 ∀ w37,ExtB [b0] [] w26 w37 ->
 Run Tryz.prog (.eq .eql 188 false true t28 .nilIface) w37 fun v38 w38 =>
 Ext w37 w38 /\
 ∃ t39:Bool,v38 = (.bool t39) /\
 J29 t39 3 t15 (⟨#[]⟩:ByteArray) t27 none 0 0 w26) /\
 ∀ (ok_shiftbellkeep_sameHosts:Bool) (c31:Int) (c32:ByteArray) (c33:ByteArray) (c34:Int) (c35:Option Addr) (cl35:Nat) (cc35:Nat) (w36:World),J29 ok_shiftbellkeep_sameHosts c31 c32 c33 c34 c35 cl35 cc35 w36 ->
 ∀ w37,ExtB [b0] [] w36 w37 ->
 Q (.tuple #[(.agg #[(.int .i64 c31),(.string c32),(.string c33),(.int .i64 c34),(.slice c35 cl35 cc35)]),(.bool ok_shiftbellkeep_sameHosts)]) w37))) /\
 ((t18 = false) ->
 ∀ w19,ExtB [] [b0] w17 w19 ->
 FnP Tryz.prog F_ask_reader_take #[(.pointer r),(.int .u8 61)] w19 fun v20 w20 =>
 Kept [b0] w19 w20 /\
 ∃ t21:Bool,v20 = (.bool t21) /\
 ((t21 = false) ->
 ∀ w22,ExtB [b0] [] w20 w22 ->
 Q (.tuple #[(.agg #[(.int .i64 0),(.string (⟨#[]⟩:ByteArray)),(.string (⟨#[]⟩:ByteArray)),(.int .i64 0),(.slice none 0 0)]),(.bool false)]) w22) /\
 ((t21 = true) ->
 ∀ w22,ExtB [] [b0] w20 w22 ->
 FnP Tryz.prog F_ask_reader_word #[(.pointer r)] w22 fun v23 w23 =>
 Kept [b0] w22 w23 /\
 ∃ t24:ByteArray,v23 = (.string t24) /\
 ∀ w25,ExtB [b0] [] w23 w25 ->
 Q (.tuple #[(.agg #[(.int .i64 2),(.string t15),(.string t24),(.int .i64 0),(.slice none 0 0)]),(.bool true)]) w25))))))
theorem ok_ask_reader_ask (r:Option Addr) (w:World) (Q:Value->World->Prop) (h:wp_ask_reader_ask r w Q):FnP Tryz.prog F_ask_reader_ask #[(.pointer r)] w Q:=by
  have e_:wp_ask_reader_ask r w Q = Runs Tryz.prog Q ({ N:=74,wrap:=[],pub:=[],muts:=[149,150,130,151],joins:=[] }:Cfg) Tryz.f130 (Tryz.f130.body.getD .skip) [.sc (.ptr r)] w:=by kernel_rfl
  rw [e_] at h
  exact runs_fn h Tryz.func130 (by kernel_rfl) (fun args w=>Tryz.call130 args w) (by kernel_rfl) (by kernel_rfl) rfl rfl
def wp_ask_reader_two (r:Option Addr) (w:World) (Q:Value->World->Prop):Prop :=
 ∀ b0:Nat,w.heap.size <= b0->∀ w1,ExtB [] [b0] w w1 ->
 FnP Tryz.prog F_ask_reader_ask #[(.pointer r)] w1 fun v2 w2 =>
 Kept [b0] w1 w2 /\
 ∃ t_03:Int,∃ t_14:ByteArray,∃ t_25:ByteArray,∃ t_36:Int,∃ t_47:Option Addr,∃ t_4l8:Nat,∃ t_4c9:Nat,∃ t10:Bool,v2 = (.tuple #[(.agg #[(.int .i64 t_03),(.string t_14),(.string t_25),(.int .i64 t_36),(.slice t_47 t_4l8 t_4c9)]),(.bool t10)]) /\
 ∀ b11:Nat,w2.heap.size <= b11->((t10 = false) ->
 ∀ w12,ExtB [b0] [] w2 w12 ->
 Q (.tuple #[(.agg #[(.int .i64 0),(.string (⟨#[]⟩:ByteArray)),(.string (⟨#[]⟩:ByteArray)),(.int .i64 0),(.slice none 0 0)]),(.bool false)]) w12) /\
 ((t10 = true) ->
 ∀ w12,ExtB [] [b0,b11] w2 w12 ->
 FnP Tryz.prog F_ask_reader_take #[(.pointer r),(.int .u8 124)] w12 fun v13 w13 =>
 Kept [b0,b11] w12 w13 /\
 ∃ t14:Bool,v13 = (.bool t14) /\
 (((t14 = true) ->
 ∀ w15,ExtB [] [b0,b11] w13 w15 ->
 FnP Tryz.prog F_ask_reader_ask #[(.pointer r)] w15 fun v16 w16 =>
 Kept [b0,b11] w15 w16 /\
 ∃ t_017:Int,∃ t_118:ByteArray,∃ t_219:ByteArray,∃ t_320:Int,∃ t_421:Option Addr,∃ t_4l22:Nat,∃ t_4c23:Nat,∃ t24:Bool,v16 = (.tuple #[(.agg #[(.int .i64 t_017),(.string t_118),(.string t_219),(.int .i64 t_320),(.slice t_421 t_4l22 t_4c23)]),(.bool t24)]) /\
 ∀ b25:Nat,w16.heap.size <= b25->∃ (J26:Bool->Int->ByteArray->ByteArray->Int->Option Addr->Nat->Nat->World->Prop),((((∀ w34,ExtB [] [b0,b11,b25] w16 w34 ->
 Run Tryz.prog (.buildSlice 35 2 [(0,(.agg #[(.int .i64 t_03),(.string t_14),(.string t_25),(.int .i64 t_36),(.slice t_47 t_4l8 t_4c9)])),(1,(.agg #[(.int .i64 t_017),(.string t_118),(.string t_219),(.int .i64 t_320),(.slice t_421 t_4l22 t_4c23)]))]) w34 fun v35 w35 =>
 Ext w34 w35 /\
 ∃ t36:Option Addr,∃ tl37:Nat,∃ tc38:Nat,v35 = (.slice t36 tl37 tc38) /\
 (((t24 = true) ->
 ∀ w39,ExtB [] [b0,b11,b25] w35 w39 ->
 FnP Tryz.prog F_ask_reader_take #[(.pointer r),(.int .u8 41)] w39 fun v40 w40 =>
 Kept [b0,b11,b25] w39 w40 /\
 ∃ t41:Bool,v40 = (.bool t41) /\
 J26 t41 6 (⟨#[]⟩:ByteArray) (⟨#[]⟩:ByteArray) 0 t36 tl37 tc38 w40)) /\
 ((t24 = false) ->
 J26 false 6 (⟨#[]⟩:ByteArray) (⟨#[]⟩:ByteArray) 0 t36 tl37 tc38 w35)) /\
 (((t24 = true) ->
 ∀ w34,ExtB [] [b0,b11,b25] w16 w34 ->
 FnP Tryz.prog F_ask_reader_take #[(.pointer r),(.int .u8 41)] w34 fun v35 w35 =>
 Kept [b0,b11,b25] w34 w35 /\
 ∃ t36:Bool,v35 = (.bool t36) /\
 ∀ w37,ExtB [] [b0,b11,b25] w35 w37 ->
 Run Tryz.prog (.buildSlice 35 2 [(0,(.agg #[(.int .i64 t_03),(.string t_14),(.string t_25),(.int .i64 t_36),(.slice t_47 t_4l8 t_4c9)])),(1,(.agg #[(.int .i64 t_017),(.string t_118),(.string t_219),(.int .i64 t_320),(.slice t_421 t_4l22 t_4c23)]))]) w37 fun v38 w38 =>
 Ext w37 w38 /\
 ∃ t39:Option Addr,∃ tl40:Nat,∃ tc41:Nat,v38 = (.slice t39 tl40 tc41) /\
 J26 t36 6 (⟨#[]⟩:ByteArray) (⟨#[]⟩:ByteArray) 0 t39 tl40 tc41 w38)) /\
 ((t24 = false) ->
 ∀ w34,ExtB [] [b0,b11,b25] w16 w34 ->
 Run Tryz.prog (.buildSlice 35 2 [(0,(.agg #[(.int .i64 t_03),(.string t_14),(.string t_25),(.int .i64 t_36),(.slice t_47 t_4l8 t_4c9)])),(1,(.agg #[(.int .i64 t_017),(.string t_118),(.string t_219),(.int .i64 t_320),(.slice t_421 t_4l22 t_4c23)]))]) w34 fun v35 w35 =>
 Ext w34 w35 /\
 ∃ t36:Option Addr,∃ tl37:Nat,∃ tc38:Nat,v35 = (.slice t36 tl37 tc38) /\
 J26 false 6 (⟨#[]⟩:ByteArray) (⟨#[]⟩:ByteArray) 0 t36 tl37 tc38 w35)) /\
 (((t24 = true) ->
 ∀ w34,ExtB [] [b0,b11,b25] w16 w34 ->
 FnP Tryz.prog F_ask_reader_take #[(.pointer r),(.int .u8 41)] w34 fun v35 w35 =>
 Kept [b0,b11,b25] w34 w35 /\
 ∃ t36:Bool,v35 = (.bool t36) /\
 ∀ w37,ExtB [] [b0,b11,b25] w35 w37 ->
 Run Tryz.prog (.buildSlice 35 2 [(0,(.agg #[(.int .i64 t_03),(.string t_14),(.string t_25),(.int .i64 t_36),(.slice t_47 t_4l8 t_4c9)])),(1,(.agg #[(.int .i64 t_017),(.string t_118),(.string t_219),(.int .i64 t_320),(.slice t_421 t_4l22 t_4c23)]))]) w37 fun v38 w38 =>
 Ext w37 w38 /\
 ∃ t39:Option Addr,∃ tl40:Nat,∃ tc41:Nat,v38 = (.slice t39 tl40 tc41) /\
 J26 t36 6 (⟨#[]⟩:ByteArray) (⟨#[]⟩:ByteArray) 0 t39 tl40 tc41 w38)) /\
 ((t24 = false) ->
 ∀ w34,ExtB [] [b0,b11,b25] w16 w34 ->
 Run Tryz.prog (.buildSlice 35 2 [(0,(.agg #[(.int .i64 t_03),(.string t_14),(.string t_25),(.int .i64 t_36),(.slice t_47 t_4l8 t_4c9)])),(1,(.agg #[(.int .i64 t_017),(.string t_118),(.string t_219),(.int .i64 t_320),(.slice t_421 t_4l22 t_4c23)]))]) w34 fun v35 w35 =>
 Ext w34 w35 /\
 ∃ t36:Option Addr,∃ tl37:Nat,∃ tc38:Nat,v35 = (.slice t36 tl37 tc38) /\
 J26 false 6 (⟨#[]⟩:ByteArray) (⟨#[]⟩:ByteArray) 0 t36 tl37 tc38 w35)) /\
 (((∀ w34,ExtB [] [b0,b11,b25] w16 w34 ->
 Run Tryz.prog (.buildSlice 35 2 [(0,(.agg #[(.int .i64 t_03),(.string t_14),(.string t_25),(.int .i64 t_36),(.slice t_47 t_4l8 t_4c9)])),(1,(.agg #[(.int .i64 t_017),(.string t_118),(.string t_219),(.int .i64 t_320),(.slice t_421 t_4l22 t_4c23)]))]) w34 fun v35 w35 =>
 Ext w34 w35 /\
 ∃ t36:Option Addr,∃ tl37:Nat,∃ tc38:Nat,v35 = (.slice t36 tl37 tc38) /\
 (((t24 = true) ->
 ∀ w39,ExtB [] [b0,b11,b25] w35 w39 ->
 FnP Tryz.prog F_ask_reader_take #[(.pointer r),(.int .u8 41)] w39 fun v40 w40 =>
 Kept [b0,b11,b25] w39 w40 /\
 ∃ t41:Bool,v40 = (.bool t41) /\
 J26 t41 6 (⟨#[]⟩:ByteArray) (⟨#[]⟩:ByteArray) 0 t36 tl37 tc38 w40)) /\
 ((t24 = false) ->
 J26 false 6 (⟨#[]⟩:ByteArray) (⟨#[]⟩:ByteArray) 0 t36 tl37 tc38 w35)) /\
 (((t24 = true) ->
 ∀ w34,ExtB [] [b0,b11,b25] w16 w34 ->
 FnP Tryz.prog F_ask_reader_take #[(.pointer r),(.int .u8 41)] w34 fun v35 w35 =>
 Kept [b0,b11,b25] w34 w35 /\
 ∃ t36:Bool,v35 = (.bool t36) /\
 ∀ w37,ExtB [] [b0,b11,b25] w35 w37 ->
 Run Tryz.prog (.buildSlice 35 2 [(0,(.agg #[(.int .i64 t_03),(.string t_14),(.string t_25),(.int .i64 t_36),(.slice t_47 t_4l8 t_4c9)])),(1,(.agg #[(.int .i64 t_017),(.string t_118),(.string t_219),(.int .i64 t_320),(.slice t_421 t_4l22 t_4c23)]))]) w37 fun v38 w38 =>
 Ext w37 w38 /\
 ∃ t39:Option Addr,∃ tl40:Nat,∃ tc41:Nat,v38 = (.slice t39 tl40 tc41) /\
 J26 t36 6 (⟨#[]⟩:ByteArray) (⟨#[]⟩:ByteArray) 0 t39 tl40 tc41 w38)) /\
 ((t24 = false) ->
 ∀ w34,ExtB [] [b0,b11,b25] w16 w34 ->
 Run Tryz.prog (.buildSlice 35 2 [(0,(.agg #[(.int .i64 t_03),(.string t_14),(.string t_25),(.int .i64 t_36),(.slice t_47 t_4l8 t_4c9)])),(1,(.agg #[(.int .i64 t_017),(.string t_118),(.string t_219),(.int .i64 t_320),(.slice t_421 t_4l22 t_4c23)]))]) w34 fun v35 w35 =>
 Ext w34 w35 /\
 ∃ t36:Option Addr,∃ tl37:Nat,∃ tc38:Nat,v35 = (.slice t36 tl37 tc38) /\
 J26 false 6 (⟨#[]⟩:ByteArray) (⟨#[]⟩:ByteArray) 0 t36 tl37 tc38 w35)) /\
 (((t24 = true) ->
 ∀ w34,ExtB [] [b0,b11,b25] w16 w34 ->
 FnP Tryz.prog F_ask_reader_take #[(.pointer r),(.int .u8 41)] w34 fun v35 w35 =>
 Kept [b0,b11,b25] w34 w35 /\
 ∃ t36:Bool,v35 = (.bool t36) /\
 ∀ w37,ExtB [] [b0,b11,b25] w35 w37 ->
 Run Tryz.prog (.buildSlice 35 2 [(0,(.agg #[(.int .i64 t_03),(.string t_14),(.string t_25),(.int .i64 t_36),(.slice t_47 t_4l8 t_4c9)])),(1,(.agg #[(.int .i64 t_017),(.string t_118),(.string t_219),(.int .i64 t_320),(.slice t_421 t_4l22 t_4c23)]))]) w37 fun v38 w38 =>
 Ext w37 w38 /\
 ∃ t39:Option Addr,∃ tl40:Nat,∃ tc41:Nat,v38 = (.slice t39 tl40 tc41) /\
 J26 t36 6 (⟨#[]⟩:ByteArray) (⟨#[]⟩:ByteArray) 0 t39 tl40 tc41 w38)) /\
 ((t24 = false) ->
 ∀ w34,ExtB [] [b0,b11,b25] w16 w34 ->
 Run Tryz.prog (.buildSlice 35 2 [(0,(.agg #[(.int .i64 t_03),(.string t_14),(.string t_25),(.int .i64 t_36),(.slice t_47 t_4l8 t_4c9)])),(1,(.agg #[(.int .i64 t_017),(.string t_118),(.string t_219),(.int .i64 t_320),(.slice t_421 t_4l22 t_4c23)]))]) w34 fun v35 w35 =>
 Ext w34 w35 /\
 ∃ t36:Option Addr,∃ tl37:Nat,∃ tc38:Nat,v35 = (.slice t36 tl37 tc38) /\
 J26 false 6 (⟨#[]⟩:ByteArray) (⟨#[]⟩:ByteArray) 0 t36 tl37 tc38 w35)) /\
 (((t24 = true) ->
 ∀ w34,ExtB [] [b0,b11,b25] w16 w34 ->
 FnP Tryz.prog F_ask_reader_take #[(.pointer r),(.int .u8 41)] w34 fun v35 w35 =>
 Kept [b0,b11,b25] w34 w35 /\
 ∃ t36:Bool,v35 = (.bool t36) /\
 ∀ w37,ExtB [] [b0,b11,b25] w35 w37 ->
 Run Tryz.prog (.buildSlice 35 2 [(0,(.agg #[(.int .i64 t_03),(.string t_14),(.string t_25),(.int .i64 t_36),(.slice t_47 t_4l8 t_4c9)])),(1,(.agg #[(.int .i64 t_017),(.string t_118),(.string t_219),(.int .i64 t_320),(.slice t_421 t_4l22 t_4c23)]))]) w37 fun v38 w38 =>
 Ext w37 w38 /\
 ∃ t39:Option Addr,∃ tl40:Nat,∃ tc41:Nat,v38 = (.slice t39 tl40 tc41) /\
 J26 t36 6 (⟨#[]⟩:ByteArray) (⟨#[]⟩:ByteArray) 0 t39 tl40 tc41 w38)) /\
 ((t24 = false) ->
 ∀ w34,ExtB [] [b0,b11,b25] w16 w34 ->
 Run Tryz.prog (.buildSlice 35 2 [(0,(.agg #[(.int .i64 t_03),(.string t_14),(.string t_25),(.int .i64 t_36),(.slice t_47 t_4l8 t_4c9)])),(1,(.agg #[(.int .i64 t_017),(.string t_118),(.string t_219),(.int .i64 t_320),(.slice t_421 t_4l22 t_4c23)]))]) w34 fun v35 w35 =>
 Ext w34 w35 /\
 ∃ t36:Option Addr,∃ tl37:Nat,∃ tc38:Nat,v35 = (.slice t36 tl37 tc38) /\
 J26 false 6 (⟨#[]⟩:ByteArray) (⟨#[]⟩:ByteArray) 0 t36 tl37 tc38 w35)) /\
 ∀ (ok_farm_Farm_Now:Bool) (c28:Int) (c29:ByteArray) (c30:ByteArray) (c31:Int) (c32:Option Addr) (cl32:Nat) (cc32:Nat) (w33:World),J26 ok_farm_Farm_Now c28 c29 c30 c31 c32 cl32 cc32 w33 ->
 ∀ w34,ExtB [b0] [] w33 w34 ->
 Q (.tuple #[(.agg #[(.int .i64 c28),(.string c29),(.string c30),(.int .i64 c31),(.slice c32 cl32 cc32)]),(.bool ok_farm_Farm_Now)]) w34)) /\
 ((t14 = false) ->
 ∀ w15,ExtB [] [b0,b11] w13 w15 ->
 FnP Tryz.prog F_ask_reader_take #[(.pointer r),(.int .u8 38)] w15 fun v16 w16 =>
 Kept [b0,b11] w15 w16 /\
 ∃ t17:Bool,v16 = (.bool t17) /\
 ((t17 = false) ->
 ∀ w18,ExtB [b0] [] w16 w18 ->
 Q (.tuple #[(.agg #[(.int .i64 0),(.string (⟨#[]⟩:ByteArray)),(.string (⟨#[]⟩:ByteArray)),(.int .i64 0),(.slice none 0 0)]),(.bool false)]) w18) /\
 ((t17 = true) ->
 ∀ w18,ExtB [] [b0,b11] w16 w18 ->
 FnP Tryz.prog F_ask_reader_ask #[(.pointer r)] w18 fun v19 w19 =>
 Kept [b0,b11] w18 w19 /\
 ∃ t_020:Int,∃ t_121:ByteArray,∃ t_222:ByteArray,∃ t_323:Int,∃ t_424:Option Addr,∃ t_4l25:Nat,∃ t_4c26:Nat,∃ t27:Bool,v19 = (.tuple #[(.agg #[(.int .i64 t_020),(.string t_121),(.string t_222),(.int .i64 t_323),(.slice t_424 t_4l25 t_4c26)]),(.bool t27)]) /\
 ∀ b28:Nat,w19.heap.size <= b28->∃ (J29:Bool->Int->ByteArray->ByteArray->Int->Option Addr->Nat->Nat->World->Prop),((((∀ w37,ExtB [] [b0,b11,b28] w19 w37 ->
 Run Tryz.prog (.buildSlice 35 2 [(0,(.agg #[(.int .i64 t_03),(.string t_14),(.string t_25),(.int .i64 t_36),(.slice t_47 t_4l8 t_4c9)])),(1,(.agg #[(.int .i64 t_020),(.string t_121),(.string t_222),(.int .i64 t_323),(.slice t_424 t_4l25 t_4c26)]))]) w37 fun v38 w38 =>
 Ext w37 w38 /\
 ∃ t39:Option Addr,∃ tl40:Nat,∃ tc41:Nat,v38 = (.slice t39 tl40 tc41) /\
 (((t27 = true) ->
 ∀ w42,ExtB [] [b0,b11,b28] w38 w42 ->
 FnP Tryz.prog F_ask_reader_take #[(.pointer r),(.int .u8 41)] w42 fun v43 w43 =>
 Kept [b0,b11,b28] w42 w43 /\
 ∃ t44:Bool,v43 = (.bool t44) /\
 J29 t44 5 (⟨#[]⟩:ByteArray) (⟨#[]⟩:ByteArray) 0 t39 tl40 tc41 w43)) /\
 ((t27 = false) ->
 J29 false 5 (⟨#[]⟩:ByteArray) (⟨#[]⟩:ByteArray) 0 t39 tl40 tc41 w38)) /\
 (((t27 = true) ->
 ∀ w37,ExtB [] [b0,b11,b28] w19 w37 ->
 FnP Tryz.prog F_ask_reader_take #[(.pointer r),(.int .u8 41)] w37 fun v38 w38 =>
 Kept [b0,b11,b28] w37 w38 /\
 ∃ t39:Bool,v38 = (.bool t39) /\
 ∀ w40,ExtB [] [b0,b11,b28] w38 w40 ->
 Run Tryz.prog (.buildSlice 35 2 [(0,(.agg #[(.int .i64 t_03),(.string t_14),(.string t_25),(.int .i64 t_36),(.slice t_47 t_4l8 t_4c9)])),(1,(.agg #[(.int .i64 t_020),(.string t_121),(.string t_222),(.int .i64 t_323),(.slice t_424 t_4l25 t_4c26)]))]) w40 fun v41 w41 =>
 Ext w40 w41 /\
 ∃ t42:Option Addr,∃ tl43:Nat,∃ tc44:Nat,v41 = (.slice t42 tl43 tc44) /\
 J29 t39 5 (⟨#[]⟩:ByteArray) (⟨#[]⟩:ByteArray) 0 t42 tl43 tc44 w41)) /\
 ((t27 = false) ->
 ∀ w37,ExtB [] [b0,b11,b28] w19 w37 ->
 Run Tryz.prog (.buildSlice 35 2 [(0,(.agg #[(.int .i64 t_03),(.string t_14),(.string t_25),(.int .i64 t_36),(.slice t_47 t_4l8 t_4c9)])),(1,(.agg #[(.int .i64 t_020),(.string t_121),(.string t_222),(.int .i64 t_323),(.slice t_424 t_4l25 t_4c26)]))]) w37 fun v38 w38 =>
 Ext w37 w38 /\
 ∃ t39:Option Addr,∃ tl40:Nat,∃ tc41:Nat,v38 = (.slice t39 tl40 tc41) /\
 J29 false 5 (⟨#[]⟩:ByteArray) (⟨#[]⟩:ByteArray) 0 t39 tl40 tc41 w38)) /\
 (((t27 = true) ->
 ∀ w37,ExtB [] [b0,b11,b28] w19 w37 ->
 FnP Tryz.prog F_ask_reader_take #[(.pointer r),(.int .u8 41)] w37 fun v38 w38 =>
 Kept [b0,b11,b28] w37 w38 /\
 ∃ t39:Bool,v38 = (.bool t39) /\
 ∀ w40,ExtB [] [b0,b11,b28] w38 w40 ->
 Run Tryz.prog (.buildSlice 35 2 [(0,(.agg #[(.int .i64 t_03),(.string t_14),(.string t_25),(.int .i64 t_36),(.slice t_47 t_4l8 t_4c9)])),(1,(.agg #[(.int .i64 t_020),(.string t_121),(.string t_222),(.int .i64 t_323),(.slice t_424 t_4l25 t_4c26)]))]) w40 fun v41 w41 =>
 Ext w40 w41 /\
 ∃ t42:Option Addr,∃ tl43:Nat,∃ tc44:Nat,v41 = (.slice t42 tl43 tc44) /\
 J29 t39 5 (⟨#[]⟩:ByteArray) (⟨#[]⟩:ByteArray) 0 t42 tl43 tc44 w41)) /\
 ((t27 = false) ->
 ∀ w37,ExtB [] [b0,b11,b28] w19 w37 ->
 Run Tryz.prog (.buildSlice 35 2 [(0,(.agg #[(.int .i64 t_03),(.string t_14),(.string t_25),(.int .i64 t_36),(.slice t_47 t_4l8 t_4c9)])),(1,(.agg #[(.int .i64 t_020),(.string t_121),(.string t_222),(.int .i64 t_323),(.slice t_424 t_4l25 t_4c26)]))]) w37 fun v38 w38 =>
 Ext w37 w38 /\
 ∃ t39:Option Addr,∃ tl40:Nat,∃ tc41:Nat,v38 = (.slice t39 tl40 tc41) /\
 J29 false 5 (⟨#[]⟩:ByteArray) (⟨#[]⟩:ByteArray) 0 t39 tl40 tc41 w38)) /\
 (((∀ w37,ExtB [] [b0,b11,b28] w19 w37 ->
 Run Tryz.prog (.buildSlice 35 2 [(0,(.agg #[(.int .i64 t_03),(.string t_14),(.string t_25),(.int .i64 t_36),(.slice t_47 t_4l8 t_4c9)])),(1,(.agg #[(.int .i64 t_020),(.string t_121),(.string t_222),(.int .i64 t_323),(.slice t_424 t_4l25 t_4c26)]))]) w37 fun v38 w38 =>
 Ext w37 w38 /\
 ∃ t39:Option Addr,∃ tl40:Nat,∃ tc41:Nat,v38 = (.slice t39 tl40 tc41) /\
 (((t27 = true) ->
 ∀ w42,ExtB [] [b0,b11,b28] w38 w42 ->
 FnP Tryz.prog F_ask_reader_take #[(.pointer r),(.int .u8 41)] w42 fun v43 w43 =>
 Kept [b0,b11,b28] w42 w43 /\
 ∃ t44:Bool,v43 = (.bool t44) /\
 J29 t44 5 (⟨#[]⟩:ByteArray) (⟨#[]⟩:ByteArray) 0 t39 tl40 tc41 w43)) /\
 ((t27 = false) ->
 J29 false 5 (⟨#[]⟩:ByteArray) (⟨#[]⟩:ByteArray) 0 t39 tl40 tc41 w38)) /\
 (((t27 = true) ->
 ∀ w37,ExtB [] [b0,b11,b28] w19 w37 ->
 FnP Tryz.prog F_ask_reader_take #[(.pointer r),(.int .u8 41)] w37 fun v38 w38 =>
 Kept [b0,b11,b28] w37 w38 /\
 ∃ t39:Bool,v38 = (.bool t39) /\
 ∀ w40,ExtB [] [b0,b11,b28] w38 w40 ->
 Run Tryz.prog (.buildSlice 35 2 [(0,(.agg #[(.int .i64 t_03),(.string t_14),(.string t_25),(.int .i64 t_36),(.slice t_47 t_4l8 t_4c9)])),(1,(.agg #[(.int .i64 t_020),(.string t_121),(.string t_222),(.int .i64 t_323),(.slice t_424 t_4l25 t_4c26)]))]) w40 fun v41 w41 =>
 Ext w40 w41 /\
 ∃ t42:Option Addr,∃ tl43:Nat,∃ tc44:Nat,v41 = (.slice t42 tl43 tc44) /\
 J29 t39 5 (⟨#[]⟩:ByteArray) (⟨#[]⟩:ByteArray) 0 t42 tl43 tc44 w41)) /\
 ((t27 = false) ->
 ∀ w37,ExtB [] [b0,b11,b28] w19 w37 ->
 Run Tryz.prog (.buildSlice 35 2 [(0,(.agg #[(.int .i64 t_03),(.string t_14),(.string t_25),(.int .i64 t_36),(.slice t_47 t_4l8 t_4c9)])),(1,(.agg #[(.int .i64 t_020),(.string t_121),(.string t_222),(.int .i64 t_323),(.slice t_424 t_4l25 t_4c26)]))]) w37 fun v38 w38 =>
 Ext w37 w38 /\
 ∃ t39:Option Addr,∃ tl40:Nat,∃ tc41:Nat,v38 = (.slice t39 tl40 tc41) /\
 J29 false 5 (⟨#[]⟩:ByteArray) (⟨#[]⟩:ByteArray) 0 t39 tl40 tc41 w38)) /\
 (((t27 = true) ->
 ∀ w37,ExtB [] [b0,b11,b28] w19 w37 ->
 FnP Tryz.prog F_ask_reader_take #[(.pointer r),(.int .u8 41)] w37 fun v38 w38 =>
 Kept [b0,b11,b28] w37 w38 /\
 ∃ t39:Bool,v38 = (.bool t39) /\
 ∀ w40,ExtB [] [b0,b11,b28] w38 w40 ->
 Run Tryz.prog (.buildSlice 35 2 [(0,(.agg #[(.int .i64 t_03),(.string t_14),(.string t_25),(.int .i64 t_36),(.slice t_47 t_4l8 t_4c9)])),(1,(.agg #[(.int .i64 t_020),(.string t_121),(.string t_222),(.int .i64 t_323),(.slice t_424 t_4l25 t_4c26)]))]) w40 fun v41 w41 =>
 Ext w40 w41 /\
 ∃ t42:Option Addr,∃ tl43:Nat,∃ tc44:Nat,v41 = (.slice t42 tl43 tc44) /\
 J29 t39 5 (⟨#[]⟩:ByteArray) (⟨#[]⟩:ByteArray) 0 t42 tl43 tc44 w41)) /\
 ((t27 = false) ->
 ∀ w37,ExtB [] [b0,b11,b28] w19 w37 ->
 Run Tryz.prog (.buildSlice 35 2 [(0,(.agg #[(.int .i64 t_03),(.string t_14),(.string t_25),(.int .i64 t_36),(.slice t_47 t_4l8 t_4c9)])),(1,(.agg #[(.int .i64 t_020),(.string t_121),(.string t_222),(.int .i64 t_323),(.slice t_424 t_4l25 t_4c26)]))]) w37 fun v38 w38 =>
 Ext w37 w38 /\
 ∃ t39:Option Addr,∃ tl40:Nat,∃ tc41:Nat,v38 = (.slice t39 tl40 tc41) /\
 J29 false 5 (⟨#[]⟩:ByteArray) (⟨#[]⟩:ByteArray) 0 t39 tl40 tc41 w38)) /\
 (((t27 = true) ->
 ∀ w37,ExtB [] [b0,b11,b28] w19 w37 ->
 FnP Tryz.prog F_ask_reader_take #[(.pointer r),(.int .u8 41)] w37 fun v38 w38 =>
 Kept [b0,b11,b28] w37 w38 /\
 ∃ t39:Bool,v38 = (.bool t39) /\
 ∀ w40,ExtB [] [b0,b11,b28] w38 w40 ->
 Run Tryz.prog (.buildSlice 35 2 [(0,(.agg #[(.int .i64 t_03),(.string t_14),(.string t_25),(.int .i64 t_36),(.slice t_47 t_4l8 t_4c9)])),(1,(.agg #[(.int .i64 t_020),(.string t_121),(.string t_222),(.int .i64 t_323),(.slice t_424 t_4l25 t_4c26)]))]) w40 fun v41 w41 =>
 Ext w40 w41 /\
 ∃ t42:Option Addr,∃ tl43:Nat,∃ tc44:Nat,v41 = (.slice t42 tl43 tc44) /\
 J29 t39 5 (⟨#[]⟩:ByteArray) (⟨#[]⟩:ByteArray) 0 t42 tl43 tc44 w41)) /\
 ((t27 = false) ->
 ∀ w37,ExtB [] [b0,b11,b28] w19 w37 ->
 Run Tryz.prog (.buildSlice 35 2 [(0,(.agg #[(.int .i64 t_03),(.string t_14),(.string t_25),(.int .i64 t_36),(.slice t_47 t_4l8 t_4c9)])),(1,(.agg #[(.int .i64 t_020),(.string t_121),(.string t_222),(.int .i64 t_323),(.slice t_424 t_4l25 t_4c26)]))]) w37 fun v38 w38 =>
 Ext w37 w38 /\
 ∃ t39:Option Addr,∃ tl40:Nat,∃ tc41:Nat,v38 = (.slice t39 tl40 tc41) /\
 J29 false 5 (⟨#[]⟩:ByteArray) (⟨#[]⟩:ByteArray) 0 t39 tl40 tc41 w38)) /\
 ∀ (ok_shiftbellkeep_sameHosts:Bool) (c31:Int) (c32:ByteArray) (c33:ByteArray) (c34:Int) (c35:Option Addr) (cl35:Nat) (cc35:Nat) (w36:World),J29 ok_shiftbellkeep_sameHosts c31 c32 c33 c34 c35 cl35 cc35 w36 ->
 ∀ w37,ExtB [b0] [] w36 w37 ->
 Q (.tuple #[(.agg #[(.int .i64 c31),(.string c32),(.string c33),(.int .i64 c34),(.slice c35 cl35 cc35)]),(.bool ok_shiftbellkeep_sameHosts)]) w37)))
theorem ok_ask_reader_two (r:Option Addr) (w:World) (Q:Value->World->Prop) (h:wp_ask_reader_two r w Q):FnP Tryz.prog F_ask_reader_two #[(.pointer r)] w Q:=by
  have e_:wp_ask_reader_two r w Q = Runs Tryz.prog Q ({ N:=36,wrap:=[],pub:=[],muts:=[149,150,130,151],joins:=[] }:Cfg) Tryz.f151 (Tryz.f151.body.getD .skip) [.sc (.ptr r)] w:=by kernel_rfl
  rw [e_] at h
  exact runs_fn h Tryz.func151 (by kernel_rfl) (fun args w=>Tryz.call151 args w) (by kernel_rfl) (by kernel_rfl) rfl rfl
def wp_ask_Read (s:ByteArray) (w:World) (Q:Value->World->Prop):Prop :=
 ∀ b0:Nat,w.heap.size <= b0->((2000 < (s.size:Int)) ->
 ∀ w1,Ext w w1 ->
 Q (.tuple #[(.agg #[(.int .i64 0),(.string (⟨#[]⟩:ByteArray)),(.string (⟨#[]⟩:ByteArray)),(.int .i64 0),(.slice none 0 0)]),(.int .i64 2)]) w1) /\
 (((s.size:Int) <= 2000) ->
 ∀ w1,ExtB [] [b0] w w1 ->
 New w1 222 [(.string s),(.int .i64 60)] fun p2 w2 =>
 ∀ w3,ExtB [] [b0] w2 w3 ->
 FnP Tryz.prog F_ask_reader_ask #[(.pointer p2)] w3 fun v4 w4 =>
 Kept [b0] w3 w4 /\
 ∃ t_05:Int,∃ t_16:ByteArray,∃ t_27:ByteArray,∃ t_38:Int,∃ t_49:Option Addr,∃ t_4l10:Nat,∃ t_4c11:Nat,∃ t12:Bool,v4 = (.tuple #[(.agg #[(.int .i64 t_05),(.string t_16),(.string t_27),(.int .i64 t_38),(.slice t_49 t_4l10 t_4c11)]),(.bool t12)]) /\
 ∀ b13:Nat,w4.heap.size <= b13->((t12 = false) ->
 ∀ w14,ExtB [b0] [] w4 w14 ->
 Q (.tuple #[(.agg #[(.int .i64 0),(.string (⟨#[]⟩:ByteArray)),(.string (⟨#[]⟩:ByteArray)),(.int .i64 0),(.slice none 0 0)]),(.int .i64 3)]) w14) /\
 ((t12 = true) ->
 ∀ w14,Ext w4 w14 ->
 FnP Tryz.prog F_ask_Text #[(.agg #[(.int .i64 t_05),(.string t_16),(.string t_27),(.int .i64 t_38),(.slice t_49 t_4l10 t_4c11)])] w14 fun v15 w15 =>
 Ext w14 w15 /\
 ∃ t16:ByteArray,∃ t17:Int,v15 = (.tuple #[(.string t16),(.int .i64 t17)]) /\
 (((t17 ≠ 0)\/(t16 ≠ s)) ->
 ∀ w18,ExtB [b0] [] w4 w18 ->
 Q (.tuple #[(.agg #[(.int .i64 0),(.string (⟨#[]⟩:ByteArray)),(.string (⟨#[]⟩:ByteArray)),(.int .i64 0),(.slice none 0 0)]),(.int .i64 3)]) w18) /\
 (((t17 = 0)/\(t16 = s)) ->
 ∀ w18,ExtB [b0] [] w4 w18 ->
 Q (.tuple #[(.agg #[(.int .i64 t_05),(.string t_16),(.string t_27),(.int .i64 t_38),(.slice t_49 t_4l10 t_4c11)]),(.int .i64 0)]) w18)))
theorem ok_ask_Read (s:ByteArray) (w:World) (Q:Value->World->Prop) (h:wp_ask_Read s w Q):FnP Tryz.prog F_ask_Read #[(.string s)] w Q:=by
  have e_:wp_ask_Read s w Q = Runs Tryz.prog Q ({ N:=38,wrap:=[],pub:=[15],muts:=[130],joins:=[] }:Cfg) Tryz.f109 (Tryz.f109.body.getD .skip) [.sc (.str s)] w:=by kernel_rfl
  rw [e_] at h
  exact runs_fn h Tryz.func109 (by kernel_rfl) (fun args w=>Tryz.call109 args w) (by kernel_rfl) (by kernel_rfl) rfl rfl
end Go.Proofs.YtegephkpdlopaaaGreatDoor
set_option linter.unusedVariables false
set_option linter.unusedSimpArgs false
set_option maxRecDepth 100000
namespace Go.Proofs.YtegephkpdlopaaaGreatDoor
open Go.Sx Go.RowKit
abbrev F_shiftbellkeep_sameJob:FuncId:=51
abbrev F_job_Read:FuncId:=75
abbrev F_slices_Equal_int_int:FuncId:=77
abbrev F_strconv_Itoa:FuncId:=104
abbrev F_job_after:FuncId:=105
abbrev F_strconv_Atoi:FuncId:=107
def wp_job_Check (j_0:ByteArray) (j_1:Int) (j_2:Int) (j_3:Int) (j_4:Int) (j_5:Int) (j_6:ByteArray) (j_7:ByteArray) (j_8:Int) (j_9:Option Addr) (j_9l:Nat) (j_9c:Nat) (j_10:Option Addr) (j_10l:Nat) (j_10c:Nat) (w:World) (Q:Value->World->Prop):Prop :=
 ∀ b0:Nat,w.heap.size <= b0->∀ w1,Ext w w1 ->
 FnP Tryz.prog F_ask_Label #[(.string j_0)] w1 fun v2 w2 =>
 Ext w1 w2 /\
 ∃ t3:Bool,v2 = (.bool t3) /\
 ((t3 = false) ->
 ∀ w4,Ext w w4 ->
 Q (.int .i64 3) w4) /\
 ((t3 = true) ->
 (((j_1 < (-1000))\/(1000 < j_1)) ->
 ∀ w4,Ext w w4 ->
 Q (.int .i64 4) w4) /\
 ((((-1000) <= j_1)/\(j_1 <= 1000)) ->
 ∀ w4,Ext w w4 ->
 FnP Tryz.prog F_need_Check #[(.agg #[(.int .i64 j_2),(.int .i64 j_3),(.int .i64 j_4)])] w4 fun v5 w5 =>
 Ext w4 w5 /\
 ∃ t6:Int,v5 = (.int .i64 t6) /\
 ((t6 ≠ 0) ->
 ∀ w7,Ext w w7 ->
 Q (.int .i64 t6) w7) /\
 ((t6 = 0) ->
 ∀ w7,Ext w w7 ->
 FnP Tryz.prog F_ask_Check #[(.agg #[(.int .i64 j_5),(.string j_6),(.string j_7),(.int .i64 j_8),(.slice j_9 j_9l j_9c)])] w7 fun v8 w8 =>
 Ext w7 w8 /\
 ∃ t9:Int,v8 = (.int .i64 t9) /\
 ((t9 ≠ 0) ->
 ∀ w10,Ext w w10 ->
 Q (.int .i64 t9) w10) /\
 ((t9 = 0) ->
 ((8 < (j_10l:Int)) ->
 ∀ w10,Ext w w10 ->
 Q (.int .i64 2) w10) /\
 (((j_10l:Int) <= 8) ->
 ∃ (I10:Int->Int->World->Prop) (M10:Int->Int->World->Nat),I10 0 0 w /\
 ∀ (last11:Int) (k12:Int) (w13:World),I10 last11 k12 w13 ->
 (((k12 < (j_10l:Int)) ->
 j_10 ≠ none /\
 (0:Int) <= k12 /\
 (k12:Int) < (j_10l:Int) /\
 ∃ t14:Int,cell w13 (pIdx j_10 k12 1) 0 = some (.int .i64 t14) /\
 (((t14 < 1)\/(60 < t14)) ->
 ∀ w15,Ext w13 w15 ->
 Q (.int .i64 4) w15) /\
 (((1 <= t14)/\(t14 <= 60)) ->
 ((t14 <= last11) ->
 ∀ w15,Ext w13 w15 ->
 Q (.int .i64 6) w15) /\
 ((last11 < t14) ->
 InR .i64 (k12 + 1) /\
 (I10 t14 (k12 + 1) w13/\M10 t14 (k12 + 1) w13 < M10 last11 k12 w13))))) /\
 (((j_10l:Int) <= k12) ->
 ∀ w14,Ext w13 w14 ->
 Q (.int .i64 0) w14))))))
theorem ok_job_Check (j_0:ByteArray) (j_1:Int) (j_2:Int) (j_3:Int) (j_4:Int) (j_5:Int) (j_6:ByteArray) (j_7:ByteArray) (j_8:Int) (j_9:Option Addr) (j_9l:Nat) (j_9c:Nat) (j_10:Option Addr) (j_10l:Nat) (j_10c:Nat) (w:World) (Q:Value->World->Prop) (h:wp_job_Check j_0 j_1 j_2 j_3 j_4 j_5 j_6 j_7 j_8 j_9 j_9l j_9c j_10 j_10l j_10c w Q):FnP Tryz.prog F_job_Check #[(.agg #[(.string j_0),(.int .i64 j_1),(.int .i64 j_2),(.int .i64 j_3),(.int .i64 j_4),(.int .i64 j_5),(.string j_6),(.string j_7),(.int .i64 j_8),(.slice j_9 j_9l j_9c),(.slice j_10 j_10l j_10c)])] w Q:=by
  have e_:wp_job_Check j_0 j_1 j_2 j_3 j_4 j_5 j_6 j_7 j_8 j_9 j_9l j_9c j_10 j_10l j_10c w Q = Runs Tryz.prog Q ({ N:=58,wrap:=[],pub:=[],muts:=[],joins:=[] }:Cfg) Tryz.f44 (Tryz.f44.body.getD .skip) [.agg [.str j_0,.int .i64 j_1,.int .i64 j_2,.int .i64 j_3,.int .i64 j_4,.int .i64 j_5,.str j_6,.str j_7,.int .i64 j_8,.slc j_9 j_9l j_9c,.slc j_10 j_10l j_10c]] w:=by kernel_rfl
  rw [e_] at h
  exact runs_fn h Tryz.func44 (by kernel_rfl) (fun args w=>Tryz.call44 args w) (by kernel_rfl) (by kernel_rfl) rfl rfl
def wp_job_after (l:Option Addr) (ll:Nat) (lc:Nat) (w:World) (Q:Value->World->Prop):Prop :=
 (((ll:Int) = 0) ->
 ∀ w0,Ext w w0 ->
 Q (.string (⟨#[45]⟩:ByteArray)) w0) /\
 (((ll:Int) ≠ 0) ->
 ∃ (I0:Option Addr->Nat->Nat->Int->World->Prop) (M0:Option Addr->Nat->Nat->Int->World->Nat),I0 none 0 0 0 w /\
 ∀ (out1:Option Addr) (outl1:Nat) (outc1:Nat) (k2:Int) (w3:World),I0 out1 outl1 outc1 k2 w3 ->
 (((k2 < (ll:Int)) ->
 l ≠ none /\
 (0:Int) <= k2 /\
 (k2:Int) < (ll:Int) /\
 ∃ t4:Int,cell w3 (pIdx l k2 1) 0 = some (.int .i64 t4) /\
 ∀ w5,Ext w3 w5 ->
 FnP Tryz.prog F_strconv_Itoa #[(.int .i64 t4)] w5 fun v6 w6 =>
 Ext w5 w6 /\
 ∃ t7:ByteArray,v6 = (.string t7) /\
 ∀ w8,Ext w3 w8 ->
 Run Tryz.prog (.buildSlice 185 1 [(0,(.string t7))]) w8 fun v9 w9 =>
 Ext w8 w9 /\
 ∃ t10:Option Addr,∃ tl11:Nat,∃ tc12:Nat,v9 = (.slice t10 tl11 tc12) /\
 ∀ w13,Ext w9 w13 ->
 Run Tryz.prog (.append #[185,185] 185 [(.slice out1 outl1 outc1),(.slice t10 tl11 tc12)]) w13 fun v14 w14 =>
 ∃ t15:Option Addr,∃ tl16:Nat,∃ tc17:Nat,v14 = (.slice t15 tl16 tc17) /\
 InR .i64 (k2 + 1) /\
 (I0 t15 tl16 tc17 (k2 + 1) w14/\M0 t15 tl16 tc17 (k2 + 1) w14 < M0 out1 outl1 outc1 k2 w3))) /\
 (((ll:Int) <= k2) ->
 ∀ w4,Ext w3 w4 ->
 FnP Tryz.prog F_strings_Join #[(.slice out1 outl1 outc1),(.string (⟨#[44]⟩:ByteArray))] w4 fun v5 w5 =>
 Ext w4 w5 /\
 ∃ t6:ByteArray,v5 = (.string t6) /\
 ∀ w7,Ext w3 w7 ->
 Q (.string t6) w7))
theorem ok_job_after (l:Option Addr) (ll:Nat) (lc:Nat) (w:World) (Q:Value->World->Prop) (h:wp_job_after l ll lc w Q):FnP Tryz.prog F_job_after #[(.slice l ll lc)] w Q:=by
  have e_:wp_job_after l ll lc w Q = Runs Tryz.prog Q ({ N:=23,wrap:=[],pub:=[],muts:=[],joins:=[] }:Cfg) Tryz.f105 (Tryz.f105.body.getD .skip) [.sc (.slc l ll lc)] w:=by kernel_rfl
  rw [e_] at h
  exact runs_fn h Tryz.func105 (by kernel_rfl) (fun args w=>Tryz.call105 args w) (by kernel_rfl) (by kernel_rfl) rfl rfl
def wp_job_Text (j_0:ByteArray) (j_1:Int) (j_2:Int) (j_3:Int) (j_4:Int) (j_5:Int) (j_6:ByteArray) (j_7:ByteArray) (j_8:Int) (j_9:Option Addr) (j_9l:Nat) (j_9c:Nat) (j_10:Option Addr) (j_10l:Nat) (j_10c:Nat) (w:World) (Q:Value->World->Prop):Prop :=
 ∀ b0:Nat,w.heap.size <= b0->∀ w1,Ext w w1 ->
 FnP Tryz.prog F_job_Check #[(.agg #[(.string j_0),(.int .i64 j_1),(.int .i64 j_2),(.int .i64 j_3),(.int .i64 j_4),(.int .i64 j_5),(.string j_6),(.string j_7),(.int .i64 j_8),(.slice j_9 j_9l j_9c),(.slice j_10 j_10l j_10c)])] w1 fun v2 w2 =>
 Ext w1 w2 /\
 ∃ t3:Int,v2 = (.int .i64 t3) /\
 ((t3 ≠ 0) ->
 ∀ w4,Ext w w4 ->
 Q (.tuple #[(.string (⟨#[]⟩:ByteArray)),(.int .i64 t3)]) w4) /\
 ((t3 = 0) ->
 ∀ w4,Ext w w4 ->
 FnP Tryz.prog F_need_Text #[(.agg #[(.int .i64 j_2),(.int .i64 j_3),(.int .i64 j_4)])] w4 fun v5 w5 =>
 Ext w4 w5 /\
 ∃ t6:ByteArray,∃ t7:Int,v5 = (.tuple #[(.string t6),(.int .i64 t7)]) /\
 ∀ w8,Ext w w8 ->
 FnP Tryz.prog F_ask_Text #[(.agg #[(.int .i64 j_5),(.string j_6),(.string j_7),(.int .i64 j_8),(.slice j_9 j_9l j_9c)])] w8 fun v9 w9 =>
 Ext w8 w9 /\
 ∃ t10:ByteArray,∃ t11:Int,v9 = (.tuple #[(.string t10),(.int .i64 t11)]) /\
 ∀ w12,Ext w w12 ->
 FnP Tryz.prog F_strconv_Itoa #[(.int .i64 j_1)] w12 fun v13 w13 =>
 Ext w12 w13 /\
 ∃ t14:ByteArray,v13 = (.string t14) /\
 ∀ w15,Ext w w15 ->
 FnP Tryz.prog F_job_after #[(.slice j_10 j_10l j_10c)] w15 fun v16 w16 =>
 Ext w15 w16 /\
 ∃ t17:ByteArray,v16 = (.string t17) /\
 ∀ w18,ExtB [] [b0] w w18 ->
 Run Tryz.prog (.buildSlice 185 5 [(0,(.string j_0)),(1,(.string t14)),(2,(.string t6)),(3,(.string t17)),(4,(.string t10))]) w18 fun v19 w19 =>
 Ext w18 w19 /\
 ∃ t20:Option Addr,∃ tl21:Nat,∃ tc22:Nat,v19 = (.slice t20 tl21 tc22) /\
 ∀ w23,Ext w19 w23 ->
 FnP Tryz.prog F_strings_Join #[(.slice t20 tl21 tc22),(.string (⟨#[32]⟩:ByteArray))] w23 fun v24 w24 =>
 Ext w23 w24 /\
 ∃ t25:ByteArray,v24 = (.string t25) /\
 ∀ w26,Ext w19 w26 ->
 Q (.tuple #[(.string t25),(.int .i64 0)]) w26)
theorem ok_job_Text (j_0:ByteArray) (j_1:Int) (j_2:Int) (j_3:Int) (j_4:Int) (j_5:Int) (j_6:ByteArray) (j_7:ByteArray) (j_8:Int) (j_9:Option Addr) (j_9l:Nat) (j_9c:Nat) (j_10:Option Addr) (j_10l:Nat) (j_10c:Nat) (w:World) (Q:Value->World->Prop) (h:wp_job_Text j_0 j_1 j_2 j_3 j_4 j_5 j_6 j_7 j_8 j_9 j_9l j_9c j_10 j_10l j_10c w Q):FnP Tryz.prog F_job_Text #[(.agg #[(.string j_0),(.int .i64 j_1),(.int .i64 j_2),(.int .i64 j_3),(.int .i64 j_4),(.int .i64 j_5),(.string j_6),(.string j_7),(.int .i64 j_8),(.slice j_9 j_9l j_9c),(.slice j_10 j_10l j_10c)])] w Q:=by
  have e_:wp_job_Text j_0 j_1 j_2 j_3 j_4 j_5 j_6 j_7 j_8 j_9 j_9l j_9c j_10 j_10l j_10c w Q = Runs Tryz.prog Q ({ N:=38,wrap:=[],pub:=[],muts:=[],joins:=[] }:Cfg) Tryz.f73 (Tryz.f73.body.getD .skip) [.agg [.str j_0,.int .i64 j_1,.int .i64 j_2,.int .i64 j_3,.int .i64 j_4,.int .i64 j_5,.str j_6,.str j_7,.int .i64 j_8,.slc j_9 j_9l j_9c,.slc j_10 j_10l j_10c]] w:=by kernel_rfl
  rw [e_] at h
  exact runs_fn h Tryz.func73 (by kernel_rfl) (fun args w=>Tryz.call73 args w) (by kernel_rfl) (by kernel_rfl) rfl rfl
def wp_job_Read (s:ByteArray) (w:World) (Q:Value->World->Prop):Prop :=
 ∀ b0:Nat,w.heap.size <= b0->((3000 < (s.size:Int)) ->
 ∀ w1,Ext w w1 ->
 Q (.tuple #[(.agg #[(.string (⟨#[]⟩:ByteArray)),(.int .i64 0),(.int .i64 0),(.int .i64 0),(.int .i64 0),(.int .i64 0),(.string (⟨#[]⟩:ByteArray)),(.string (⟨#[]⟩:ByteArray)),(.int .i64 0),(.slice none 0 0),(.slice none 0 0)]),(.int .i64 2)]) w1) /\
 (((s.size:Int) <= 3000) ->
 ∀ w1,ExtB [] [b0] w w1 ->
 FnP Tryz.prog F_strings_Split #[(.string s),(.string (⟨#[32]⟩:ByteArray))] w1 fun v2 w2 =>
 Ext w1 w2 /\
 ∃ t3:Option Addr,∃ tl4:Nat,∃ tc5:Nat,v2 = (.slice t3 tl4 tc5) /\
 (((tl4:Int) ≠ 5) ->
 ∀ w6,ExtB [b0] [] w2 w6 ->
 Q (.tuple #[(.agg #[(.string (⟨#[]⟩:ByteArray)),(.int .i64 0),(.int .i64 0),(.int .i64 0),(.int .i64 0),(.int .i64 0),(.string (⟨#[]⟩:ByteArray)),(.string (⟨#[]⟩:ByteArray)),(.int .i64 0),(.slice none 0 0),(.slice none 0 0)]),(.int .i64 3)]) w6) /\
 (((tl4:Int) = 5) ->
 t3 ≠ none /\
 (0:Int) <= 0 /\
 (0:Int) < (tl4:Int) /\
 ∃ t6:ByteArray,cell w2 (pIdx t3 0 1) 0 = some (.string t6) /\
 ∀ b7:Nat,w2.heap.size <= b7->t3 ≠ none /\
 (0:Int) <= 1 /\
 (1:Int) < (tl4:Int) /\
 ∃ t8:ByteArray,cell w2 (pIdx t3 1 1) 0 = some (.string t8) /\
 ∀ w9,ExtB [] [b0,b7] w2 w9 ->
 FnP Tryz.prog F_strconv_Atoi #[(.string t8)] w9 fun v10 w10 =>
 Ext w9 w10 /\
 ∃ t11:Int,∃ t12:Value,v10 = (.tuple #[(.int .i64 t11),t12]) /\
 t3 ≠ none /\
 (0:Int) <= 2 /\
 (2:Int) < (tl4:Int) /\
 ∃ t13:ByteArray,((cell w10 (pIdx t3 2 1) 0 = some (.string t13)/\Free [b7] (pIdx t3 2 1))) /\
 ∀ w14,ExtB [b7] [] w10 w14 ->
 FnP Tryz.prog F_need_Read #[(.string t13)] w14 fun v15 w15 =>
 Ext w14 w15 /\
 ∃ t_016:Int,∃ t_117:Int,∃ t_218:Int,∃ t19:Int,v15 = (.tuple #[(.agg #[(.int .i64 t_016),(.int .i64 t_117),(.int .i64 t_218)]),(.int .i64 t19)]) /\
 t3 ≠ none /\
 (0:Int) <= 4 /\
 (4:Int) < (tl4:Int) /\
 ∃ t20:ByteArray,((cell w10 (pIdx t3 4 1) 0 = some (.string t20)/\Free [b7] (pIdx t3 4 1))) /\
 ∀ w21,ExtB [b7] [b0,b7] w10 w21 ->
 FnP Tryz.prog F_ask_Read #[(.string t20)] w21 fun v22 w22 =>
 Ext w21 w22 /\
 ∃ t_023:Int,∃ t_124:ByteArray,∃ t_225:ByteArray,∃ t_326:Int,∃ t_427:Option Addr,∃ t_4l28:Nat,∃ t_4c29:Nat,∃ t30:Int,v22 = (.tuple #[(.agg #[(.int .i64 t_023),(.string t_124),(.string t_225),(.int .i64 t_326),(.slice t_427 t_4l28 t_4c29)]),(.int .i64 t30)]) /\
 ∀ w31,ExtB [b7] [] w22 w31 ->
 Run Tryz.prog (.eq .neq 188 false true t12 .nilIface) w31 fun v32 w32 =>
 Ext w31 w32 /\
 ∃ t33:Bool,v32 = (.bool t33) /\
 ((((t33 = true)\/(t19 ≠ 0))\/(t30 ≠ 0)) ->
 ∀ w34,ExtB [b0,b7] [] w22 w34 ->
 Q (.tuple #[(.agg #[(.string (⟨#[]⟩:ByteArray)),(.int .i64 0),(.int .i64 0),(.int .i64 0),(.int .i64 0),(.int .i64 0),(.string (⟨#[]⟩:ByteArray)),(.string (⟨#[]⟩:ByteArray)),(.int .i64 0),(.slice none 0 0),(.slice none 0 0)]),(.int .i64 3)]) w34) /\
 ((((t33 = false)/\(t19 = 0))/\(t30 = 0)) ->
 t3 ≠ none /\
 (0:Int) <= 3 /\
 (3:Int) < (tl4:Int) /\
 ∃ t34:ByteArray,((cell w22 (pIdx t3 3 1) 0 = some (.string t34)/\Free [b7] (pIdx t3 3 1))) /\
 (((t34 ≠ (⟨#[45]⟩:ByteArray)) ->
 t3 ≠ none /\
 (0:Int) <= 3 /\
 (3:Int) < (tl4:Int) /\
 ∃ t35:ByteArray,((cell w22 (pIdx t3 3 1) 0 = some (.string t35)/\Free [b7] (pIdx t3 3 1))) /\
 ∀ w36,ExtB [b7] [b0,b7] w22 w36 ->
 FnP Tryz.prog F_strings_Split #[(.string t35),(.string (⟨#[44]⟩:ByteArray))] w36 fun v37 w37 =>
 Ext w36 w37 /\
 ∃ t38:Option Addr,∃ tl39:Nat,∃ tc40:Nat,v37 = (.slice t38 tl39 tc40) /\
 ∃ (I41:Int->ByteArray->Int->Int->Int->Int->Int->ByteArray->ByteArray->Int->Option Addr->Nat->Nat->Option Addr->Nat->Nat->World->Prop) (M41:Int->ByteArray->Int->Int->Int->Int->Int->ByteArray->ByteArray->Int->Option Addr->Nat->Nat->Option Addr->Nat->Nat->World->Nat),I41 0 t6 t11 t_016 t_117 t_218 t_023 t_124 t_225 t_326 t_427 t_4l28 t_4c29 none 0 0 w37 /\
 ∀ (k42:Int) (c43:ByteArray) (c44:Int) (c45:Int) (c46:Int) (c47:Int) (c48:Int) (c49:ByteArray) (c50:ByteArray) (c51:Int) (c52:Option Addr) (cl52:Nat) (cc52:Nat) (c53:Option Addr) (cl53:Nat) (cc53:Nat) (w54:World),I41 k42 c43 c44 c45 c46 c47 c48 c49 c50 c51 c52 cl52 cc52 c53 cl53 cc53 w54 ->
 (((k42 < (tl39:Int)) ->
 t38 ≠ none /\
 (0:Int) <= k42 /\
 (k42:Int) < (tl39:Int) /\
 ∃ t55:ByteArray,((cell w54 (pIdx t38 k42 1) 0 = some (.string t55)/\Free [b7] (pIdx t38 k42 1))) /\
 ∀ w56,ExtB [b7] [b0,b7] w54 w56 ->
 FnP Tryz.prog F_strconv_Atoi #[(.string t55)] w56 fun v57 w57 =>
 Ext w56 w57 /\
 ∃ t58:Int,∃ t59:Value,v57 = (.tuple #[(.int .i64 t58),t59]) /\
 ∀ w60,Ext w57 w60 ->
 Run Tryz.prog (.eq .neq 188 false true t59 .nilIface) w60 fun v61 w61 =>
 Ext w60 w61 /\
 ∃ t62:Bool,v61 = (.bool t62) /\
 ((t62 = true) ->
 ∀ w63,ExtB [b0] [] w57 w63 ->
 Q (.tuple #[(.agg #[(.string (⟨#[]⟩:ByteArray)),(.int .i64 0),(.int .i64 0),(.int .i64 0),(.int .i64 0),(.int .i64 0),(.string (⟨#[]⟩:ByteArray)),(.string (⟨#[]⟩:ByteArray)),(.int .i64 0),(.slice none 0 0),(.slice none 0 0)]),(.int .i64 3)]) w63) /\
 ((t62 = false) ->
 ∀ w63,ExtB [] [b0,b7] w57 w63 ->
 Run Tryz.prog (.buildSlice 38 1 [(0,(.int .i64 t58))]) w63 fun v64 w64 =>
 Ext w63 w64 /\
 ∃ t65:Option Addr,∃ tl66:Nat,∃ tc67:Nat,v64 = (.slice t65 tl66 tc67) /\
 ∀ w68,ExtB [] [b0,b7] w64 w68 ->
 Run Tryz.prog (.append #[38,38] 38 [(.slice c53 cl53 cc53),(.slice t65 tl66 tc67)]) w68 fun v69 w69 =>
 Kept [b0,b7] w68 w69 /\
 ∃ t70:Option Addr,∃ tl71:Nat,∃ tc72:Nat,v69 = (.slice t70 tl71 tc72) /\
 InR .i64 (k42 + 1) /\
 (I41 (k42 + 1) c43 c44 c45 c46 c47 c48 c49 c50 c51 c52 cl52 cc52 t70 tl71 tc72 w69/\M41 (k42 + 1) c43 c44 c45 c46 c47 c48 c49 c50 c51 c52 cl52 cc52 t70 tl71 tc72 w69 < M41 k42 c43 c44 c45 c46 c47 c48 c49 c50 c51 c52 cl52 cc52 c53 cl53 cc53 w54)))) /\
 (((tl39:Int) <= k42) ->
 ∀ w55,ExtB [b7] [] w54 w55 ->
 FnP Tryz.prog F_job_Text #[(.agg #[(.string c43),(.int .i64 c44),(.int .i64 c45),(.int .i64 c46),(.int .i64 c47),(.int .i64 c48),(.string c49),(.string c50),(.int .i64 c51),(.slice c52 cl52 cc52),(.slice c53 cl53 cc53)])] w55 fun v56 w56 =>
 Ext w55 w56 /\
 ∃ t57:ByteArray,∃ t58:Int,v56 = (.tuple #[(.string t57),(.int .i64 t58)]) /\
 (((t58 ≠ 0)\/(t57 ≠ s)) ->
 ∀ w59,ExtB [b0,b7] [] w54 w59 ->
 Q (.tuple #[(.agg #[(.string (⟨#[]⟩:ByteArray)),(.int .i64 0),(.int .i64 0),(.int .i64 0),(.int .i64 0),(.int .i64 0),(.string (⟨#[]⟩:ByteArray)),(.string (⟨#[]⟩:ByteArray)),(.int .i64 0),(.slice none 0 0),(.slice none 0 0)]),(.int .i64 3)]) w59) /\
 (((t58 = 0)/\(t57 = s)) ->
 ∀ w59,ExtB [b0,b7] [] w54 w59 ->
 Q (.tuple #[(.agg #[(.string c43),(.int .i64 c44),(.int .i64 c45),(.int .i64 c46),(.int .i64 c47),(.int .i64 c48),(.string c49),(.string c50),(.int .i64 c51),(.slice c52 cl52 cc52),(.slice c53 cl53 cc53)]),(.int .i64 0)]) w59)))) /\
 ((t34 = (⟨#[45]⟩:ByteArray)) ->
 ∀ w35,ExtB [b7] [] w22 w35 ->
 FnP Tryz.prog F_job_Text #[(.agg #[(.string t6),(.int .i64 t11),(.int .i64 t_016),(.int .i64 t_117),(.int .i64 t_218),(.int .i64 t_023),(.string t_124),(.string t_225),(.int .i64 t_326),(.slice t_427 t_4l28 t_4c29),(.slice none 0 0)])] w35 fun v36 w36 =>
 Ext w35 w36 /\
 ∃ t37:ByteArray,∃ t38:Int,v36 = (.tuple #[(.string t37),(.int .i64 t38)]) /\
 (((t38 ≠ 0)\/(t37 ≠ s)) ->
 ∀ w39,ExtB [b0,b7] [] w22 w39 ->
 Q (.tuple #[(.agg #[(.string (⟨#[]⟩:ByteArray)),(.int .i64 0),(.int .i64 0),(.int .i64 0),(.int .i64 0),(.int .i64 0),(.string (⟨#[]⟩:ByteArray)),(.string (⟨#[]⟩:ByteArray)),(.int .i64 0),(.slice none 0 0),(.slice none 0 0)]),(.int .i64 3)]) w39) /\
 (((t38 = 0)/\(t37 = s)) ->
 ∀ w39,ExtB [b0,b7] [] w22 w39 ->
 Q (.tuple #[(.agg #[(.string t6),(.int .i64 t11),(.int .i64 t_016),(.int .i64 t_117),(.int .i64 t_218),(.int .i64 t_023),(.string t_124),(.string t_225),(.int .i64 t_326),(.slice t_427 t_4l28 t_4c29),(.slice none 0 0)]),(.int .i64 0)]) w39)))))
theorem ok_job_Read (s:ByteArray) (w:World) (Q:Value->World->Prop) (h:wp_job_Read s w Q):FnP Tryz.prog F_job_Read #[(.string s)] w Q:=by
  have e_:wp_job_Read s w Q = Runs Tryz.prog Q ({ N:=106,wrap:=[],pub:=[],muts:=[],joins:=[] }:Cfg) Tryz.f75 (Tryz.f75.body.getD .skip) [.sc (.str s)] w:=by kernel_rfl
  rw [e_] at h
  exact runs_fn h Tryz.func75 (by kernel_rfl) (fun args w=>Tryz.call75 args w) (by kernel_rfl) (by kernel_rfl) rfl rfl
def wp_shiftbellkeep_sameJob (a_0:ByteArray) (a_1:Int) (a_2:Int) (a_3:Int) (a_4:Int) (a_5:Int) (a_6:ByteArray) (a_7:ByteArray) (a_8:Int) (a_9:Option Addr) (a_9l:Nat) (a_9c:Nat) (a_10:Option Addr) (a_10l:Nat) (a_10c:Nat) (b_0:ByteArray) (b_1:Int) (b_2:Int) (b_3:Int) (b_4:Int) (b_5:Int) (b_6:ByteArray) (b_7:ByteArray) (b_8:Int) (b_9:Option Addr) (b_9l:Nat) (b_9c:Nat) (b_10:Option Addr) (b_10l:Nat) (b_10c:Nat) (w:World) (Q:Value->World->Prop):Prop :=
 ∀ b0:Nat,w.heap.size <= b0->∀ b1:Nat,w.heap.size <= b1->((((a_0 = b_0)/\(a_1 = b_1)) ->
 ∀ w2,Ext w w2 ->
 Run Tryz.prog (.eq .eql 34 false false (.agg #[(.int .i64 a_2),(.int .i64 a_3),(.int .i64 a_4)]) (.agg #[(.int .i64 b_2),(.int .i64 b_3),(.int .i64 b_4)])) w2 fun v3 w3 =>
 Ext w2 w3 /\
 ∃ t4:Bool,v3 = (.bool t4) /\
 (((t4 = true) ->
 ∀ w5,Ext w w5 ->
 FnP Tryz.prog F_shiftbellkeep_sameAsk #[(.agg #[(.int .i64 a_5),(.string a_6),(.string a_7),(.int .i64 a_8),(.slice a_9 a_9l a_9c)]),(.agg #[(.int .i64 b_5),(.string b_6),(.string b_7),(.int .i64 b_8),(.slice b_9 b_9l b_9c)])] w5 fun v6 w6 =>
 Ext w5 w6 /\
 ∃ t7:Bool,v6 = (.bool t7) /\
 (((t7 = true) ->
 ∀ w8,Ext w w8 ->
 FnP Tryz.prog F_slices_Equal_int_int #[(.slice a_10 a_10l a_10c),(.slice b_10 b_10l b_10c)] w8 fun v9 w9 =>
 Ext w8 w9 /\
 ∃ t10:Bool,v9 = (.bool t10) /\
 ∀ w11,Ext w w11 ->
 Q (.bool t10) w11)) /\
 ((t7 = false) ->
 ∀ w8,Ext w w8 ->
 Q (.bool false) w8))) /\
 ((t4 = false) ->
 ∀ w5,Ext w w5 ->
 Q (.bool false) w5))) /\
 (((a_0 ≠ b_0)\/(a_1 ≠ b_1)) ->
 ∀ w2,Ext w w2 ->
 Q (.bool false) w2)
theorem ok_shiftbellkeep_sameJob (a_0:ByteArray) (a_1:Int) (a_2:Int) (a_3:Int) (a_4:Int) (a_5:Int) (a_6:ByteArray) (a_7:ByteArray) (a_8:Int) (a_9:Option Addr) (a_9l:Nat) (a_9c:Nat) (a_10:Option Addr) (a_10l:Nat) (a_10c:Nat) (b_0:ByteArray) (b_1:Int) (b_2:Int) (b_3:Int) (b_4:Int) (b_5:Int) (b_6:ByteArray) (b_7:ByteArray) (b_8:Int) (b_9:Option Addr) (b_9l:Nat) (b_9c:Nat) (b_10:Option Addr) (b_10l:Nat) (b_10c:Nat) (w:World) (Q:Value->World->Prop) (h:wp_shiftbellkeep_sameJob a_0 a_1 a_2 a_3 a_4 a_5 a_6 a_7 a_8 a_9 a_9l a_9c a_10 a_10l a_10c b_0 b_1 b_2 b_3 b_4 b_5 b_6 b_7 b_8 b_9 b_9l b_9c b_10 b_10l b_10c w Q):FnP Tryz.prog F_shiftbellkeep_sameJob #[(.agg #[(.string a_0),(.int .i64 a_1),(.int .i64 a_2),(.int .i64 a_3),(.int .i64 a_4),(.int .i64 a_5),(.string a_6),(.string a_7),(.int .i64 a_8),(.slice a_9 a_9l a_9c),(.slice a_10 a_10l a_10c)]),(.agg #[(.string b_0),(.int .i64 b_1),(.int .i64 b_2),(.int .i64 b_3),(.int .i64 b_4),(.int .i64 b_5),(.string b_6),(.string b_7),(.int .i64 b_8),(.slice b_9 b_9l b_9c),(.slice b_10 b_10l b_10c)])] w Q:=by
  have e_:wp_shiftbellkeep_sameJob a_0 a_1 a_2 a_3 a_4 a_5 a_6 a_7 a_8 a_9 a_9l a_9c a_10 a_10l a_10c b_0 b_1 b_2 b_3 b_4 b_5 b_6 b_7 b_8 b_9 b_9l b_9c b_10 b_10l b_10c w Q = Runs Tryz.prog Q ({ N:=38,wrap:=[],pub:=[],muts:=[],joins:=[] }:Cfg) Tryz.f51 (Tryz.f51.body.getD .skip) [.agg [.str a_0,.int .i64 a_1,.int .i64 a_2,.int .i64 a_3,.int .i64 a_4,.int .i64 a_5,.str a_6,.str a_7,.int .i64 a_8,.slc a_9 a_9l a_9c,.slc a_10 a_10l a_10c],.agg [.str b_0,.int .i64 b_1,.int .i64 b_2,.int .i64 b_3,.int .i64 b_4,.int .i64 b_5,.str b_6,.str b_7,.int .i64 b_8,.slc b_9 b_9l b_9c,.slc b_10 b_10l b_10c]] w:=by kernel_rfl
  rw [e_] at h
  exact runs_fn h Tryz.func51 (by kernel_rfl) (fun args w=>Tryz.call51 args w) (by kernel_rfl) (by kernel_rfl) rfl rfl
def wp_slices_Equal_int_int (s1:Option Addr) (s1l:Nat) (s1c:Nat) (s2:Option Addr) (s2l:Nat) (s2c:Nat) (w:World) (Q:Value->World->Prop):Prop :=
 (((s1l:Int) ≠ (s2l:Int)) ->
 ∀ w0,Ext w w0 ->
 Q (.bool false) w0) /\
 (((s1l:Int) = (s2l:Int)) ->
 ∃ (I0:Int->World->Prop) (M0:Int->World->Nat),I0 0 w /\
 ∀ (k1:Int) (w2:World),I0 k1 w2 ->
 (((k1 < (s1l:Int)) ->
 s1 ≠ none /\
 (0:Int) <= k1 /\
 (k1:Int) < (s1l:Int) /\
 ∃ t3:Int,cell w2 (pIdx s1 k1 1) 0 = some (.int .i64 t3) /\
 s2 ≠ none /\
 (0:Int) <= k1 /\
 (k1:Int) < (s2l:Int) /\
 ∃ t4:Int,cell w2 (pIdx s2 k1 1) 0 = some (.int .i64 t4) /\
 ((t3 ≠ t4) ->
 ∀ w5,Ext w2 w5 ->
 Q (.bool false) w5) /\
 ((t3 = t4) ->
 InR .i64 (k1 + 1) /\
 (I0 (k1 + 1) w2/\M0 (k1 + 1) w2 < M0 k1 w2)))) /\
 (((s1l:Int) <= k1) ->
 ∀ w3,Ext w2 w3 ->
 Q (.bool true) w3))
theorem ok_slices_Equal_int_int (s1:Option Addr) (s1l:Nat) (s1c:Nat) (s2:Option Addr) (s2l:Nat) (s2c:Nat) (w:World) (Q:Value->World->Prop) (h:wp_slices_Equal_int_int s1 s1l s1c s2 s2l s2c w Q):FnP Tryz.prog F_slices_Equal_int_int #[(.slice s1 s1l s1c),(.slice s2 s2l s2c)] w Q:=by
  have e_:wp_slices_Equal_int_int s1 s1l s1c s2 s2l s2c w Q = Runs Tryz.prog Q ({ N:=26,wrap:=[],pub:=[],muts:=[],joins:=[] }:Cfg) Tryz.f77 (Tryz.f77.body.getD .skip) [.sc (.slc s1 s1l s1c),.sc (.slc s2 s2l s2c)] w:=by kernel_rfl
  rw [e_] at h
  exact runs_fn h Tryz.func77 (by kernel_rfl) (fun args w=>Tryz.call77 args w) (by kernel_rfl) (by kernel_rfl) rfl rfl
end Go.Proofs.YtegephkpdlopaaaGreatDoor
set_option linter.unusedVariables false
set_option linter.unusedSimpArgs false
set_option maxRecDepth 100000
namespace Go.Proofs.YtegephkpdlopaaaGreatDoor
open Go.Sx Go.RowKit
abbrev F_journal_Cut:FuncId:=25
abbrev F_event_Decode:FuncId:=47
def wp_event_Decode (b:Option Addr) (bl:Nat) (bc:Nat) (w:World) (Q:Value->World->Prop):Prop :=
 ∀ b0:Nat,w.heap.size <= b0->((3001 < (bl:Int)) ->
 ∀ w1,Ext w w1 ->
 Q (.tuple #[(.agg #[(.int .i64 0),(.string (⟨#[]⟩:ByteArray)),(.int .i64 0),(.int .i64 0),(.int .i64 0),(.int .i64 0),(.int .i64 0),(.string (⟨#[]⟩:ByteArray)),(.string (⟨#[]⟩:ByteArray)),(.int .i64 0),(.slice none 0 0),(.slice none 0 0),(.int .i64 0),(.int .i64 0),(.bool false)]),(.int .i64 2)]) w1) /\
 (((bl:Int) <= 3001) ->
 (((bl:Int) = 0) ->
 ∀ w1,Ext w w1 ->
 Q (.tuple #[(.agg #[(.int .i64 0),(.string (⟨#[]⟩:ByteArray)),(.int .i64 0),(.int .i64 0),(.int .i64 0),(.int .i64 0),(.int .i64 0),(.string (⟨#[]⟩:ByteArray)),(.string (⟨#[]⟩:ByteArray)),(.int .i64 0),(.slice none 0 0),(.slice none 0 0),(.int .i64 0),(.int .i64 0),(.bool false)]),(.int .i64 3)]) w1) /\
 (((bl:Int) ≠ 0) ->
 b ≠ none /\
 (0:Int) <= 0 /\
 (0:Int) < (bl:Int) /\
 ∃ t1:Int,cell w (pIdx b 0 1) 0 = some (.int .u8 t1) /\
 InR .i64 t1 /\
 ∀ b2:Nat,w.heap.size <= b2->(0:Int) <= 1 /\
 (1:Int) <= (bl:Int) /\
 ((bl:Int):Int) <= (bc:Int) /\
 (0:Int) <= 0 /\
 (0:Int) <= (min 4 ((((bl:Int) - 1).toNat:Nat):Int)) /\
 ((min 4 ((((bl:Int) - 1).toNat:Nat):Int)):Int) <= (((bc - (1:Int).toNat):Nat):Int) /\
 ∃ (I3:Int->Int->World->Prop) (M3:Int->Int->World->Nat),I3 0 0 w /\
 ∀ (n4:Int) (k5:Int) (w6:World),I3 n4 k5 w6 ->
 (((k5 < ((((min 4 ((((bl:Int) - 1).toNat:Nat):Int)) - 0).toNat:Nat):Int)) ->
 (pCut (pCut b bc 1 1) (bc - (1:Int).toNat) 0 1) ≠ none /\
 (0:Int) <= k5 /\
 (k5:Int) < ((((min 4 ((((bl:Int) - 1).toNat:Nat):Int)) - 0).toNat:Nat):Int) /\
 ∃ t7:Int,cell w6 (pIdx (pCut (pCut b bc 1 1) (bc - (1:Int).toNat) 0 1) k5 1) 0 = some (.int .u8 t7) /\
 InR .i64 t7 /\
 InR .i64 (k5 + 1) /\
 (I3 (iBit .or .i64 (iBit .shl .i64 n4 8) t7) (k5 + 1) w6/\M3 (iBit .or .i64 (iBit .shl .i64 n4 8) t7) (k5 + 1) w6 < M3 n4 k5 w6))) /\
 ((((((min 4 ((((bl:Int) - 1).toNat:Nat):Int)) - 0).toNat:Nat):Int) <= k5) ->
 (((t1 = 1) ->
 ∀ w7,Ext w6 w7 ->
 Run Tryz.prog (.convert 48 9 (.slice (pCut b bc 1 1) ((bl:Int) - 1).toNat (bc - (1:Int).toNat))) w7 fun v8 w8 =>
 Ext w7 w8 /\
 ∃ t9:ByteArray,v8 = (.string t9) /\
 ∀ w10,ExtB [] [b0,b2] w6 w10 ->
 FnP Tryz.prog F_job_Read #[(.string t9)] w10 fun v11 w11 =>
 Ext w10 w11 /\
 ∃ t_012:ByteArray,∃ t_113:Int,∃ t_214:Int,∃ t_315:Int,∃ t_416:Int,∃ t_517:Int,∃ t_618:ByteArray,∃ t_719:ByteArray,∃ t_820:Int,∃ t_921:Option Addr,∃ t_9l22:Nat,∃ t_9c23:Nat,∃ t_1024:Option Addr,∃ t_10l25:Nat,∃ t_10c26:Nat,∃ t27:Int,v11 = (.tuple #[(.agg #[(.string t_012),(.int .i64 t_113),(.int .i64 t_214),(.int .i64 t_315),(.int .i64 t_416),(.int .i64 t_517),(.string t_618),(.string t_719),(.int .i64 t_820),(.slice t_921 t_9l22 t_9c23),(.slice t_1024 t_10l25 t_10c26)]),(.int .i64 t27)]) /\
 ∀ b28:Nat,w11.heap.size <= b28->((t27 ≠ 0) ->
 ∀ w29,ExtB [b0] [] w11 w29 ->
 Q (.tuple #[(.agg #[(.int .i64 0),(.string (⟨#[]⟩:ByteArray)),(.int .i64 0),(.int .i64 0),(.int .i64 0),(.int .i64 0),(.int .i64 0),(.string (⟨#[]⟩:ByteArray)),(.string (⟨#[]⟩:ByteArray)),(.int .i64 0),(.slice none 0 0),(.slice none 0 0),(.int .i64 0),(.int .i64 0),(.bool false)]),(.int .i64 3)]) w29) /\
 ((t27 = 0) ->
 ∀ w29,ExtB [b2] [b0,b2,b28] w11 w29 ->
 FnP Tryz.prog F_event_Encode #[(.agg #[(.int .i64 t1),(.string t_012),(.int .i64 t_113),(.int .i64 t_214),(.int .i64 t_315),(.int .i64 t_416),(.int .i64 t_517),(.string t_618),(.string t_719),(.int .i64 t_820),(.slice t_921 t_9l22 t_9c23),(.slice t_1024 t_10l25 t_10c26),(.int .i64 0),(.int .i64 0),(.bool false)])] w29 fun v30 w30 =>
 Ext w29 w30 /\
 ∃ t31:Option Addr,∃ tl32:Nat,∃ tc33:Nat,∃ t34:Int,v30 = (.tuple #[(.slice t31 tl32 tc33),(.int .i64 t34)]) /\
 ((t34 ≠ 0) ->
 ∀ w35,ExtB [b0] [] w30 w35 ->
 Q (.tuple #[(.agg #[(.int .i64 0),(.string (⟨#[]⟩:ByteArray)),(.int .i64 0),(.int .i64 0),(.int .i64 0),(.int .i64 0),(.int .i64 0),(.string (⟨#[]⟩:ByteArray)),(.string (⟨#[]⟩:ByteArray)),(.int .i64 0),(.slice none 0 0),(.slice none 0 0),(.int .i64 0),(.int .i64 0),(.bool false)]),(.int .i64 3)]) w35) /\
 ((t34 = 0) ->
 ∀ w35,Ext w30 w35 ->
 FnP Tryz.prog F_bytes_Equal #[(.slice t31 tl32 tc33),(.slice b bl bc)] w35 fun v36 w36 =>
 Ext w35 w36 /\
 ∃ t37:Bool,v36 = (.bool t37) /\
 ((t37 = false) ->
 ∀ w38,ExtB [b0] [] w30 w38 ->
 Q (.tuple #[(.agg #[(.int .i64 0),(.string (⟨#[]⟩:ByteArray)),(.int .i64 0),(.int .i64 0),(.int .i64 0),(.int .i64 0),(.int .i64 0),(.string (⟨#[]⟩:ByteArray)),(.string (⟨#[]⟩:ByteArray)),(.int .i64 0),(.slice none 0 0),(.slice none 0 0),(.int .i64 0),(.int .i64 0),(.bool false)]),(.int .i64 3)]) w38) /\
 ((t37 = true) ->
 ∀ w38,ExtB [b0] [] w30 w38 ->
 Q (.tuple #[(.agg #[(.int .i64 t1),(.string t_012),(.int .i64 t_113),(.int .i64 t_214),(.int .i64 t_315),(.int .i64 t_416),(.int .i64 t_517),(.string t_618),(.string t_719),(.int .i64 t_820),(.slice t_921 t_9l22 t_9c23),(.slice t_1024 t_10l25 t_10c26),(.int .i64 0),(.int .i64 0),(.bool false)]),(.int .i64 0)]) w38))))) /\
 ((t1 ≠ 1) ->
 (((t1 = 2) ->
 ∀ w7,ExtB [b2] [b0,b2] w6 w7 ->
 FnP Tryz.prog F_event_Encode #[(.agg #[(.int .i64 t1),(.string (⟨#[]⟩:ByteArray)),(.int .i64 0),(.int .i64 0),(.int .i64 0),(.int .i64 0),(.int .i64 0),(.string (⟨#[]⟩:ByteArray)),(.string (⟨#[]⟩:ByteArray)),(.int .i64 0),(.slice none 0 0),(.slice none 0 0),(.int .i64 n4),(.int .i64 0),(.bool false)])] w7 fun v8 w8 =>
 Ext w7 w8 /\
 ∃ t9:Option Addr,∃ tl10:Nat,∃ tc11:Nat,∃ t12:Int,v8 = (.tuple #[(.slice t9 tl10 tc11),(.int .i64 t12)]) /\
 ((t12 ≠ 0) ->
 ∀ w13,ExtB [b0] [] w8 w13 ->
 Q (.tuple #[(.agg #[(.int .i64 0),(.string (⟨#[]⟩:ByteArray)),(.int .i64 0),(.int .i64 0),(.int .i64 0),(.int .i64 0),(.int .i64 0),(.string (⟨#[]⟩:ByteArray)),(.string (⟨#[]⟩:ByteArray)),(.int .i64 0),(.slice none 0 0),(.slice none 0 0),(.int .i64 0),(.int .i64 0),(.bool false)]),(.int .i64 3)]) w13) /\
 ((t12 = 0) ->
 ∀ w13,Ext w8 w13 ->
 FnP Tryz.prog F_bytes_Equal #[(.slice t9 tl10 tc11),(.slice b bl bc)] w13 fun v14 w14 =>
 Ext w13 w14 /\
 ∃ t15:Bool,v14 = (.bool t15) /\
 ((t15 = false) ->
 ∀ w16,ExtB [b0] [] w8 w16 ->
 Q (.tuple #[(.agg #[(.int .i64 0),(.string (⟨#[]⟩:ByteArray)),(.int .i64 0),(.int .i64 0),(.int .i64 0),(.int .i64 0),(.int .i64 0),(.string (⟨#[]⟩:ByteArray)),(.string (⟨#[]⟩:ByteArray)),(.int .i64 0),(.slice none 0 0),(.slice none 0 0),(.int .i64 0),(.int .i64 0),(.bool false)]),(.int .i64 3)]) w16) /\
 ((t15 = true) ->
 ∀ w16,ExtB [b0] [] w8 w16 ->
 Q (.tuple #[(.agg #[(.int .i64 t1),(.string (⟨#[]⟩:ByteArray)),(.int .i64 0),(.int .i64 0),(.int .i64 0),(.int .i64 0),(.int .i64 0),(.string (⟨#[]⟩:ByteArray)),(.string (⟨#[]⟩:ByteArray)),(.int .i64 0),(.slice none 0 0),(.slice none 0 0),(.int .i64 n4),(.int .i64 0),(.bool false)]),(.int .i64 0)]) w16)))) /\
 ((t1 ≠ 2) ->
 ((((t1 = 4)/\(((((bl:Int) - 1).toNat:Nat):Int) = 3)) ->
 ∀ w7,ExtB [b2] [b0,b2] w6 w7 ->
 FnP Tryz.prog F_event_Encode #[(.agg #[(.int .i64 t1),(.string (⟨#[]⟩:ByteArray)),(.int .i64 0),(.int .i64 0),(.int .i64 0),(.int .i64 0),(.int .i64 0),(.string (⟨#[]⟩:ByteArray)),(.string (⟨#[]⟩:ByteArray)),(.int .i64 0),(.slice none 0 0),(.slice none 0 0),(.int .i64 0),(.int .i64 (iBit .shr .i64 n4 8)),(.bool (decide ((iBit .and .i64 n4 255) = 1)))])] w7 fun v8 w8 =>
 Ext w7 w8 /\
 ∃ t9:Option Addr,∃ tl10:Nat,∃ tc11:Nat,∃ t12:Int,v8 = (.tuple #[(.slice t9 tl10 tc11),(.int .i64 t12)]) /\
 ((t12 ≠ 0) ->
 ∀ w13,ExtB [b0] [] w8 w13 ->
 Q (.tuple #[(.agg #[(.int .i64 0),(.string (⟨#[]⟩:ByteArray)),(.int .i64 0),(.int .i64 0),(.int .i64 0),(.int .i64 0),(.int .i64 0),(.string (⟨#[]⟩:ByteArray)),(.string (⟨#[]⟩:ByteArray)),(.int .i64 0),(.slice none 0 0),(.slice none 0 0),(.int .i64 0),(.int .i64 0),(.bool false)]),(.int .i64 3)]) w13) /\
 ((t12 = 0) ->
 ∀ w13,Ext w8 w13 ->
 FnP Tryz.prog F_bytes_Equal #[(.slice t9 tl10 tc11),(.slice b bl bc)] w13 fun v14 w14 =>
 Ext w13 w14 /\
 ∃ t15:Bool,v14 = (.bool t15) /\
 ((t15 = false) ->
 ∀ w16,ExtB [b0] [] w8 w16 ->
 Q (.tuple #[(.agg #[(.int .i64 0),(.string (⟨#[]⟩:ByteArray)),(.int .i64 0),(.int .i64 0),(.int .i64 0),(.int .i64 0),(.int .i64 0),(.string (⟨#[]⟩:ByteArray)),(.string (⟨#[]⟩:ByteArray)),(.int .i64 0),(.slice none 0 0),(.slice none 0 0),(.int .i64 0),(.int .i64 0),(.bool false)]),(.int .i64 3)]) w16) /\
 ((t15 = true) ->
 ∀ w16,ExtB [b0] [] w8 w16 ->
 Q (.tuple #[(.agg #[(.int .i64 t1),(.string (⟨#[]⟩:ByteArray)),(.int .i64 0),(.int .i64 0),(.int .i64 0),(.int .i64 0),(.int .i64 0),(.string (⟨#[]⟩:ByteArray)),(.string (⟨#[]⟩:ByteArray)),(.int .i64 0),(.slice none 0 0),(.slice none 0 0),(.int .i64 0),(.int .i64 (iBit .shr .i64 n4 8)),(.bool (decide ((iBit .and .i64 n4 255) = 1)))]),(.int .i64 0)]) w16)))) /\
 (((t1 ≠ 4)\/(((((bl:Int) - 1).toNat:Nat):Int) ≠ 3)) ->
 (((t1 = 5) ->
 ∀ w7,ExtB [b2] [b0,b2] w6 w7 ->
 FnP Tryz.prog F_event_Encode #[(.agg #[(.int .i64 t1),(.string (⟨#[]⟩:ByteArray)),(.int .i64 0),(.int .i64 0),(.int .i64 0),(.int .i64 0),(.int .i64 0),(.string (⟨#[]⟩:ByteArray)),(.string (⟨#[]⟩:ByteArray)),(.int .i64 0),(.slice none 0 0),(.slice none 0 0),(.int .i64 0),(.int .i64 n4),(.bool false)])] w7 fun v8 w8 =>
 Ext w7 w8 /\
 ∃ t9:Option Addr,∃ tl10:Nat,∃ tc11:Nat,∃ t12:Int,v8 = (.tuple #[(.slice t9 tl10 tc11),(.int .i64 t12)]) /\
 ((t12 ≠ 0) ->
 ∀ w13,ExtB [b0] [] w8 w13 ->
 Q (.tuple #[(.agg #[(.int .i64 0),(.string (⟨#[]⟩:ByteArray)),(.int .i64 0),(.int .i64 0),(.int .i64 0),(.int .i64 0),(.int .i64 0),(.string (⟨#[]⟩:ByteArray)),(.string (⟨#[]⟩:ByteArray)),(.int .i64 0),(.slice none 0 0),(.slice none 0 0),(.int .i64 0),(.int .i64 0),(.bool false)]),(.int .i64 3)]) w13) /\
 ((t12 = 0) ->
 ∀ w13,Ext w8 w13 ->
 FnP Tryz.prog F_bytes_Equal #[(.slice t9 tl10 tc11),(.slice b bl bc)] w13 fun v14 w14 =>
 Ext w13 w14 /\
 ∃ t15:Bool,v14 = (.bool t15) /\
 ((t15 = false) ->
 ∀ w16,ExtB [b0] [] w8 w16 ->
 Q (.tuple #[(.agg #[(.int .i64 0),(.string (⟨#[]⟩:ByteArray)),(.int .i64 0),(.int .i64 0),(.int .i64 0),(.int .i64 0),(.int .i64 0),(.string (⟨#[]⟩:ByteArray)),(.string (⟨#[]⟩:ByteArray)),(.int .i64 0),(.slice none 0 0),(.slice none 0 0),(.int .i64 0),(.int .i64 0),(.bool false)]),(.int .i64 3)]) w16) /\
 ((t15 = true) ->
 ∀ w16,ExtB [b0] [] w8 w16 ->
 Q (.tuple #[(.agg #[(.int .i64 t1),(.string (⟨#[]⟩:ByteArray)),(.int .i64 0),(.int .i64 0),(.int .i64 0),(.int .i64 0),(.int .i64 0),(.string (⟨#[]⟩:ByteArray)),(.string (⟨#[]⟩:ByteArray)),(.int .i64 0),(.slice none 0 0),(.slice none 0 0),(.int .i64 0),(.int .i64 n4),(.bool false)]),(.int .i64 0)]) w16)))) /\
 ((t1 ≠ 5) ->
 ∀ w7,ExtB [] [b0,b2] w6 w7 ->
 FnP Tryz.prog F_event_Encode #[(.agg #[(.int .i64 t1),(.string (⟨#[]⟩:ByteArray)),(.int .i64 0),(.int .i64 0),(.int .i64 0),(.int .i64 0),(.int .i64 0),(.string (⟨#[]⟩:ByteArray)),(.string (⟨#[]⟩:ByteArray)),(.int .i64 0),(.slice none 0 0),(.slice none 0 0),(.int .i64 0),(.int .i64 0),(.bool false)])] w7 fun v8 w8 =>
 Ext w7 w8 /\
 ∃ t9:Option Addr,∃ tl10:Nat,∃ tc11:Nat,∃ t12:Int,v8 = (.tuple #[(.slice t9 tl10 tc11),(.int .i64 t12)]) /\
 ((t12 ≠ 0) ->
 ∀ w13,ExtB [b0] [] w8 w13 ->
 Q (.tuple #[(.agg #[(.int .i64 0),(.string (⟨#[]⟩:ByteArray)),(.int .i64 0),(.int .i64 0),(.int .i64 0),(.int .i64 0),(.int .i64 0),(.string (⟨#[]⟩:ByteArray)),(.string (⟨#[]⟩:ByteArray)),(.int .i64 0),(.slice none 0 0),(.slice none 0 0),(.int .i64 0),(.int .i64 0),(.bool false)]),(.int .i64 3)]) w13) /\
 ((t12 = 0) ->
 ∀ w13,Ext w8 w13 ->
 FnP Tryz.prog F_bytes_Equal #[(.slice t9 tl10 tc11),(.slice b bl bc)] w13 fun v14 w14 =>
 Ext w13 w14 /\
 ∃ t15:Bool,v14 = (.bool t15) /\
 ((t15 = false) ->
 ∀ w16,ExtB [b0] [] w8 w16 ->
 Q (.tuple #[(.agg #[(.int .i64 0),(.string (⟨#[]⟩:ByteArray)),(.int .i64 0),(.int .i64 0),(.int .i64 0),(.int .i64 0),(.int .i64 0),(.string (⟨#[]⟩:ByteArray)),(.string (⟨#[]⟩:ByteArray)),(.int .i64 0),(.slice none 0 0),(.slice none 0 0),(.int .i64 0),(.int .i64 0),(.bool false)]),(.int .i64 3)]) w16) /\
 ((t15 = true) ->
 ∀ w16,ExtB [b0] [] w8 w16 ->
 Q (.tuple #[(.agg #[(.int .i64 t1),(.string (⟨#[]⟩:ByteArray)),(.int .i64 0),(.int .i64 0),(.int .i64 0),(.int .i64 0),(.int .i64 0),(.string (⟨#[]⟩:ByteArray)),(.string (⟨#[]⟩:ByteArray)),(.int .i64 0),(.slice none 0 0),(.slice none 0 0),(.int .i64 0),(.int .i64 0),(.bool false)]),(.int .i64 0)]) w16)))))))))
theorem ok_event_Decode (b:Option Addr) (bl:Nat) (bc:Nat) (w:World) (Q:Value->World->Prop) (h:wp_event_Decode b bl bc w Q):FnP Tryz.prog F_event_Decode #[(.slice b bl bc)] w Q:=by
  have e_:wp_event_Decode b bl bc w Q = Runs Tryz.prog Q ({ N:=104,wrap:=[],pub:=[],muts:=[],joins:=[] }:Cfg) Tryz.f47 (Tryz.f47.body.getD .skip) [.sc (.slc b bl bc)] w:=by kernel_rfl
  rw [e_] at h
  exact runs_fn h Tryz.func47 (by kernel_rfl) (fun args w=>Tryz.call47 args w) (by kernel_rfl) (by kernel_rfl) rfl rfl
def wp_journal_Cut (b:Option Addr) (bl:Nat) (bc:Nat) (w:World) (Q:Value->World->Prop):Prop :=
 ∃ (I0:Option Addr->Nat->Nat->Int->World->Prop) (M0:Option Addr->Nat->Nat->Int->World->Nat),I0 none 0 0 0 w /\
 ∀ (out1:Option Addr) (outl1:Nat) (outc1:Nat) (at2:Int) (w3:World),I0 out1 outl1 outc1 at2 w3 ->
 (0:Int) <= at2 /\
 (at2:Int) <= (bl:Int) /\
 ((bl:Int):Int) <= (bc:Int) /\
 ((((((bl:Int) - at2).toNat:Nat):Int) < 2) ->
 ∀ w4,Ext w3 w4 ->
 Q (.tuple #[(.slice out1 outl1 outc1),(.int .i64 at2)]) w4) /\
 ((2 <= ((((bl:Int) - at2).toNat:Nat):Int)) ->
 (pCut b bc at2 1) ≠ none /\
 (0:Int) <= 0 /\
 (0:Int) < ((((bl:Int) - at2).toNat:Nat):Int) /\
 ∃ t4:Int,cell w3 (pIdx (pCut b bc at2 1) 0 1) 0 = some (.int .u8 t4) /\
 InR .i64 t4 /\
 (pCut b bc at2 1) ≠ none /\
 (0:Int) <= 1 /\
 (1:Int) < ((((bl:Int) - at2).toNat:Nat):Int) /\
 ∃ t5:Int,cell w3 (pIdx (pCut b bc at2 1) 1 1) 0 = some (.int .u8 t5) /\
 InR .i64 t5 /\
 InR .i64 ((iBit .shl .i64 t4 8) + t5) /\
 InR .i64 (((iBit .shl .i64 t4 8) + t5) + 10) /\
 ((((((bl:Int) - at2).toNat:Nat):Int) < (((iBit .shl .i64 t4 8) + t5) + 10)) ->
 ∀ w6,Ext w3 w6 ->
 Q (.tuple #[(.slice out1 outl1 outc1),(.int .i64 at2)]) w6) /\
 (((((iBit .shl .i64 t4 8) + t5) + 10) <= ((((bl:Int) - at2).toNat:Nat):Int)) ->
 InR .i64 (((iBit .shl .i64 t4 8) + t5) + 2) /\
 (0:Int) <= 2 /\
 (2:Int) <= (((iBit .shl .i64 t4 8) + t5) + 2) /\
 ((((iBit .shl .i64 t4 8) + t5) + 2):Int) <= (((bc - at2.toNat):Nat):Int) /\
 ∀ w6,Ext w3 w6 ->
 FnP Tryz.prog F_event_Decode #[(.slice (pCut (pCut b bc at2 1) (bc - at2.toNat) 2 1) ((((iBit .shl .i64 t4 8) + t5) + 2) - 2).toNat ((bc - at2.toNat) - (2:Int).toNat))] w6 fun v7 w7 =>
 Ext w6 w7 /\
 ∃ t_08:Int,∃ t_19:ByteArray,∃ t_210:Int,∃ t_311:Int,∃ t_412:Int,∃ t_513:Int,∃ t_614:Int,∃ t_715:ByteArray,∃ t_816:ByteArray,∃ t_917:Int,∃ t_1018:Option Addr,∃ t_10l19:Nat,∃ t_10c20:Nat,∃ t_1121:Option Addr,∃ t_11l22:Nat,∃ t_11c23:Nat,∃ t_1224:Int,∃ t_1325:Int,∃ t_1426:Bool,∃ t27:Int,v7 = (.tuple #[(.agg #[(.int .i64 t_08),(.string t_19),(.int .i64 t_210),(.int .i64 t_311),(.int .i64 t_412),(.int .i64 t_513),(.int .i64 t_614),(.string t_715),(.string t_816),(.int .i64 t_917),(.slice t_1018 t_10l19 t_10c20),(.slice t_1121 t_11l22 t_11c23),(.int .i64 t_1224),(.int .i64 t_1325),(.bool t_1426)]),(.int .i64 t27)]) /\
 ∀ b28:Nat,w7.heap.size <= b28->∀ w29,ExtB [] [b28] w7 w29 ->
 FnP Tryz.prog F_journal_Frame #[(.agg #[(.int .i64 t_08),(.string t_19),(.int .i64 t_210),(.int .i64 t_311),(.int .i64 t_412),(.int .i64 t_513),(.int .i64 t_614),(.string t_715),(.string t_816),(.int .i64 t_917),(.slice t_1018 t_10l19 t_10c20),(.slice t_1121 t_11l22 t_11c23),(.int .i64 t_1224),(.int .i64 t_1325),(.bool t_1426)])] w29 fun v30 w30 =>
 Ext w29 w30 /\
 ∃ t31:Option Addr,∃ tl32:Nat,∃ tc33:Nat,∃ t34:Int,v30 = (.tuple #[(.slice t31 tl32 tc33),(.int .i64 t34)]) /\
 ((((t27 = 0)/\(t34 = 0)) ->
 InR .i64 (((iBit .shl .i64 t4 8) + t5) + 10))) /\
 ((((t27 = 0)/\(t34 = 0)) ->
 (0:Int) <= 0)) /\
 ((((t27 = 0)/\(t34 = 0)) ->
 (0:Int) <= (((iBit .shl .i64 t4 8) + t5) + 10))) /\
 ((((t27 = 0)/\(t34 = 0)) ->
 ((((iBit .shl .i64 t4 8) + t5) + 10):Int) <= (((bc - at2.toNat):Nat):Int))) /\
 (((t27 ≠ 0)\/(t34 ≠ 0)) ->
 ∀ w35,Ext w30 w35 ->
 Q (.tuple #[(.slice out1 outl1 outc1),(.int .i64 at2)]) w35) /\
 (((t27 = 0)/\(t34 = 0)) ->
 ∀ w35,Ext w30 w35 ->
 FnP Tryz.prog F_bytes_Equal #[(.slice t31 tl32 tc33),(.slice (pCut (pCut b bc at2 1) (bc - at2.toNat) 0 1) ((((iBit .shl .i64 t4 8) + t5) + 10) - 0).toNat ((bc - at2.toNat) - (0:Int).toNat))] w35 fun v36 w36 =>
 Ext w35 w36 /\
 ∃ t37:Bool,v36 = (.bool t37) /\
 ((t37 = false) ->
 ∀ w38,Ext w30 w38 ->
 Q (.tuple #[(.slice out1 outl1 outc1),(.int .i64 at2)]) w38) /\
 ((t37 = true) ->
 ∀ w38,ExtB [] [b28] w30 w38 ->
 Run Tryz.prog (.buildSlice 27 1 [(0,(.agg #[(.int .i64 t_08),(.string t_19),(.int .i64 t_210),(.int .i64 t_311),(.int .i64 t_412),(.int .i64 t_513),(.int .i64 t_614),(.string t_715),(.string t_816),(.int .i64 t_917),(.slice t_1018 t_10l19 t_10c20),(.slice t_1121 t_11l22 t_11c23),(.int .i64 t_1224),(.int .i64 t_1325),(.bool t_1426)]))]) w38 fun v39 w39 =>
 Ext w38 w39 /\
 ∃ t40:Option Addr,∃ tl41:Nat,∃ tc42:Nat,v39 = (.slice t40 tl41 tc42) /\
 ∀ w43,ExtB [] [b28] w39 w43 ->
 Run Tryz.prog (.append #[27,27] 27 [(.slice out1 outl1 outc1),(.slice t40 tl41 tc42)]) w43 fun v44 w44 =>
 Kept [b28] w43 w44 /\
 ∃ t45:Option Addr,∃ tl46:Nat,∃ tc47:Nat,v44 = (.slice t45 tl46 tc47) /\
 InR .i64 (((iBit .shl .i64 t4 8) + t5) + 10) /\
 InR .i64 (at2 + (((iBit .shl .i64 t4 8) + t5) + 10)) /\
 (I0 t45 tl46 tc47 (at2 + (((iBit .shl .i64 t4 8) + t5) + 10)) w44/\M0 t45 tl46 tc47 (at2 + (((iBit .shl .i64 t4 8) + t5) + 10)) w44 < M0 out1 outl1 outc1 at2 w3)))))
theorem ok_journal_Cut (b:Option Addr) (bl:Nat) (bc:Nat) (w:World) (Q:Value->World->Prop) (h:wp_journal_Cut b bl bc w Q):FnP Tryz.prog F_journal_Cut #[(.slice b bl bc)] w Q:=by
  have e_:wp_journal_Cut b bl bc w Q = Runs Tryz.prog Q ({ N:=75,wrap:=[],pub:=[],muts:=[],joins:=[] }:Cfg) Tryz.f25 (Tryz.f25.body.getD .skip) [.sc (.slc b bl bc)] w:=by kernel_rfl
  rw [e_] at h
  exact runs_fn h Tryz.func25 (by kernel_rfl) (fun args w=>Tryz.call25 args w) (by kernel_rfl) (by kernel_rfl) rfl rfl
end Go.Proofs.YtegephkpdlopaaaGreatDoor
set_option linter.unusedVariables false
set_option linter.unusedSimpArgs false
set_option maxRecDepth 100000
namespace Go.Proofs.YtegephkpdlopaaaGreatDoor
open Go.Sx Go.RowKit
abbrev F_need_Fits:FuncId:=67
abbrev F_need_Sub:FuncId:=86
abbrev F_need_Add:FuncId:=93
abbrev F_need_checks:FuncId:=96
abbrev F_need_fits:FuncId:=97
-- no function slices.IndexFunc[[]shiftbell/api.Errno,shiftbell/api.Errno]
def wp_need_checks (l:Option Addr) (ll:Nat) (lc:Nat) (w:World) (Q:Value->World->Prop):Prop :=
 ∃ (I0:Int->World->Prop) (M0:Int->World->Nat),I0 0 w /\
 ∀ (k1:Int) (w2:World),I0 k1 w2 ->
 (((k1 < (ll:Int)) ->
 l ≠ none /\
 (0:Int) <= k1 /\
 (k1:Int) < (ll:Int) /\
 (pIdx l k1 3) ≠ none /\
 ∃ t3:Int,cell w2 (pIdx l k1 3) 0 = some (.int .i64 t3) /\
 ∃ t4:Int,cell w2 (pIdx l k1 3) 1 = some (.int .i64 t4) /\
 ∃ t5:Int,cell w2 (pIdx l k1 3) 2 = some (.int .i64 t5) /\
 ∀ b6:Nat,w2.heap.size <= b6->∀ w7,Ext w2 w7 ->
 FnP Tryz.prog F_need_Check #[(.agg #[(.int .i64 t3),(.int .i64 t4),(.int .i64 t5)])] w7 fun v8 w8 =>
 Ext w7 w8 /\
 ∃ t9:Int,v8 = (.int .i64 t9) /\
 ((t9 ≠ 0) ->
 ∀ w10,Ext w2 w10 ->
 Q (.int .i64 t9) w10) /\
 ((t9 = 0) ->
 InR .i64 (k1 + 1) /\
 (I0 (k1 + 1) w2/\M0 (k1 + 1) w2 < M0 k1 w2)))) /\
 (((ll:Int) <= k1) ->
 ∀ w3,Ext w2 w3 ->
 Q (.int .i64 0) w3)
theorem ok_need_checks (l:Option Addr) (ll:Nat) (lc:Nat) (w:World) (Q:Value->World->Prop) (h:wp_need_checks l ll lc w Q):FnP Tryz.prog F_need_checks #[(.slice l ll lc)] w Q:=by
  have e_:wp_need_checks l ll lc w Q = Runs Tryz.prog Q ({ N:=18,wrap:=[],pub:=[],muts:=[],joins:=[] }:Cfg) Tryz.f96 (Tryz.f96.body.getD .skip) [.sc (.slc l ll lc)] w:=by kernel_rfl
  rw [e_] at h
  exact runs_fn h Tryz.func96 (by kernel_rfl) (fun args w=>Tryz.call96 args w) (by kernel_rfl) (by kernel_rfl) rfl rfl
def wp_need_fits (a_0:Int) (a_1:Int) (a_2:Int) (b_0:Int) (b_1:Int) (b_2:Int) (w:World) (Q:Value->World->Prop):Prop :=
 ∀ b0:Nat,w.heap.size <= b0->∀ b1:Nat,w.heap.size <= b1->∀ w2,Ext w w2 ->
 Q (.bool (((decide (a_0 <= b_0)) && (decide (a_1 <= b_1))) && (decide (a_2 <= b_2)))) w2
theorem ok_need_fits (a_0:Int) (a_1:Int) (a_2:Int) (b_0:Int) (b_1:Int) (b_2:Int) (w:World) (Q:Value->World->Prop) (h:wp_need_fits a_0 a_1 a_2 b_0 b_1 b_2 w Q):FnP Tryz.prog F_need_fits #[(.agg #[(.int .i64 a_0),(.int .i64 a_1),(.int .i64 a_2)]),(.agg #[(.int .i64 b_0),(.int .i64 b_1),(.int .i64 b_2)])] w Q:=by
  have e_:wp_need_fits a_0 a_1 a_2 b_0 b_1 b_2 w Q = Runs Tryz.prog Q ({ N:=24,wrap:=[],pub:=[],muts:=[],joins:=[] }:Cfg) Tryz.f97 (Tryz.f97.body.getD .skip) [.agg [.int .i64 a_0,.int .i64 a_1,.int .i64 a_2],.agg [.int .i64 b_0,.int .i64 b_1,.int .i64 b_2]] w:=by kernel_rfl
  rw [e_] at h
  exact runs_fn h Tryz.func97 (by kernel_rfl) (fun args w=>Tryz.call97 args w) (by kernel_rfl) (by kernel_rfl) rfl rfl
def wp_need_Fits (a_0:Int) (a_1:Int) (a_2:Int) (b_0:Int) (b_1:Int) (b_2:Int) (w:World) (Q:Value->World->Prop):Prop :=
 ∀ b0:Nat,w.heap.size <= b0->∀ b1:Nat,w.heap.size <= b1->∀ w2,ExtB [] [b0,b1] w w2 ->
 Run Tryz.prog (.buildSlice 206 2 [(0,(.agg #[(.int .i64 a_0),(.int .i64 a_1),(.int .i64 a_2)])),(1,(.agg #[(.int .i64 b_0),(.int .i64 b_1),(.int .i64 b_2)]))]) w2 fun v3 w3 =>
 Ext w2 w3 /\
 ∃ t4:Option Addr,∃ tl5:Nat,∃ tc6:Nat,v3 = (.slice t4 tl5 tc6) /\
 ∀ w7,Ext w3 w7 ->
 FnP Tryz.prog F_need_checks #[(.slice t4 tl5 tc6)] w7 fun v8 w8 =>
 Ext w7 w8 /\
 ∃ t9:Int,v8 = (.int .i64 t9) /\
 ((t9 ≠ 0) ->
 ∀ w10,Ext w3 w10 ->
 Q (.tuple #[(.bool false),(.int .i64 t9)]) w10) /\
 ((t9 = 0) ->
 ∀ w10,Ext w3 w10 ->
 FnP Tryz.prog F_need_fits #[(.agg #[(.int .i64 a_0),(.int .i64 a_1),(.int .i64 a_2)]),(.agg #[(.int .i64 b_0),(.int .i64 b_1),(.int .i64 b_2)])] w10 fun v11 w11 =>
 Ext w10 w11 /\
 ∃ t12:Bool,v11 = (.bool t12) /\
 ∀ w13,Ext w3 w13 ->
 Q (.tuple #[(.bool t12),(.int .i64 0)]) w13)
theorem ok_need_Fits (a_0:Int) (a_1:Int) (a_2:Int) (b_0:Int) (b_1:Int) (b_2:Int) (w:World) (Q:Value->World->Prop) (h:wp_need_Fits a_0 a_1 a_2 b_0 b_1 b_2 w Q):FnP Tryz.prog F_need_Fits #[(.agg #[(.int .i64 a_0),(.int .i64 a_1),(.int .i64 a_2)]),(.agg #[(.int .i64 b_0),(.int .i64 b_1),(.int .i64 b_2)])] w Q:=by
  have e_:wp_need_Fits a_0 a_1 a_2 b_0 b_1 b_2 w Q = Runs Tryz.prog Q ({ N:=17,wrap:=[],pub:=[],muts:=[],joins:=[] }:Cfg) Tryz.f67 (Tryz.f67.body.getD .skip) [.agg [.int .i64 a_0,.int .i64 a_1,.int .i64 a_2],.agg [.int .i64 b_0,.int .i64 b_1,.int .i64 b_2]] w:=by kernel_rfl
  rw [e_] at h
  exact runs_fn h Tryz.func67 (by kernel_rfl) (fun args w=>Tryz.call67 args w) (by kernel_rfl) (by kernel_rfl) rfl rfl
def wp_need_Add (a_0:Int) (a_1:Int) (a_2:Int) (b_0:Int) (b_1:Int) (b_2:Int) (w:World) (Q:Value->World->Prop):Prop :=
 ∀ b0:Nat,w.heap.size <= b0->∀ b1:Nat,w.heap.size <= b1->∀ b2:Nat,w.heap.size <= b2->∀ w3,ExtB [] [b0,b1,b2] w w3 ->
 Run Tryz.prog (.buildSlice 206 2 [(0,(.agg #[(.int .i64 a_0),(.int .i64 a_1),(.int .i64 a_2)])),(1,(.agg #[(.int .i64 b_0),(.int .i64 b_1),(.int .i64 b_2)]))]) w3 fun v4 w4 =>
 Ext w3 w4 /\
 ∃ t5:Option Addr,∃ tl6:Nat,∃ tc7:Nat,v4 = (.slice t5 tl6 tc7) /\
 ∀ w8,Ext w4 w8 ->
 FnP Tryz.prog F_need_checks #[(.slice t5 tl6 tc7)] w8 fun v9 w9 =>
 Ext w8 w9 /\
 ∃ t10:Int,v9 = (.int .i64 t10) /\
 ((t10 ≠ 0) ->
 ∀ w11,ExtB [b2] [] w4 w11 ->
 Q (.tuple #[(.agg #[(.int .i64 0),(.int .i64 0),(.int .i64 0)]),(.int .i64 t10)]) w11) /\
 ((t10 = 0) ->
 InR .i64 (a_0 + b_0) /\
 InR .i64 (a_1 + b_1) /\
 InR .i64 (a_2 + b_2) /\
 ∀ b11:Nat,w4.heap.size <= b11->∀ w12,Ext w4 w12 ->
 FnP Tryz.prog F_need_Check #[(.agg #[(.int .i64 (a_0 + b_0)),(.int .i64 (a_1 + b_1)),(.int .i64 (a_2 + b_2))])] w12 fun v13 w13 =>
 Ext w12 w13 /\
 ∃ t14:Int,v13 = (.int .i64 t14) /\
 ((t14 ≠ 0) ->
 ∀ w15,ExtB [b2] [] w4 w15 ->
 Q (.tuple #[(.agg #[(.int .i64 0),(.int .i64 0),(.int .i64 0)]),(.int .i64 2)]) w15) /\
 ((t14 = 0) ->
 ∀ w15,ExtB [b2] [] w4 w15 ->
 Q (.tuple #[(.agg #[(.int .i64 (a_0 + b_0)),(.int .i64 (a_1 + b_1)),(.int .i64 (a_2 + b_2))]),(.int .i64 0)]) w15))
theorem ok_need_Add (a_0:Int) (a_1:Int) (a_2:Int) (b_0:Int) (b_1:Int) (b_2:Int) (w:World) (Q:Value->World->Prop) (h:wp_need_Add a_0 a_1 a_2 b_0 b_1 b_2 w Q):FnP Tryz.prog F_need_Add #[(.agg #[(.int .i64 a_0),(.int .i64 a_1),(.int .i64 a_2)]),(.agg #[(.int .i64 b_0),(.int .i64 b_1),(.int .i64 b_2)])] w Q:=by
  have e_:wp_need_Add a_0 a_1 a_2 b_0 b_1 b_2 w Q = Runs Tryz.prog Q ({ N:=37,wrap:=[],pub:=[],muts:=[],joins:=[] }:Cfg) Tryz.f93 (Tryz.f93.body.getD .skip) [.agg [.int .i64 a_0,.int .i64 a_1,.int .i64 a_2],.agg [.int .i64 b_0,.int .i64 b_1,.int .i64 b_2]] w:=by kernel_rfl
  rw [e_] at h
  exact runs_fn h Tryz.func93 (by kernel_rfl) (fun args w=>Tryz.call93 args w) (by kernel_rfl) (by kernel_rfl) rfl rfl
def wp_need_Sub (a_0:Int) (a_1:Int) (a_2:Int) (b_0:Int) (b_1:Int) (b_2:Int) (w:World) (Q:Value->World->Prop):Prop :=
 ∀ b0:Nat,w.heap.size <= b0->∀ b1:Nat,w.heap.size <= b1->∀ b2:Nat,w.heap.size <= b2->∀ w3,ExtB [] [b0,b1,b2] w w3 ->
 Run Tryz.prog (.buildSlice 206 2 [(0,(.agg #[(.int .i64 a_0),(.int .i64 a_1),(.int .i64 a_2)])),(1,(.agg #[(.int .i64 b_0),(.int .i64 b_1),(.int .i64 b_2)]))]) w3 fun v4 w4 =>
 Ext w3 w4 /\
 ∃ t5:Option Addr,∃ tl6:Nat,∃ tc7:Nat,v4 = (.slice t5 tl6 tc7) /\
 ∀ w8,Ext w4 w8 ->
 FnP Tryz.prog F_need_checks #[(.slice t5 tl6 tc7)] w8 fun v9 w9 =>
 Ext w8 w9 /\
 ∃ t10:Int,v9 = (.int .i64 t10) /\
 ((t10 ≠ 0) ->
 ∀ w11,ExtB [b2] [] w4 w11 ->
 Q (.tuple #[(.agg #[(.int .i64 0),(.int .i64 0),(.int .i64 0)]),(.int .i64 t10)]) w11) /\
 ((t10 = 0) ->
 ∀ w11,Ext w4 w11 ->
 FnP Tryz.prog F_need_fits #[(.agg #[(.int .i64 b_0),(.int .i64 b_1),(.int .i64 b_2)]),(.agg #[(.int .i64 a_0),(.int .i64 a_1),(.int .i64 a_2)])] w11 fun v12 w12 =>
 Ext w11 w12 /\
 ∃ t13:Bool,v12 = (.bool t13) /\
 ((t13 = false) ->
 ∀ w14,ExtB [b2] [] w4 w14 ->
 Q (.tuple #[(.agg #[(.int .i64 0),(.int .i64 0),(.int .i64 0)]),(.int .i64 10)]) w14) /\
 ((t13 = true) ->
 InR .i64 (a_0 - b_0) /\
 InR .i64 (a_1 - b_1) /\
 InR .i64 (a_2 - b_2) /\
 ∀ w14,ExtB [b2] [] w4 w14 ->
 Q (.tuple #[(.agg #[(.int .i64 (a_0 - b_0)),(.int .i64 (a_1 - b_1)),(.int .i64 (a_2 - b_2))]),(.int .i64 0)]) w14))
theorem ok_need_Sub (a_0:Int) (a_1:Int) (a_2:Int) (b_0:Int) (b_1:Int) (b_2:Int) (w:World) (Q:Value->World->Prop) (h:wp_need_Sub a_0 a_1 a_2 b_0 b_1 b_2 w Q):FnP Tryz.prog F_need_Sub #[(.agg #[(.int .i64 a_0),(.int .i64 a_1),(.int .i64 a_2)]),(.agg #[(.int .i64 b_0),(.int .i64 b_1),(.int .i64 b_2)])] w Q:=by
  have e_:wp_need_Sub a_0 a_1 a_2 b_0 b_1 b_2 w Q = Runs Tryz.prog Q ({ N:=38,wrap:=[],pub:=[],muts:=[],joins:=[] }:Cfg) Tryz.f86 (Tryz.f86.body.getD .skip) [.agg [.int .i64 a_0,.int .i64 a_1,.int .i64 a_2],.agg [.int .i64 b_0,.int .i64 b_1,.int .i64 b_2]] w:=by kernel_rfl
  rw [e_] at h
  exact runs_fn h Tryz.func86 (by kernel_rfl) (fun args w=>Tryz.call86 args w) (by kernel_rfl) (by kernel_rfl) rfl rfl
end Go.Proofs.YtegephkpdlopaaaGreatDoor
set_option linter.unusedVariables false
set_option linter.unusedSimpArgs false
set_option maxRecDepth 100000
namespace Go.Proofs.YtegephkpdlopaaaGreatDoor
open Go.Sx Go.RowKit
abbrev F_ask_Holds:FuncId:=114
abbrev F_ask_value:FuncId:=131
abbrev F_ask_Holds_1:FuncId:=132
abbrev F_ask_amount:FuncId:=133
abbrev F_slices_ContainsFunc_api_Label_api_Label:FuncId:=134
abbrev F_ask_Holds_1_1:FuncId:=135
abbrev F_slices_IndexFunc_api_Label_api_Label:FuncId:=152
def wp_ask_amount (a_0:Int) (a_1:Int) (a_2:Int) (key:ByteArray) (w:World) (Q:Value->World->Prop):Prop :=
 ∀ b0:Nat,w.heap.size <= b0->((key = (⟨#[99,112,117]⟩:ByteArray)) ->
 ∀ w1,Ext w w1 ->
 Q (.int .i64 a_0) w1) /\
 ((key ≠ (⟨#[99,112,117]⟩:ByteArray)) ->
 ((key = (⟨#[109,101,109]⟩:ByteArray)) ->
 ∀ w1,Ext w w1 ->
 Q (.int .i64 a_1) w1) /\
 ((key ≠ (⟨#[109,101,109]⟩:ByteArray)) ->
 ∀ w1,Ext w w1 ->
 Q (.int .i64 a_2) w1))
theorem ok_ask_amount (a_0:Int) (a_1:Int) (a_2:Int) (key:ByteArray) (w:World) (Q:Value->World->Prop) (h:wp_ask_amount a_0 a_1 a_2 key w Q):FnP Tryz.prog F_ask_amount #[(.agg #[(.int .i64 a_0),(.int .i64 a_1),(.int .i64 a_2)]),(.string key)] w Q:=by
  have e_:wp_ask_amount a_0 a_1 a_2 key w Q = Runs Tryz.prog Q ({ N:=16,wrap:=[],pub:=[],muts:=[],joins:=[] }:Cfg) Tryz.f133 (Tryz.f133.body.getD .skip) [.agg [.int .i64 a_0,.int .i64 a_1,.int .i64 a_2],.sc (.str key)] w:=by kernel_rfl
  rw [e_] at h
  exact runs_fn h Tryz.func133 (by kernel_rfl) (fun args w=>Tryz.call133 args w) (by kernel_rfl) (by kernel_rfl) rfl rfl
def wp_ask_value (x_0:Int) (x_1:ByteArray) (x_2:ByteArray) (x_3:Int) (x_4:Option Addr) (x_4l:Nat) (x_4c:Nat) (atom:Value) (w:World) (Q:Value->World->Prop):Prop :=
 ∀ b0:Nat,w.heap.size <= b0->(((x_0 = 4) ->
 x_4 ≠ none /\
 (0:Int) <= 0 /\
 (0:Int) < (x_4l:Int) /\
 (pIdx x_4 0 5) ≠ none /\
 ∃ t1:Int,cell w (pIdx x_4 0 5) 0 = some (.int .i64 t1) /\
 ∃ t2:ByteArray,cell w (pIdx x_4 0 5) 1 = some (.string t2) /\
 ∃ t3:ByteArray,cell w (pIdx x_4 0 5) 2 = some (.string t3) /\
 ∃ t4:Int,cell w (pIdx x_4 0 5) 3 = some (.int .i64 t4) /\
 ∃ t5:Option Addr,∃ tl6:Nat,∃ tc7:Nat,cell w (pIdx x_4 0 5) 4 = some (.slice t5 tl6 tc7) /\
 ∀ w8,Ext w w8 ->
 FnP Tryz.prog F_ask_value #[(.agg #[(.int .i64 t1),(.string t2),(.string t3),(.int .i64 t4),(.slice t5 tl6 tc7)]),atom] w8 fun v9 w9 =>
 Ext w8 w9 /\
 ∃ t10:Bool,v9 = (.bool t10) /\
 ∀ w11,Ext w w11 ->
 Q (.bool (!t10)) w11)) /\
 ((x_0 ≠ 4) ->
 (((x_0 = 5) ->
 x_4 ≠ none /\
 (0:Int) <= 0 /\
 (0:Int) < (x_4l:Int) /\
 (pIdx x_4 0 5) ≠ none /\
 ∃ t1:Int,cell w (pIdx x_4 0 5) 0 = some (.int .i64 t1) /\
 ∃ t2:ByteArray,cell w (pIdx x_4 0 5) 1 = some (.string t2) /\
 ∃ t3:ByteArray,cell w (pIdx x_4 0 5) 2 = some (.string t3) /\
 ∃ t4:Int,cell w (pIdx x_4 0 5) 3 = some (.int .i64 t4) /\
 ∃ t5:Option Addr,∃ tl6:Nat,∃ tc7:Nat,cell w (pIdx x_4 0 5) 4 = some (.slice t5 tl6 tc7) /\
 ∀ w8,Ext w w8 ->
 FnP Tryz.prog F_ask_value #[(.agg #[(.int .i64 t1),(.string t2),(.string t3),(.int .i64 t4),(.slice t5 tl6 tc7)]),atom] w8 fun v9 w9 =>
 Ext w8 w9 /\
 ∃ t10:Bool,v9 = (.bool t10) /\
 ((t10 = true) ->
 x_4 ≠ none) /\
 ((t10 = true) ->
 (0:Int) <= 1) /\
 ((t10 = true) ->
 (1:Int) < (x_4l:Int)) /\
 (((t10 = true) ->
 (pIdx x_4 1 5) ≠ none /\
 ∃ t11:Int,cell w (pIdx x_4 1 5) 0 = some (.int .i64 t11) /\
 ∃ t12:ByteArray,cell w (pIdx x_4 1 5) 1 = some (.string t12) /\
 ∃ t13:ByteArray,cell w (pIdx x_4 1 5) 2 = some (.string t13) /\
 ∃ t14:Int,cell w (pIdx x_4 1 5) 3 = some (.int .i64 t14) /\
 ∃ t15:Option Addr,∃ tl16:Nat,∃ tc17:Nat,cell w (pIdx x_4 1 5) 4 = some (.slice t15 tl16 tc17) /\
 ∀ w18,Ext w w18 ->
 FnP Tryz.prog F_ask_value #[(.agg #[(.int .i64 t11),(.string t12),(.string t13),(.int .i64 t14),(.slice t15 tl16 tc17)]),atom] w18 fun v19 w19 =>
 Ext w18 w19 /\
 ∃ t20:Bool,v19 = (.bool t20) /\
 ∀ w21,Ext w w21 ->
 Q (.bool t20) w21)) /\
 ((t10 = false) ->
 ∀ w11,Ext w w11 ->
 Q (.bool false) w11))) /\
 ((x_0 ≠ 5) ->
 (((x_0 = 6) ->
 x_4 ≠ none /\
 (0:Int) <= 0 /\
 (0:Int) < (x_4l:Int) /\
 (pIdx x_4 0 5) ≠ none /\
 ∃ t1:Int,cell w (pIdx x_4 0 5) 0 = some (.int .i64 t1) /\
 ∃ t2:ByteArray,cell w (pIdx x_4 0 5) 1 = some (.string t2) /\
 ∃ t3:ByteArray,cell w (pIdx x_4 0 5) 2 = some (.string t3) /\
 ∃ t4:Int,cell w (pIdx x_4 0 5) 3 = some (.int .i64 t4) /\
 ∃ t5:Option Addr,∃ tl6:Nat,∃ tc7:Nat,cell w (pIdx x_4 0 5) 4 = some (.slice t5 tl6 tc7) /\
 ∀ w8,Ext w w8 ->
 FnP Tryz.prog F_ask_value #[(.agg #[(.int .i64 t1),(.string t2),(.string t3),(.int .i64 t4),(.slice t5 tl6 tc7)]),atom] w8 fun v9 w9 =>
 Ext w8 w9 /\
 ∃ t10:Bool,v9 = (.bool t10) /\
 ((t10 = false) ->
 x_4 ≠ none) /\
 ((t10 = false) ->
 (0:Int) <= 1) /\
 ((t10 = false) ->
 (1:Int) < (x_4l:Int)) /\
 ((t10 = true) ->
 ∀ w11,Ext w w11 ->
 Q (.bool true) w11) /\
 ((t10 = false) ->
 (pIdx x_4 1 5) ≠ none /\
 ∃ t11:Int,cell w (pIdx x_4 1 5) 0 = some (.int .i64 t11) /\
 ∃ t12:ByteArray,cell w (pIdx x_4 1 5) 1 = some (.string t12) /\
 ∃ t13:ByteArray,cell w (pIdx x_4 1 5) 2 = some (.string t13) /\
 ∃ t14:Int,cell w (pIdx x_4 1 5) 3 = some (.int .i64 t14) /\
 ∃ t15:Option Addr,∃ tl16:Nat,∃ tc17:Nat,cell w (pIdx x_4 1 5) 4 = some (.slice t15 tl16 tc17) /\
 ∀ w18,Ext w w18 ->
 FnP Tryz.prog F_ask_value #[(.agg #[(.int .i64 t11),(.string t12),(.string t13),(.int .i64 t14),(.slice t15 tl16 tc17)]),atom] w18 fun v19 w19 =>
 Ext w18 w19 /\
 ∃ t20:Bool,v19 = (.bool t20) /\
 ∀ w21,Ext w w21 ->
 Q (.bool t20) w21))) /\
 ((x_0 ≠ 6) ->
 ∀ w1,Ext w w1 ->
 FnVP Tryz.prog atom [(.agg #[(.int .i64 x_0),(.string x_1),(.string x_2),(.int .i64 x_3),(.slice x_4 x_4l x_4c)])] w1 fun v2 w2 =>
 Ext w1 w2 /\
 ∃ t3:Bool,v2 = (.bool t3) /\
 ∀ w4,Ext w w4 ->
 Q (.bool t3) w4)))
theorem ok_ask_value (x_0:Int) (x_1:ByteArray) (x_2:ByteArray) (x_3:Int) (x_4:Option Addr) (x_4l:Nat) (x_4c:Nat) (atom:Value) (w:World) (Q:Value->World->Prop) (h:wp_ask_value x_0 x_1 x_2 x_3 x_4 x_4l x_4c atom w Q):FnP Tryz.prog F_ask_value #[(.agg #[(.int .i64 x_0),(.string x_1),(.string x_2),(.int .i64 x_3),(.slice x_4 x_4l x_4c)]),atom] w Q:=by
  have e_:wp_ask_value x_0 x_1 x_2 x_3 x_4 x_4l x_4c atom w Q = Runs Tryz.prog Q ({ N:=51,wrap:=[],pub:=[],muts:=[],joins:=[] }:Cfg) Tryz.f131 (Tryz.f131.body.getD .skip) [.agg [.int .i64 x_0,.str x_1,.str x_2,.int .i64 x_3,.slc x_4 x_4l x_4c],.sc (.val atom)] w:=by kernel_rfl
  rw [e_] at h
  exact runs_fn h Tryz.func131 (by kernel_rfl) (fun args w=>Tryz.call131 args w) (by kernel_rfl) (by kernel_rfl) rfl rfl
def wp_ask_Holds (x_0:Int) (x_1:ByteArray) (x_2:ByteArray) (x_3:Int) (x_4:Option Addr) (x_4l:Nat) (x_4c:Nat) (h_v_0:ByteArray) (h_v_1:Option Addr) (h_v_1l:Nat) (h_v_1c:Nat) (h_v_2:Int) (h_v_3:Int) (h_v_4:Int) (h_v_5:Int) (h_v_6:Int) (h_v_7:Int) (w:World) (Q:Value->World->Prop):Prop :=
 ∀ b0:Nat,w.heap.size <= b0->∀ w1,ExtB [] [b0] w w1 ->
 New w1 85 [(.string h_v_0),(.slice h_v_1 h_v_1l h_v_1c),(.int .i64 h_v_2),(.int .i64 h_v_3),(.int .i64 h_v_4),(.int .i64 h_v_5),(.int .i64 h_v_6),(.int .i64 h_v_7)] fun p2 w2 =>
 ∀ w3,Ext w2 w3 ->
 FnP Tryz.prog F_ask_Check #[(.agg #[(.int .i64 x_0),(.string x_1),(.string x_2),(.int .i64 x_3),(.slice x_4 x_4l x_4c)])] w3 fun v4 w4 =>
 Ext w3 w4 /\
 ∃ t5:Int,v4 = (.int .i64 t5) /\
 ((t5 ≠ 0) ->
 ∀ w6,Ext w2 w6 ->
 Q (.tuple #[(.bool false),(.int .i64 t5)]) w6) /\
 ((t5 = 0) ->
 ∀ w6,Ext w2 w6 ->
 FnP Tryz.prog F_ask_value #[(.agg #[(.int .i64 x_0),(.string x_1),(.string x_2),(.int .i64 x_3),(.slice x_4 x_4l x_4c)]),(.func (.func 132) #[] #[(.pointer p2)])] w6 fun v7 w7 =>
 Ext w6 w7 /\
 ∃ t8:Bool,v7 = (.bool t8) /\
 ∀ w9,Ext w2 w9 ->
 Q (.tuple #[(.bool t8),(.int .i64 0)]) w9)
theorem ok_ask_Holds (x_0:Int) (x_1:ByteArray) (x_2:ByteArray) (x_3:Int) (x_4:Option Addr) (x_4l:Nat) (x_4c:Nat) (h_v_0:ByteArray) (h_v_1:Option Addr) (h_v_1l:Nat) (h_v_1c:Nat) (h_v_2:Int) (h_v_3:Int) (h_v_4:Int) (h_v_5:Int) (h_v_6:Int) (h_v_7:Int) (w:World) (Q:Value->World->Prop) (h:wp_ask_Holds x_0 x_1 x_2 x_3 x_4 x_4l x_4c h_v_0 h_v_1 h_v_1l h_v_1c h_v_2 h_v_3 h_v_4 h_v_5 h_v_6 h_v_7 w Q):FnP Tryz.prog F_ask_Holds #[(.agg #[(.int .i64 x_0),(.string x_1),(.string x_2),(.int .i64 x_3),(.slice x_4 x_4l x_4c)]),(.agg #[(.string h_v_0),(.slice h_v_1 h_v_1l h_v_1c),(.int .i64 h_v_2),(.int .i64 h_v_3),(.int .i64 h_v_4),(.int .i64 h_v_5),(.int .i64 h_v_6),(.int .i64 h_v_7)])] w Q:=by
  have e_:wp_ask_Holds x_0 x_1 x_2 x_3 x_4 x_4l x_4c h_v_0 h_v_1 h_v_1l h_v_1c h_v_2 h_v_3 h_v_4 h_v_5 h_v_6 h_v_7 w Q = Runs Tryz.prog Q ({ N:=15,wrap:=[],pub:=[3],muts:=[],joins:=[] }:Cfg) Tryz.f114 (Tryz.f114.body.getD .skip) [.agg [.int .i64 x_0,.str x_1,.str x_2,.int .i64 x_3,.slc x_4 x_4l x_4c],.agg [.str h_v_0,.slc h_v_1 h_v_1l h_v_1c,.int .i64 h_v_2,.int .i64 h_v_3,.int .i64 h_v_4,.int .i64 h_v_5,.int .i64 h_v_6,.int .i64 h_v_7]] w:=by kernel_rfl
  rw [e_] at h
  exact runs_fn h Tryz.func114 (by kernel_rfl) (fun args w=>Tryz.call114 args w) (by kernel_rfl) (by kernel_rfl) rfl rfl
def wp_ask_Holds_1 (x_0:Int) (x_1:ByteArray) (x_2:ByteArray) (x_3:Int) (x_4:Option Addr) (x_4l:Nat) (x_4c:Nat) (c0:Option Addr) (w:World) (Q:Value->World->Prop):Prop :=
 ∀ w0,Ext w w0 ->
 New w0 37 [(.int .i64 x_0),(.string x_1),(.string x_2),(.int .i64 x_3),(.slice x_4 x_4l x_4c)] fun p1 w1 =>
 p1 ≠ none /\
 ∃ t2:Int,cell w1 (pAdd p1 0) 0 = some (.int .i64 t2) /\
 (((t2 = 3) ->
 c0 ≠ none /\
 (pAdd c0 2) ≠ none /\
 ∃ t3:Int,cell w1 (pAdd c0 2) 0 = some (.int .i64 t3) /\
 ∃ t4:Int,cell w1 (pAdd c0 2) 1 = some (.int .i64 t4) /\
 ∃ t5:Int,cell w1 (pAdd c0 2) 2 = some (.int .i64 t5) /\
 p1 ≠ none /\
 ∃ t6:ByteArray,cell w1 (pAdd p1 1) 0 = some (.string t6) /\
 p1 ≠ none /\
 ∃ t7:Int,cell w1 (pAdd p1 3) 0 = some (.int .i64 t7) /\
 ∀ w8,Ext w1 w8 ->
 FnP Tryz.prog F_ask_amount #[(.agg #[(.int .i64 t3),(.int .i64 t4),(.int .i64 t5)]),(.string t6)] w8 fun v9 w9 =>
 Ext w8 w9 /\
 ∃ t10:Int,v9 = (.int .i64 t10) /\
 ∀ w11,Ext w1 w11 ->
 Q (.bool (decide (t7 <= t10))) w11)) /\
 ((t2 ≠ 3) ->
 c0 ≠ none /\
 ∃ t3:Option Addr,∃ tl4:Nat,∃ tc5:Nat,cell w1 (pAdd c0 1) 0 = some (.slice t3 tl4 tc5) /\
 ∀ w6,Ext w1 w6 ->
 FnP Tryz.prog F_slices_ContainsFunc_api_Label_api_Label #[(.slice t3 tl4 tc5),(.func (.func 135) #[] #[(.pointer p1)])] w6 fun v7 w7 =>
 Ext w6 w7 /\
 ∃ t8:Bool,v7 = (.bool t8) /\
 ∀ w9,Ext w1 w9 ->
 Q (.bool t8) w9)
theorem ok_ask_Holds_1 (x_0:Int) (x_1:ByteArray) (x_2:ByteArray) (x_3:Int) (x_4:Option Addr) (x_4l:Nat) (x_4c:Nat) (c0:Option Addr) (w:World) (Q:Value->World->Prop) (h:wp_ask_Holds_1 x_0 x_1 x_2 x_3 x_4 x_4l x_4c c0 w Q):FnP Tryz.prog F_ask_Holds_1 #[(.agg #[(.int .i64 x_0),(.string x_1),(.string x_2),(.int .i64 x_3),(.slice x_4 x_4l x_4c)]),(.pointer c0)] w Q:=by
  have e_:wp_ask_Holds_1 x_0 x_1 x_2 x_3 x_4 x_4l x_4c c0 w Q = Runs Tryz.prog Q ({ N:=19,wrap:=[],pub:=[2],muts:=[],joins:=[] }:Cfg) Tryz.f132 (Tryz.f132.body.getD .skip) [.agg [.int .i64 x_0,.str x_1,.str x_2,.int .i64 x_3,.slc x_4 x_4l x_4c],.sc (.ptr c0)] w:=by kernel_rfl
  rw [e_] at h
  exact runs_fn h Tryz.func132 (by kernel_rfl) (fun args w=>Tryz.call132 args w) (by kernel_rfl) (by kernel_rfl) rfl rfl
def wp_ask_Holds_1_1 (l_0:ByteArray) (l_1:ByteArray) (c0:Option Addr) (w:World) (Q:Value->World->Prop):Prop :=
 ∀ b0:Nat,w.heap.size <= b0->c0 ≠ none /\
 ∃ t1:ByteArray,cell w (pAdd c0 1) 0 = some (.string t1) /\
 ((l_0 = t1) ->
 c0 ≠ none) /\
 (((l_0 = t1) ->
 ∃ t2:Int,cell w (pAdd c0 0) 0 = some (.int .i64 t2) /\
 ((t2 ≠ 1) ->
 c0 ≠ none) /\
 ((t2 = 1) ->
 ∀ w3,Ext w w3 ->
 Q (.bool true) w3) /\
 ((t2 ≠ 1) ->
 ∃ t3:ByteArray,cell w (pAdd c0 2) 0 = some (.string t3) /\
 ∀ w4,Ext w w4 ->
 Q (.bool (decide (l_1 = t3))) w4))) /\
 ((l_0 ≠ t1) ->
 ∀ w2,Ext w w2 ->
 Q (.bool false) w2)
theorem ok_ask_Holds_1_1 (l_0:ByteArray) (l_1:ByteArray) (c0:Option Addr) (w:World) (Q:Value->World->Prop) (h:wp_ask_Holds_1_1 l_0 l_1 c0 w Q):FnP Tryz.prog F_ask_Holds_1_1 #[(.agg #[(.string l_0),(.string l_1)]),(.pointer c0)] w Q:=by
  have e_:wp_ask_Holds_1_1 l_0 l_1 c0 w Q = Runs Tryz.prog Q ({ N:=21,wrap:=[],pub:=[],muts:=[],joins:=[] }:Cfg) Tryz.f135 (Tryz.f135.body.getD .skip) [.agg [.str l_0,.str l_1],.sc (.ptr c0)] w:=by kernel_rfl
  rw [e_] at h
  exact runs_fn h Tryz.func135 (by kernel_rfl) (fun args w=>Tryz.call135 args w) (by kernel_rfl) (by kernel_rfl) rfl rfl
def wp_slices_ContainsFunc_api_Label_api_Label (s:Option Addr) (sl:Nat) (sc:Nat) (f:Value) (w:World) (Q:Value->World->Prop):Prop :=
 ∀ w0,Ext w w0 ->
 FnP Tryz.prog F_slices_IndexFunc_api_Label_api_Label #[(.slice s sl sc),f] w0 fun v1 w1 =>
 Ext w0 w1 /\
 ∃ t2:Int,v1 = (.int .i64 t2) /\
 ∀ w3,Ext w w3 ->
 Q (.bool (decide (0 <= t2))) w3
theorem ok_slices_ContainsFunc_api_Label_api_Label (s:Option Addr) (sl:Nat) (sc:Nat) (f:Value) (w:World) (Q:Value->World->Prop) (h:wp_slices_ContainsFunc_api_Label_api_Label s sl sc f w Q):FnP Tryz.prog F_slices_ContainsFunc_api_Label_api_Label #[(.slice s sl sc),f] w Q:=by
  have e_:wp_slices_ContainsFunc_api_Label_api_Label s sl sc f w Q = Runs Tryz.prog Q ({ N:=9,wrap:=[],pub:=[],muts:=[],joins:=[] }:Cfg) Tryz.f134 (Tryz.f134.body.getD .skip) [.sc (.slc s sl sc),.sc (.val f)] w:=by kernel_rfl
  rw [e_] at h
  exact runs_fn h Tryz.func134 (by kernel_rfl) (fun args w=>Tryz.call134 args w) (by kernel_rfl) (by kernel_rfl) rfl rfl
def wp_slices_IndexFunc_api_Label_api_Label (s:Option Addr) (sl:Nat) (sc:Nat) (f:Value) (w:World) (Q:Value->World->Prop):Prop :=
 ∃ (I0:Int->World->Prop) (M0:Int->World->Nat),I0 0 w /\
 ∀ (k1:Int) (w2:World),I0 k1 w2 ->
 (((k1 < (sl:Int)) ->
 s ≠ none /\
 (0:Int) <= k1 /\
 (k1:Int) < (sl:Int) /\
 (pIdx s k1 2) ≠ none /\
 ∃ t3:ByteArray,cell w2 (pIdx s k1 2) 0 = some (.string t3) /\
 ∃ t4:ByteArray,cell w2 (pIdx s k1 2) 1 = some (.string t4) /\
 ∀ w5,Ext w2 w5 ->
 FnVP Tryz.prog f [(.agg #[(.string t3),(.string t4)])] w5 fun v6 w6 =>
 Ext w5 w6 /\
 ∃ t7:Bool,v6 = (.bool t7) /\
 ((t7 = true) ->
 ∀ w8,Ext w2 w8 ->
 Q (.int .i64 k1) w8) /\
 ((t7 = false) ->
 InR .i64 (k1 + 1) /\
 (I0 (k1 + 1) w2/\M0 (k1 + 1) w2 < M0 k1 w2)))) /\
 (((sl:Int) <= k1) ->
 ∀ w3,Ext w2 w3 ->
 Q (.int .i64 (-1)) w3)
theorem ok_slices_IndexFunc_api_Label_api_Label (s:Option Addr) (sl:Nat) (sc:Nat) (f:Value) (w:World) (Q:Value->World->Prop) (h:wp_slices_IndexFunc_api_Label_api_Label s sl sc f w Q):FnP Tryz.prog F_slices_IndexFunc_api_Label_api_Label #[(.slice s sl sc),f] w Q:=by
  have e_:wp_slices_IndexFunc_api_Label_api_Label s sl sc f w Q = Runs Tryz.prog Q ({ N:=19,wrap:=[],pub:=[],muts:=[],joins:=[] }:Cfg) Tryz.f152 (Tryz.f152.body.getD .skip) [.sc (.slc s sl sc),.sc (.val f)] w:=by kernel_rfl
  rw [e_] at h
  exact runs_fn h Tryz.func152 (by kernel_rfl) (fun args w=>Tryz.call152 args w) (by kernel_rfl) (by kernel_rfl) rfl rfl
end Go.Proofs.YtegephkpdlopaaaGreatDoor
set_option linter.unusedVariables false
set_option linter.unusedSimpArgs false
set_option maxRecDepth 100000
namespace Go.Proofs.YtegephkpdlopaaaGreatDoor
open Go.Sx Go.RowKit
abbrev F_shiftbellkeep_sameHosts:FuncId:=30
abbrev F_host_Check:FuncId:=38
abbrev F_slices_EqualFunc_api_Host_api_Host_api_Host_api_Host:FuncId:=53
abbrev F_shiftbellkeep_sameHosts_1:FuncId:=54
abbrev F_slices_Equal_api_Label_api_Label:FuncId:=55
abbrev F_host_Best:FuncId:=61
abbrev F_host_Take:FuncId:=62
abbrev F_slices_Clone_api_Host_api_Host:FuncId:=70
abbrev F_slices_Clone_api_Label_api_Label:FuncId:=71
abbrev F_slices_ContainsFunc_int_int:FuncId:=80
abbrev F_host_Fit:FuncId:=84
abbrev F_host_Best_1:FuncId:=85
abbrev F_slices_MinFunc_int_int:FuncId:=87
abbrev F_host_Best_2:FuncId:=88
abbrev F_cmp_Or_int:FuncId:=89
abbrev F_cmp_Compare_int64:FuncId:=90
abbrev F_host_change:FuncId:=91
abbrev F_host_Take_1:FuncId:=92
abbrev F_host_Give:FuncId:=94
abbrev F_slices_IndexFunc_int_int:FuncId:=111
abbrev F_cmp_isNaN_int64:FuncId:=115
abbrev F_host_own:FuncId:=116
abbrev F_host_Give_1:FuncId:=117
def wp_host_Check (l:Option Addr) (ll:Nat) (lc:Nat) (w:World) (Q:Value->World->Prop):Prop :=
 ((30 < (ll:Int)) ->
 ∀ w0,Ext w w0 ->
 Q (.int .i64 2) w0) /\
 (((ll:Int) <= 30) ->
 ∀ w0,Ext w w0 ->
 Run Tryz.prog (.makeMap 130) w0 fun v1 w1 =>
 Ext w0 w1 /\
 ∃ t2:Value,v1 = t2 /\
 ∃ (I3:Int->World->Prop) (M3:Int->World->Nat),I3 0 w1 /\
 ∀ (k4:Int) (w5:World),I3 k4 w5 ->
 (((k4 < (ll:Int)) ->
 l ≠ none /\
 (0:Int) <= k4 /\
 (k4:Int) < (ll:Int) /\
 (pIdx l k4 8) ≠ none /\
 ∃ t6:ByteArray,cell w5 (pIdx l k4 8) 0 = some (.string t6) /\
 ∃ t7:Option Addr,∃ tl8:Nat,∃ tc9:Nat,cell w5 (pIdx l k4 8) 1 = some (.slice t7 tl8 tc9) /\
 ∃ t10:Int,cell w5 (pIdx l k4 8) 2 = some (.int .i64 t10) /\
 ∃ t11:Int,cell w5 (pIdx l k4 8) 3 = some (.int .i64 t11) /\
 ∃ t12:Int,cell w5 (pIdx l k4 8) 4 = some (.int .i64 t12) /\
 ∃ t13:Int,cell w5 (pIdx l k4 8) 5 = some (.int .i64 t13) /\
 ∃ t14:Int,cell w5 (pIdx l k4 8) 6 = some (.int .i64 t14) /\
 ∃ t15:Int,cell w5 (pIdx l k4 8) 7 = some (.int .i64 t15) /\
 ∀ b16:Nat,w5.heap.size <= b16->∃ (J17:World->Prop),(∀ w19,Ext w5 w19 ->
 FnP Tryz.prog F_ask_Label #[(.string t6)] w19 fun v20 w20 =>
 Ext w19 w20 /\
 ∃ t21:Bool,v20 = (.bool t21) /\
 ((t21 = false) ->
 ∀ w22,Ext w5 w22 ->
 Q (.int .i64 3) w22) /\
 ((t21 = true) ->
 ∀ w22,Ext w5 w22 ->
 Run Tryz.prog (.lookup 130 t2 (.string t6) false) w22 fun v23 w23 =>
 Ext w22 w23 /\
 ∃ t24:Bool,v23 = (.bool t24) /\
 ((t24 = true) ->
 ∀ w25,Ext w5 w25 ->
 Q (.int .i64 6) w25) /\
 ((t24 = false) ->
 ((8 < (tl8:Int)) ->
 ∀ w25,Ext w5 w25 ->
 Q (.int .i64 2) w25) /\
 (((tl8:Int) <= 8) ->
 J17  w5)))) /\
 ∀  (w18:World),J17  w18 ->
 ∀ w19,ExtB [] [b16] w18 w19 ->
 Run Tryz.prog (.mapUpdate 130 t2 (.string t6) (.bool true)) w19 fun v20 w20 =>
 Kept [b16] w19 w20 /\
 ∀ w21,ExtB [] [b16] w20 w21 ->
 Run Tryz.prog (.makeMap 130) w21 fun v22 w22 =>
 Ext w21 w22 /\
 ∃ t23:Value,v22 = t23 /\
 ∃ (I24:Int->World->Prop) (M24:Int->World->Nat),I24 0 w22 /\
 ∀ (k25:Int) (w26:World),I24 k25 w26 ->
 (((k25 < (tl8:Int)) ->
 t7 ≠ none /\
 (0:Int) <= k25 /\
 (k25:Int) < (tl8:Int) /\
 (pIdx t7 k25 2) ≠ none /\
 ∃ t27:ByteArray,cell w26 (pIdx t7 k25 2) 0 = some (.string t27) /\
 ∃ t28:ByteArray,cell w26 (pIdx t7 k25 2) 1 = some (.string t28) /\
 ∀ b29:Nat,w26.heap.size <= b29->∃ (J30:World->Prop),(∀ w32,Ext w26 w32 ->
 FnP Tryz.prog F_ask_Label #[(.string t27)] w32 fun v33 w33 =>
 Ext w32 w33 /\
 ∃ t34:Bool,v33 = (.bool t34) /\
 ((t34 = false) ->
 ∀ w35,Ext w26 w35 ->
 Q (.int .i64 3) w35) /\
 ((t34 = true) ->
 ∀ w35,Ext w26 w35 ->
 FnP Tryz.prog F_ask_Label #[(.string t28)] w35 fun v36 w36 =>
 Ext w35 w36 /\
 ∃ t37:Bool,v36 = (.bool t37) /\
 ((t37 = false) ->
 ∀ w38,Ext w26 w38 ->
 Q (.int .i64 3) w38) /\
 ((t37 = true) ->
 ∀ w38,Ext w26 w38 ->
 Run Tryz.prog (.lookup 130 t23 (.string t27) false) w38 fun v39 w39 =>
 Ext w38 w39 /\
 ∃ t40:Bool,v39 = (.bool t40) /\
 ((t40 = true) ->
 ∀ w41,Ext w26 w41 ->
 Q (.int .i64 6) w41) /\
 ((t40 = false) ->
 J30  w26)))) /\
 ∀  (w31:World),J30  w31 ->
 ∀ w32,ExtB [] [b16,b29] w31 w32 ->
 Run Tryz.prog (.mapUpdate 130 t23 (.string t27) (.bool true)) w32 fun v33 w33 =>
 Kept [b16,b29] w32 w33 /\
 InR .i64 (k25 + 1) /\
 (I24 (k25 + 1) w33/\M24 (k25 + 1) w33 < M24 k25 w26))) /\
 (((tl8:Int) <= k25) ->
 ∀ w27,Ext w26 w27 ->
 FnP Tryz.prog F_need_Fits #[(.agg #[(.int .i64 t13),(.int .i64 t14),(.int .i64 t15)]),(.agg #[(.int .i64 t10),(.int .i64 t11),(.int .i64 t12)])] w27 fun v28 w28 =>
 Ext w27 w28 /\
 ∃ t29:Bool,∃ t30:Int,v28 = (.tuple #[(.bool t29),(.int .i64 t30)]) /\
 ∀ w31,Ext w26 w31 ->
 FnP Tryz.prog F_need_Check #[(.agg #[(.int .i64 t10),(.int .i64 t11),(.int .i64 t12)])] w31 fun v32 w32 =>
 Ext w31 w32 /\
 ∃ t33:Int,v32 = (.int .i64 t33) /\
 ∃ (J34:World->Prop),(((t33 ≠ 0) ->
 ∀ w36,Ext w26 w36 ->
 Q (.int .i64 t33) w36) /\
 ((t33 = 0) ->
 ((t30 ≠ 0) ->
 ∀ w36,Ext w26 w36 ->
 Q (.int .i64 t30) w36) /\
 ((t30 = 0) ->
 ((t29 = false) ->
 ∀ w36,Ext w26 w36 ->
 Q (.int .i64 10) w36) /\
 ((t29 = true) ->
 J34  w26)))) /\
 ∀  (w35:World),J34  w35 ->
 InR .i64 (k4 + 1) /\
 (I3 (k4 + 1) w35/\M3 (k4 + 1) w35 < M3 k4 w5)))) /\
 (((ll:Int) <= k4) ->
 ∀ w6,Ext w5 w6 ->
 Q (.int .i64 0) w6))
theorem ok_host_Check (l:Option Addr) (ll:Nat) (lc:Nat) (w:World) (Q:Value->World->Prop) (h:wp_host_Check l ll lc w Q):FnP Tryz.prog F_host_Check #[(.slice l ll lc)] w Q:=by
  have e_:wp_host_Check l ll lc w Q = Runs Tryz.prog Q ({ N:=91,wrap:=[],pub:=[],muts:=[],joins:=[(2,[]),(5,[]),(6,[])] }:Cfg) Tryz.f38 (Tryz.f38.body.getD .skip) [.sc (.slc l ll lc)] w:=by kernel_rfl
  rw [e_] at h
  exact runs_fn h Tryz.func38 (by kernel_rfl) (fun args w=>Tryz.call38 args w) (by kernel_rfl) (by kernel_rfl) rfl rfl
def wp_host_own (l:Option Addr) (ll:Nat) (lc:Nat) (w:World) (Q:Value->World->Prop):Prop :=
 ∀ w0,Ext w w0 ->
 FnP Tryz.prog F_slices_Clone_api_Host_api_Host #[(.slice l ll lc)] w0 fun v1 w1 =>
 Ext w0 w1 /\
 ∃ t2:Option Addr,∃ tl3:Nat,∃ tc4:Nat,v1 = (.slice t2 tl3 tc4) /\
 ∃ (I5:Int->World->Prop) (M5:Int->World->Nat),I5 0 w1 /\
 ∀ (k6:Int) (w7:World),I5 k6 w7 ->
 (((k6 < (tl3:Int)) ->
 t2 ≠ none /\
 (0:Int) <= k6 /\
 (k6:Int) < (tl3:Int) /\
 (pIdx t2 k6 8) ≠ none /\
 ∃ t8:Option Addr,∃ tl9:Nat,∃ tc10:Nat,cell w7 (pAdd (pIdx t2 k6 8) 1) 0 = some (.slice t8 tl9 tc10) /\
 ∀ w11,Ext w7 w11 ->
 FnP Tryz.prog F_slices_Clone_api_Label_api_Label #[(.slice t8 tl9 tc10)] w11 fun v12 w12 =>
 Ext w11 w12 /\
 ∃ t13:Option Addr,∃ tl14:Nat,∃ tc15:Nat,v12 = (.slice t13 tl14 tc15) /\
 t2 ≠ none /\
 (0:Int) <= k6 /\
 (k6:Int) < (tl3:Int) /\
 (pIdx t2 k6 8) ≠ none /\
 Store w12 (pAdd (pIdx t2 k6 8) 1) [(.slice t13 tl14 tc15)] [] fun w16 =>
 InR .i64 (k6 + 1) /\
 (I5 (k6 + 1) w16/\M5 (k6 + 1) w16 < M5 k6 w7))) /\
 (((tl3:Int) <= k6) ->
 ∀ w8,Ext w7 w8 ->
 Q (.slice t2 tl3 tc4) w8)
theorem ok_host_own (l:Option Addr) (ll:Nat) (lc:Nat) (w:World) (Q:Value->World->Prop) (h:wp_host_own l ll lc w Q):FnP Tryz.prog F_host_own #[(.slice l ll lc)] w Q:=by
  have e_:wp_host_own l ll lc w Q = Runs Tryz.prog Q ({ N:=23,wrap:=[],pub:=[],muts:=[],joins:=[] }:Cfg) Tryz.f116 (Tryz.f116.body.getD .skip) [.sc (.slc l ll lc)] w:=by kernel_rfl
  rw [e_] at h
  exact runs_fn h Tryz.func116 (by kernel_rfl) (fun args w=>Tryz.call116 args w) (by kernel_rfl) (by kernel_rfl) rfl rfl
def wp_host_change (l:Option Addr) (ll:Nat) (lc:Nat) (i:Int) (f:Value) (w:World) (Q:Value->World->Prop):Prop :=
 ∀ w0,Ext w w0 ->
 FnP Tryz.prog F_host_Check #[(.slice l ll lc)] w0 fun v1 w1 =>
 Ext w0 w1 /\
 ∃ t2:Int,v1 = (.int .i64 t2) /\
 ((t2 ≠ 0) ->
 ∀ w3,Ext w w3 ->
 Q (.tuple #[(.slice none 0 0),(.int .i64 t2)]) w3) /\
 ((t2 = 0) ->
 (((i < 0)\/((ll:Int) <= i)) ->
 ∀ w3,Ext w w3 ->
 Q (.tuple #[(.slice none 0 0),(.int .i64 5)]) w3) /\
 (((0 <= i)/\(i < (ll:Int))) ->
 l ≠ none /\
 (0:Int) <= i /\
 (i:Int) < (ll:Int) /\
 (pIdx l i 8) ≠ none /\
 ∃ t3:ByteArray,cell w (pIdx l i 8) 0 = some (.string t3) /\
 ∃ t4:Option Addr,∃ tl5:Nat,∃ tc6:Nat,cell w (pIdx l i 8) 1 = some (.slice t4 tl5 tc6) /\
 ∃ t7:Int,cell w (pIdx l i 8) 2 = some (.int .i64 t7) /\
 ∃ t8:Int,cell w (pIdx l i 8) 3 = some (.int .i64 t8) /\
 ∃ t9:Int,cell w (pIdx l i 8) 4 = some (.int .i64 t9) /\
 ∃ t10:Int,cell w (pIdx l i 8) 5 = some (.int .i64 t10) /\
 ∃ t11:Int,cell w (pIdx l i 8) 6 = some (.int .i64 t11) /\
 ∃ t12:Int,cell w (pIdx l i 8) 7 = some (.int .i64 t12) /\
 ∀ w13,Ext w w13 ->
 FnVP Tryz.prog f [(.agg #[(.string t3),(.slice t4 tl5 tc6),(.int .i64 t7),(.int .i64 t8),(.int .i64 t9),(.int .i64 t10),(.int .i64 t11),(.int .i64 t12)])] w13 fun v14 w14 =>
 Ext w13 w14 /\
 ∃ t_015:Int,∃ t_116:Int,∃ t_217:Int,∃ t18:Int,v14 = (.tuple #[(.agg #[(.int .i64 t_015),(.int .i64 t_116),(.int .i64 t_217)]),(.int .i64 t18)]) /\
 ∀ b19:Nat,w.heap.size <= b19->((t18 ≠ 0) ->
 ∀ w20,Ext w w20 ->
 Q (.tuple #[(.slice none 0 0),(.int .i64 t18)]) w20) /\
 ((t18 = 0) ->
 ∀ w20,ExtB [] [b19] w w20 ->
 FnP Tryz.prog F_host_own #[(.slice l ll lc)] w20 fun v21 w21 =>
 Ext w20 w21 /\
 ∃ t22:Option Addr,∃ tl23:Nat,∃ tc24:Nat,v21 = (.slice t22 tl23 tc24) /\
 t22 ≠ none /\
 (0:Int) <= i /\
 (i:Int) < (tl23:Int) /\
 (pIdx t22 i 8) ≠ none /\
 Store w21 (pAdd (pIdx t22 i 8) 5) [(.int .i64 t_015),(.int .i64 t_116),(.int .i64 t_217)] [b19] fun w25 =>
 ∀ w26,Ext w25 w26 ->
 Q (.tuple #[(.slice t22 tl23 tc24),(.int .i64 0)]) w26)))
theorem ok_host_change (l:Option Addr) (ll:Nat) (lc:Nat) (i:Int) (f:Value) (w:World) (Q:Value->World->Prop) (h:wp_host_change l ll lc i f w Q):FnP Tryz.prog F_host_change #[(.slice l ll lc),(.int .i64 i),f] w Q:=by
  have e_:wp_host_change l ll lc i f w Q = Runs Tryz.prog Q ({ N:=44,wrap:=[],pub:=[],muts:=[],joins:=[] }:Cfg) Tryz.f91 (Tryz.f91.body.getD .skip) [.sc (.slc l ll lc),.sc (.int .i64 i),.sc (.val f)] w:=by kernel_rfl
  rw [e_] at h
  exact runs_fn h Tryz.func91 (by kernel_rfl) (fun args w=>Tryz.call91 args w) (by kernel_rfl) (by kernel_rfl) rfl rfl
def wp_host_Take (l:Option Addr) (ll:Nat) (lc:Nat) (i:Int) (a_0:Int) (a_1:Int) (a_2:Int) (w:World) (Q:Value->World->Prop):Prop :=
 ∀ w0,Ext w w0 ->
 New w0 34 [(.int .i64 a_0),(.int .i64 a_1),(.int .i64 a_2)] fun p1 w1 =>
 ∀ w2,Ext w1 w2 ->
 FnP Tryz.prog F_host_change #[(.slice l ll lc),(.int .i64 i),(.func (.func 92) #[] #[(.pointer p1)])] w2 fun v3 w3 =>
 Ext w2 w3 /\
 ∃ t4:Option Addr,∃ tl5:Nat,∃ tc6:Nat,∃ t7:Int,v3 = (.tuple #[(.slice t4 tl5 tc6),(.int .i64 t7)]) /\
 ∀ w8,Ext w3 w8 ->
 Q (.tuple #[(.slice t4 tl5 tc6),(.int .i64 t7)]) w8
theorem ok_host_Take (l:Option Addr) (ll:Nat) (lc:Nat) (i:Int) (a_0:Int) (a_1:Int) (a_2:Int) (w:World) (Q:Value->World->Prop) (h:wp_host_Take l ll lc i a_0 a_1 a_2 w Q):FnP Tryz.prog F_host_Take #[(.slice l ll lc),(.int .i64 i),(.agg #[(.int .i64 a_0),(.int .i64 a_1),(.int .i64 a_2)])] w Q:=by
  have e_:wp_host_Take l ll lc i a_0 a_1 a_2 w Q = Runs Tryz.prog Q ({ N:=14,wrap:=[],pub:=[5],muts:=[],joins:=[] }:Cfg) Tryz.f62 (Tryz.f62.body.getD .skip) [.sc (.slc l ll lc),.sc (.int .i64 i),.agg [.int .i64 a_0,.int .i64 a_1,.int .i64 a_2]] w:=by kernel_rfl
  rw [e_] at h
  exact runs_fn h Tryz.func62 (by kernel_rfl) (fun args w=>Tryz.call62 args w) (by kernel_rfl) (by kernel_rfl) rfl rfl
def wp_host_Take_1 (h_v_0:ByteArray) (h_v_1:Option Addr) (h_v_1l:Nat) (h_v_1c:Nat) (h_v_2:Int) (h_v_3:Int) (h_v_4:Int) (h_v_5:Int) (h_v_6:Int) (h_v_7:Int) (c0:Option Addr) (w:World) (Q:Value->World->Prop):Prop :=
 ∀ b0:Nat,w.heap.size <= b0->∀ b1:Nat,w.heap.size <= b1->∀ w2,Ext w w2 ->
 FnP Tryz.prog F_need_Sub #[(.agg #[(.int .i64 h_v_2),(.int .i64 h_v_3),(.int .i64 h_v_4)]),(.agg #[(.int .i64 h_v_5),(.int .i64 h_v_6),(.int .i64 h_v_7)])] w2 fun v3 w3 =>
 Ext w2 w3 /\
 ∃ t_04:Int,∃ t_15:Int,∃ t_26:Int,∃ t7:Int,v3 = (.tuple #[(.agg #[(.int .i64 t_04),(.int .i64 t_15),(.int .i64 t_26)]),(.int .i64 t7)]) /\
 ∀ b8:Nat,w.heap.size <= b8->c0 ≠ none /\
 ∃ t9:Int,cell w c0 0 = some (.int .i64 t9) /\
 ∃ t10:Int,cell w c0 1 = some (.int .i64 t10) /\
 ∃ t11:Int,cell w c0 2 = some (.int .i64 t11) /\
 ∀ w12,Ext w w12 ->
 FnP Tryz.prog F_need_Sub #[(.agg #[(.int .i64 t_04),(.int .i64 t_15),(.int .i64 t_26)]),(.agg #[(.int .i64 t9),(.int .i64 t10),(.int .i64 t11)])] w12 fun v13 w13 =>
 Ext w12 w13 /\
 ∃ t_014:Int,∃ t_115:Int,∃ t_216:Int,∃ t17:Int,v13 = (.tuple #[(.agg #[(.int .i64 t_014),(.int .i64 t_115),(.int .i64 t_216)]),(.int .i64 t17)]) /\
 ∀ b18:Nat,w.heap.size <= b18->((t17 ≠ 0) ->
 ∀ w19,Ext w w19 ->
 Q (.tuple #[(.agg #[(.int .i64 0),(.int .i64 0),(.int .i64 0)]),(.int .i64 t17)]) w19) /\
 ((t17 = 0) ->
 c0 ≠ none /\
 ∃ t19:Int,cell w c0 0 = some (.int .i64 t19) /\
 ∃ t20:Int,cell w c0 1 = some (.int .i64 t20) /\
 ∃ t21:Int,cell w c0 2 = some (.int .i64 t21) /\
 ∀ w22,Ext w w22 ->
 FnP Tryz.prog F_need_Add #[(.agg #[(.int .i64 h_v_5),(.int .i64 h_v_6),(.int .i64 h_v_7)]),(.agg #[(.int .i64 t19),(.int .i64 t20),(.int .i64 t21)])] w22 fun v23 w23 =>
 Ext w22 w23 /\
 ∃ t_024:Int,∃ t_125:Int,∃ t_226:Int,∃ t27:Int,v23 = (.tuple #[(.agg #[(.int .i64 t_024),(.int .i64 t_125),(.int .i64 t_226)]),(.int .i64 t27)]) /\
 ∀ w28,Ext w w28 ->
 Q (.tuple #[(.agg #[(.int .i64 t_024),(.int .i64 t_125),(.int .i64 t_226)]),(.int .i64 t27)]) w28)
theorem ok_host_Take_1 (h_v_0:ByteArray) (h_v_1:Option Addr) (h_v_1l:Nat) (h_v_1c:Nat) (h_v_2:Int) (h_v_3:Int) (h_v_4:Int) (h_v_5:Int) (h_v_6:Int) (h_v_7:Int) (c0:Option Addr) (w:World) (Q:Value->World->Prop) (h:wp_host_Take_1 h_v_0 h_v_1 h_v_1l h_v_1c h_v_2 h_v_3 h_v_4 h_v_5 h_v_6 h_v_7 c0 w Q):FnP Tryz.prog F_host_Take_1 #[(.agg #[(.string h_v_0),(.slice h_v_1 h_v_1l h_v_1c),(.int .i64 h_v_2),(.int .i64 h_v_3),(.int .i64 h_v_4),(.int .i64 h_v_5),(.int .i64 h_v_6),(.int .i64 h_v_7)]),(.pointer c0)] w Q:=by
  have e_:wp_host_Take_1 h_v_0 h_v_1 h_v_1l h_v_1c h_v_2 h_v_3 h_v_4 h_v_5 h_v_6 h_v_7 c0 w Q = Runs Tryz.prog Q ({ N:=33,wrap:=[],pub:=[],muts:=[],joins:=[] }:Cfg) Tryz.f92 (Tryz.f92.body.getD .skip) [.agg [.str h_v_0,.slc h_v_1 h_v_1l h_v_1c,.int .i64 h_v_2,.int .i64 h_v_3,.int .i64 h_v_4,.int .i64 h_v_5,.int .i64 h_v_6,.int .i64 h_v_7],.sc (.ptr c0)] w:=by kernel_rfl
  rw [e_] at h
  exact runs_fn h Tryz.func92 (by kernel_rfl) (fun args w=>Tryz.call92 args w) (by kernel_rfl) (by kernel_rfl) rfl rfl
def wp_host_Give (l:Option Addr) (ll:Nat) (lc:Nat) (i:Int) (a_0:Int) (a_1:Int) (a_2:Int) (w:World) (Q:Value->World->Prop):Prop :=
 ∀ w0,Ext w w0 ->
 New w0 34 [(.int .i64 a_0),(.int .i64 a_1),(.int .i64 a_2)] fun p1 w1 =>
 ∀ w2,Ext w1 w2 ->
 FnP Tryz.prog F_host_change #[(.slice l ll lc),(.int .i64 i),(.func (.func 117) #[] #[(.pointer p1)])] w2 fun v3 w3 =>
 Ext w2 w3 /\
 ∃ t4:Option Addr,∃ tl5:Nat,∃ tc6:Nat,∃ t7:Int,v3 = (.tuple #[(.slice t4 tl5 tc6),(.int .i64 t7)]) /\
 ∀ w8,Ext w3 w8 ->
 Q (.tuple #[(.slice t4 tl5 tc6),(.int .i64 t7)]) w8
theorem ok_host_Give (l:Option Addr) (ll:Nat) (lc:Nat) (i:Int) (a_0:Int) (a_1:Int) (a_2:Int) (w:World) (Q:Value->World->Prop) (h:wp_host_Give l ll lc i a_0 a_1 a_2 w Q):FnP Tryz.prog F_host_Give #[(.slice l ll lc),(.int .i64 i),(.agg #[(.int .i64 a_0),(.int .i64 a_1),(.int .i64 a_2)])] w Q:=by
  have e_:wp_host_Give l ll lc i a_0 a_1 a_2 w Q = Runs Tryz.prog Q ({ N:=14,wrap:=[],pub:=[5],muts:=[],joins:=[] }:Cfg) Tryz.f94 (Tryz.f94.body.getD .skip) [.sc (.slc l ll lc),.sc (.int .i64 i),.agg [.int .i64 a_0,.int .i64 a_1,.int .i64 a_2]] w:=by kernel_rfl
  rw [e_] at h
  exact runs_fn h Tryz.func94 (by kernel_rfl) (fun args w=>Tryz.call94 args w) (by kernel_rfl) (by kernel_rfl) rfl rfl
def wp_host_Give_1 (h_v_0:ByteArray) (h_v_1:Option Addr) (h_v_1l:Nat) (h_v_1c:Nat) (h_v_2:Int) (h_v_3:Int) (h_v_4:Int) (h_v_5:Int) (h_v_6:Int) (h_v_7:Int) (c0:Option Addr) (w:World) (Q:Value->World->Prop):Prop :=
 ∀ b0:Nat,w.heap.size <= b0->∀ b1:Nat,w.heap.size <= b1->c0 ≠ none /\
 ∃ t2:Int,cell w c0 0 = some (.int .i64 t2) /\
 ∃ t3:Int,cell w c0 1 = some (.int .i64 t3) /\
 ∃ t4:Int,cell w c0 2 = some (.int .i64 t4) /\
 ∀ w5,Ext w w5 ->
 FnP Tryz.prog F_need_Sub #[(.agg #[(.int .i64 h_v_5),(.int .i64 h_v_6),(.int .i64 h_v_7)]),(.agg #[(.int .i64 t2),(.int .i64 t3),(.int .i64 t4)])] w5 fun v6 w6 =>
 Ext w5 w6 /\
 ∃ t_07:Int,∃ t_18:Int,∃ t_29:Int,∃ t10:Int,v6 = (.tuple #[(.agg #[(.int .i64 t_07),(.int .i64 t_18),(.int .i64 t_29)]),(.int .i64 t10)]) /\
 ∀ w11,Ext w w11 ->
 Q (.tuple #[(.agg #[(.int .i64 t_07),(.int .i64 t_18),(.int .i64 t_29)]),(.int .i64 t10)]) w11
theorem ok_host_Give_1 (h_v_0:ByteArray) (h_v_1:Option Addr) (h_v_1l:Nat) (h_v_1c:Nat) (h_v_2:Int) (h_v_3:Int) (h_v_4:Int) (h_v_5:Int) (h_v_6:Int) (h_v_7:Int) (c0:Option Addr) (w:World) (Q:Value->World->Prop) (h:wp_host_Give_1 h_v_0 h_v_1 h_v_1l h_v_1c h_v_2 h_v_3 h_v_4 h_v_5 h_v_6 h_v_7 c0 w Q):FnP Tryz.prog F_host_Give_1 #[(.agg #[(.string h_v_0),(.slice h_v_1 h_v_1l h_v_1c),(.int .i64 h_v_2),(.int .i64 h_v_3),(.int .i64 h_v_4),(.int .i64 h_v_5),(.int .i64 h_v_6),(.int .i64 h_v_7)]),(.pointer c0)] w Q:=by
  have e_:wp_host_Give_1 h_v_0 h_v_1 h_v_1l h_v_1c h_v_2 h_v_3 h_v_4 h_v_5 h_v_6 h_v_7 c0 w Q = Runs Tryz.prog Q ({ N:=11,wrap:=[],pub:=[],muts:=[],joins:=[] }:Cfg) Tryz.f117 (Tryz.f117.body.getD .skip) [.agg [.str h_v_0,.slc h_v_1 h_v_1l h_v_1c,.int .i64 h_v_2,.int .i64 h_v_3,.int .i64 h_v_4,.int .i64 h_v_5,.int .i64 h_v_6,.int .i64 h_v_7],.sc (.ptr c0)] w:=by kernel_rfl
  rw [e_] at h
  exact runs_fn h Tryz.func117 (by kernel_rfl) (fun args w=>Tryz.call117 args w) (by kernel_rfl) (by kernel_rfl) rfl rfl
def wp_host_Fit (l:Option Addr) (ll:Nat) (lc:Nat) (x_0:Int) (x_1:ByteArray) (x_2:ByteArray) (x_3:Int) (x_4:Option Addr) (x_4l:Nat) (x_4c:Nat) (a_0:Int) (a_1:Int) (a_2:Int) (w:World) (Q:Value->World->Prop):Prop :=
 ∀ b0:Nat,w.heap.size <= b0->∀ b1:Nat,w.heap.size <= b1->∀ w2,Ext w w2 ->
 FnP Tryz.prog F_host_Check #[(.slice l ll lc)] w2 fun v3 w3 =>
 Ext w2 w3 /\
 ∃ t4:Int,v3 = (.int .i64 t4) /\
 ((t4 ≠ 0) ->
 ∀ w5,Ext w w5 ->
 Q (.tuple #[(.slice none 0 0),(.int .i64 t4)]) w5) /\
 ((t4 = 0) ->
 ∀ w5,Ext w w5 ->
 FnP Tryz.prog F_ask_Check #[(.agg #[(.int .i64 x_0),(.string x_1),(.string x_2),(.int .i64 x_3),(.slice x_4 x_4l x_4c)])] w5 fun v6 w6 =>
 Ext w5 w6 /\
 ∃ t7:Int,v6 = (.int .i64 t7) /\
 ((t7 ≠ 0) ->
 ∀ w8,Ext w w8 ->
 Q (.tuple #[(.slice none 0 0),(.int .i64 t7)]) w8) /\
 ((t7 = 0) ->
 ∀ w8,Ext w w8 ->
 FnP Tryz.prog F_need_Check #[(.agg #[(.int .i64 a_0),(.int .i64 a_1),(.int .i64 a_2)])] w8 fun v9 w9 =>
 Ext w8 w9 /\
 ∃ t10:Int,v9 = (.int .i64 t10) /\
 ((t10 ≠ 0) ->
 ∀ w11,Ext w w11 ->
 Q (.tuple #[(.slice none 0 0),(.int .i64 t10)]) w11) /\
 ((t10 = 0) ->
 ∃ (I11:Option Addr->Nat->Nat->Int->World->Prop) (M11:Option Addr->Nat->Nat->Int->World->Nat),I11 none 0 0 0 w /\
 ∀ (out12:Option Addr) (outl12:Nat) (outc12:Nat) (k13:Int) (w14:World),I11 out12 outl12 outc12 k13 w14 ->
 (((k13 < (ll:Int)) ->
 l ≠ none /\
 (0:Int) <= k13 /\
 (k13:Int) < (ll:Int) /\
 (pIdx l k13 8) ≠ none /\
 ∃ t15:ByteArray,cell w14 (pIdx l k13 8) 0 = some (.string t15) /\
 ∃ t16:Option Addr,∃ tl17:Nat,∃ tc18:Nat,cell w14 (pIdx l k13 8) 1 = some (.slice t16 tl17 tc18) /\
 ∃ t19:Int,cell w14 (pIdx l k13 8) 2 = some (.int .i64 t19) /\
 ∃ t20:Int,cell w14 (pIdx l k13 8) 3 = some (.int .i64 t20) /\
 ∃ t21:Int,cell w14 (pIdx l k13 8) 4 = some (.int .i64 t21) /\
 ∃ t22:Int,cell w14 (pIdx l k13 8) 5 = some (.int .i64 t22) /\
 ∃ t23:Int,cell w14 (pIdx l k13 8) 6 = some (.int .i64 t23) /\
 ∃ t24:Int,cell w14 (pIdx l k13 8) 7 = some (.int .i64 t24) /\
 ∀ b25:Nat,w14.heap.size <= b25->∀ w26,Ext w14 w26 ->
 FnP Tryz.prog F_need_Sub #[(.agg #[(.int .i64 t19),(.int .i64 t20),(.int .i64 t21)]),(.agg #[(.int .i64 t22),(.int .i64 t23),(.int .i64 t24)])] w26 fun v27 w27 =>
 Ext w26 w27 /\
 ∃ t_028:Int,∃ t_129:Int,∃ t_230:Int,∃ t31:Int,v27 = (.tuple #[(.agg #[(.int .i64 t_028),(.int .i64 t_129),(.int .i64 t_230)]),(.int .i64 t31)]) /\
 ∀ b32:Nat,w14.heap.size <= b32->∀ w33,Ext w14 w33 ->
 FnP Tryz.prog F_ask_Holds #[(.agg #[(.int .i64 x_0),(.string x_1),(.string x_2),(.int .i64 x_3),(.slice x_4 x_4l x_4c)]),(.agg #[(.string t15),(.slice t16 tl17 tc18),(.int .i64 t19),(.int .i64 t20),(.int .i64 t21),(.int .i64 t22),(.int .i64 t23),(.int .i64 t24)])] w33 fun v34 w34 =>
 Ext w33 w34 /\
 ∃ t35:Bool,∃ t36:Int,v34 = (.tuple #[(.bool t35),(.int .i64 t36)]) /\
 ∀ w37,Ext w14 w37 ->
 FnP Tryz.prog F_need_Fits #[(.agg #[(.int .i64 a_0),(.int .i64 a_1),(.int .i64 a_2)]),(.agg #[(.int .i64 t_028),(.int .i64 t_129),(.int .i64 t_230)])] w37 fun v38 w38 =>
 Ext w37 w38 /\
 ∃ t39:Bool,∃ t40:Int,v38 = (.tuple #[(.bool t39),(.int .i64 t40)]) /\
 ((((t35 = true)/\(t39 = true)) ->
 ∀ w41,ExtB [] [b0,b1,b25,b32] w14 w41 ->
 Run Tryz.prog (.buildSlice 38 1 [(0,(.int .i64 k13))]) w41 fun v42 w42 =>
 Ext w41 w42 /\
 ∃ t43:Option Addr,∃ tl44:Nat,∃ tc45:Nat,v42 = (.slice t43 tl44 tc45) /\
 ∀ w46,ExtB [] [b0,b1,b25,b32] w42 w46 ->
 Run Tryz.prog (.append #[38,38] 38 [(.slice out12 outl12 outc12),(.slice t43 tl44 tc45)]) w46 fun v47 w47 =>
 Kept [b0,b1,b25,b32] w46 w47 /\
 ∃ t48:Option Addr,∃ tl49:Nat,∃ tc50:Nat,v47 = (.slice t48 tl49 tc50) /\
 InR .i64 (k13 + 1) /\
 (I11 t48 tl49 tc50 (k13 + 1) w47/\M11 t48 tl49 tc50 (k13 + 1) w47 < M11 out12 outl12 outc12 k13 w14))) /\
 (((t35 = false)\/(t39 = false)) ->
 InR .i64 (k13 + 1) /\
 (I11 out12 outl12 outc12 (k13 + 1) w14/\M11 out12 outl12 outc12 (k13 + 1) w14 < M11 out12 outl12 outc12 k13 w14)))) /\
 (((ll:Int) <= k13) ->
 ∀ w15,Ext w14 w15 ->
 Q (.tuple #[(.slice out12 outl12 outc12),(.int .i64 0)]) w15))))
theorem ok_host_Fit (l:Option Addr) (ll:Nat) (lc:Nat) (x_0:Int) (x_1:ByteArray) (x_2:ByteArray) (x_3:Int) (x_4:Option Addr) (x_4l:Nat) (x_4c:Nat) (a_0:Int) (a_1:Int) (a_2:Int) (w:World) (Q:Value->World->Prop) (h:wp_host_Fit l ll lc x_0 x_1 x_2 x_3 x_4 x_4l x_4c a_0 a_1 a_2 w Q):FnP Tryz.prog F_host_Fit #[(.slice l ll lc),(.agg #[(.int .i64 x_0),(.string x_1),(.string x_2),(.int .i64 x_3),(.slice x_4 x_4l x_4c)]),(.agg #[(.int .i64 a_0),(.int .i64 a_1),(.int .i64 a_2)])] w Q:=by
  have e_:wp_host_Fit l ll lc x_0 x_1 x_2 x_3 x_4 x_4l x_4c a_0 a_1 a_2 w Q = Runs Tryz.prog Q ({ N:=72,wrap:=[],pub:=[],muts:=[],joins:=[] }:Cfg) Tryz.f84 (Tryz.f84.body.getD .skip) [.sc (.slc l ll lc),.agg [.int .i64 x_0,.str x_1,.str x_2,.int .i64 x_3,.slc x_4 x_4l x_4c],.agg [.int .i64 a_0,.int .i64 a_1,.int .i64 a_2]] w:=by kernel_rfl
  rw [e_] at h
  exact runs_fn h Tryz.func84 (by kernel_rfl) (fun args w=>Tryz.call84 args w) (by kernel_rfl) (by kernel_rfl) rfl rfl
def wp_host_Best (l:Option Addr) (ll:Nat) (lc:Nat) (x_0:Int) (x_1:ByteArray) (x_2:ByteArray) (x_3:Int) (x_4:Option Addr) (x_4l:Nat) (x_4c:Nat) (a_0:Int) (a_1:Int) (a_2:Int) (w:World) (Q:Value->World->Prop):Prop :=
 ∀ w0,Ext w w0 ->
 New w0 22 [(.slice l ll lc)] fun p1 w1 =>
 ∀ b2:Nat,w1.heap.size <= b2->∀ b3:Nat,w1.heap.size <= b3->∃ t4:Option Addr,∃ tl5:Nat,∃ tc6:Nat,cell w1 p1 0 = some (.slice t4 tl5 tc6) /\
 ∀ w7,ExtB [] [b2,b3] w1 w7 ->
 FnP Tryz.prog F_host_Fit #[(.slice t4 tl5 tc6),(.agg #[(.int .i64 x_0),(.string x_1),(.string x_2),(.int .i64 x_3),(.slice x_4 x_4l x_4c)]),(.agg #[(.int .i64 a_0),(.int .i64 a_1),(.int .i64 a_2)])] w7 fun v8 w8 =>
 Ext w7 w8 /\
 ∃ t9:Option Addr,∃ tl10:Nat,∃ tc11:Nat,∃ t12:Int,v8 = (.tuple #[(.slice t9 tl10 tc11),(.int .i64 t12)]) /\
 ((t12 ≠ 0) ->
 ∀ w13,Ext w8 w13 ->
 Q (.tuple #[(.int .i64 0),(.int .i64 t12)]) w13) /\
 ((t12 = 0) ->
 (((tl10:Int) = 0) ->
 ∀ w13,Ext w8 w13 ->
 Q (.tuple #[(.int .i64 0),(.int .i64 5)]) w13) /\
 (((tl10:Int) ≠ 0) ->
 ∀ w13,ExtB [] [b2,b3] w8 w13 ->
 New w13 164 [.nilFunc] fun p14 w14 =>
 Store w14 p14 [(.func (.func 85) #[] #[(.pointer p1)])] [b2,b3] fun w15 =>
 ∀ w16,Ext w15 w16 ->
 FnP Tryz.prog F_slices_MinFunc_int_int #[(.slice t9 tl10 tc11),(.func (.func 88) #[] #[(.pointer p14)])] w16 fun v17 w17 =>
 Ext w16 w17 /\
 ∃ t18:Int,v17 = (.int .i64 t18) /\
 ∀ w19,Ext w15 w19 ->
 Q (.tuple #[(.int .i64 t18),(.int .i64 0)]) w19))
theorem ok_host_Best (l:Option Addr) (ll:Nat) (lc:Nat) (x_0:Int) (x_1:ByteArray) (x_2:ByteArray) (x_3:Int) (x_4:Option Addr) (x_4l:Nat) (x_4c:Nat) (a_0:Int) (a_1:Int) (a_2:Int) (w:World) (Q:Value->World->Prop) (h:wp_host_Best l ll lc x_0 x_1 x_2 x_3 x_4 x_4l x_4c a_0 a_1 a_2 w Q):FnP Tryz.prog F_host_Best #[(.slice l ll lc),(.agg #[(.int .i64 x_0),(.string x_1),(.string x_2),(.int .i64 x_3),(.slice x_4 x_4l x_4c)]),(.agg #[(.int .i64 a_0),(.int .i64 a_1),(.int .i64 a_2)])] w Q:=by
  have e_:wp_host_Best l ll lc x_0 x_1 x_2 x_3 x_4 x_4l x_4c a_0 a_1 a_2 w Q = Runs Tryz.prog Q ({ N:=30,wrap:=[],pub:=[3,10],muts:=[],joins:=[] }:Cfg) Tryz.f61 (Tryz.f61.body.getD .skip) [.sc (.slc l ll lc),.agg [.int .i64 x_0,.str x_1,.str x_2,.int .i64 x_3,.slc x_4 x_4l x_4c],.agg [.int .i64 a_0,.int .i64 a_1,.int .i64 a_2]] w:=by kernel_rfl
  rw [e_] at h
  exact runs_fn h Tryz.func61 (by kernel_rfl) (fun args w=>Tryz.call61 args w) (by kernel_rfl) (by kernel_rfl) rfl rfl
def wp_host_Best_1 (i:Int) (c0:Option Addr) (w:World) (Q:Value->World->Prop):Prop :=
 ∀ b0:Nat,w.heap.size <= b0->∃ (J1:Option Addr->Int->World->Prop),(∃ t5:Option Addr,∃ tl6:Nat,∃ tc7:Nat,cell w c0 0 = some (.slice t5 tl6 tc7) /\
 t5 ≠ none /\
 (0:Int) <= i /\
 (i:Int) < (tl6:Int) /\
 (pIdx t5 i 8) ≠ none /\
 (pAdd (pIdx t5 i 8) 2) ≠ none /\
 ∃ t8:Int,cell w (pAdd (pIdx t5 i 8) 2) 0 = some (.int .i64 t8) /\
 ∃ t9:Int,cell w (pAdd (pIdx t5 i 8) 2) 1 = some (.int .i64 t9) /\
 ∃ t10:Int,cell w (pAdd (pIdx t5 i 8) 2) 2 = some (.int .i64 t10) /\
 ∃ t11:Option Addr,∃ tl12:Nat,∃ tc13:Nat,cell w c0 0 = some (.slice t11 tl12 tc13) /\
 t11 ≠ none /\
 (0:Int) <= i /\
 (i:Int) < (tl12:Int) /\
 (pIdx t11 i 8) ≠ none /\
 (pAdd (pIdx t11 i 8) 5) ≠ none /\
 ∃ t14:Int,cell w (pAdd (pIdx t11 i 8) 5) 0 = some (.int .i64 t14) /\
 ∃ t15:Int,cell w (pAdd (pIdx t11 i 8) 5) 1 = some (.int .i64 t15) /\
 ∃ t16:Int,cell w (pAdd (pIdx t11 i 8) 5) 2 = some (.int .i64 t16) /\
 (∀ w17,Ext w w17 ->
 FnP Tryz.prog F_need_Sub #[(.agg #[(.int .i64 t8),(.int .i64 t9),(.int .i64 t10)]),(.agg #[(.int .i64 t14),(.int .i64 t15),(.int .i64 t16)])] w17 fun v18 w18 =>
 Ext w17 w18 /\
 ∃ t_019:Int,∃ t_120:Int,∃ t_221:Int,∃ t22:Int,v18 = (.tuple #[(.agg #[(.int .i64 t_019),(.int .i64 t_120),(.int .i64 t_221)]),(.int .i64 t22)]) /\
 ∀ w23,ExtB [] [b0] w w23 ->
 New w23 34 [(.int .i64 0),(.int .i64 0),(.int .i64 0)] fun p24 w24 =>
 Store w24 p24 [(.int .i64 t_019),(.int .i64 t_120),(.int .i64 t_221)] [b0] fun w25 =>
 J1 p24 t22 w25) /\
 ∀ w17,ExtB [] [b0] w w17 ->
 New w17 34 [(.int .i64 0),(.int .i64 0),(.int .i64 0)] fun p18 w18 =>
 ∀ w19,Ext w18 w19 ->
 FnP Tryz.prog F_need_Sub #[(.agg #[(.int .i64 t8),(.int .i64 t9),(.int .i64 t10)]),(.agg #[(.int .i64 t14),(.int .i64 t15),(.int .i64 t16)])] w19 fun v20 w20 =>
 Ext w19 w20 /\
 ∃ t_021:Int,∃ t_122:Int,∃ t_223:Int,∃ t24:Int,v20 = (.tuple #[(.agg #[(.int .i64 t_021),(.int .i64 t_122),(.int .i64 t_223)]),(.int .i64 t24)]) /\
 Store w18 p18 [(.int .i64 t_021),(.int .i64 t_122),(.int .i64 t_223)] [b0] fun w25 =>
 J1 p18 t24 w25) /\
 ∀ (n2:Option Addr) (_3:Int) (w4:World),J1 n2 _3 w4 ->
 n2 ≠ none /\
 ∃ t5:Int,cell w4 n2 0 = some (.int .i64 t5) /\
 ∃ t6:Int,cell w4 n2 1 = some (.int .i64 t6) /\
 ∃ t7:Int,cell w4 n2 2 = some (.int .i64 t7) /\
 ∀ w8,ExtB [b0] [] w4 w8 ->
 Q (.agg #[(.int .i64 t5),(.int .i64 t6),(.int .i64 t7)]) w8
theorem ok_host_Best_1 (i:Int) (c0:Option Addr) (w:World) (Q:Value->World->Prop) (h:wp_host_Best_1 i c0 w Q):FnP Tryz.prog F_host_Best_1 #[(.int .i64 i),(.pointer c0)] w Q:=by
  have e_:wp_host_Best_1 i c0 w Q = Runs Tryz.prog Q ({ N:=21,wrap:=[],pub:=[4],muts:=[],joins:=[] }:Cfg) Tryz.f85 (Tryz.f85.body.getD .skip) [.sc (.int .i64 i),.sc (.ptr c0)] w:=by kernel_rfl
  rw [e_] at h
  exact runs_fn h Tryz.func85 (by kernel_rfl) (fun args w=>Tryz.call85 args w) (by kernel_rfl) (by kernel_rfl) rfl rfl
def wp_host_Best_2 (i:Int) (k:Int) (c0:Option Addr) (w:World) (Q:Value->World->Prop):Prop :=
 ∃ (J0:Option Addr->Option Addr->World->Prop),(∃ t4:Value,cell w c0 0 = some t4 /\
 ∃ t5:Value,cell w c0 0 = some t5 /\
 (∀ w6,Ext w w6 ->
 FnVP Tryz.prog t4 [(.int .i64 i)] w6 fun v7 w7 =>
 Ext w6 w7 /\
 ∃ t_08:Int,∃ t_19:Int,∃ t_210:Int,v7 = (.agg #[(.int .i64 t_08),(.int .i64 t_19),(.int .i64 t_210)]) /\
 (∀ w11,Ext w w11 ->
 FnVP Tryz.prog t5 [(.int .i64 k)] w11 fun v12 w12 =>
 Ext w11 w12 /\
 ∃ t_013:Int,∃ t_114:Int,∃ t_215:Int,v12 = (.agg #[(.int .i64 t_013),(.int .i64 t_114),(.int .i64 t_215)]) /\
 (∀ w16,Ext w w16 ->
 New w16 34 [(.int .i64 0),(.int .i64 0),(.int .i64 0)] fun p17 w17 =>
 ∀ w18,Ext w17 w18 ->
 New w18 34 [(.int .i64 0),(.int .i64 0),(.int .i64 0)] fun p19 w19 =>
 Store w19 p17 [(.int .i64 t_08),(.int .i64 t_19),(.int .i64 t_210)] [] fun w20 =>
 Store w20 p19 [(.int .i64 t_013),(.int .i64 t_114),(.int .i64 t_215)] [] fun w21 =>
 J0 p17 p19 w21) /\
 ∀ w16,Ext w w16 ->
 New w16 34 [(.int .i64 0),(.int .i64 0),(.int .i64 0)] fun p17 w17 =>
 ∀ w18,Ext w17 w18 ->
 New w18 34 [(.int .i64 0),(.int .i64 0),(.int .i64 0)] fun p19 w19 =>
 Store w19 p19 [(.int .i64 t_08),(.int .i64 t_19),(.int .i64 t_210)] [] fun w20 =>
 Store w20 p17 [(.int .i64 t_013),(.int .i64 t_114),(.int .i64 t_215)] [] fun w21 =>
 J0 p19 p17 w21) /\
 (∀ w11,Ext w w11 ->
 New w11 34 [(.int .i64 0),(.int .i64 0),(.int .i64 0)] fun p12 w12 =>
 (∀ w13,Ext w12 w13 ->
 FnVP Tryz.prog t5 [(.int .i64 k)] w13 fun v14 w14 =>
 Ext w13 w14 /\
 ∃ t_015:Int,∃ t_116:Int,∃ t_217:Int,v14 = (.agg #[(.int .i64 t_015),(.int .i64 t_116),(.int .i64 t_217)]) /\
 ∀ w18,Ext w12 w18 ->
 New w18 34 [(.int .i64 0),(.int .i64 0),(.int .i64 0)] fun p19 w19 =>
 Store w19 p12 [(.int .i64 t_08),(.int .i64 t_19),(.int .i64 t_210)] [] fun w20 =>
 Store w20 p19 [(.int .i64 t_015),(.int .i64 t_116),(.int .i64 t_217)] [] fun w21 =>
 J0 p12 p19 w21) /\
 ∀ w13,Ext w12 w13 ->
 New w13 34 [(.int .i64 0),(.int .i64 0),(.int .i64 0)] fun p14 w14 =>
 ∀ w15,Ext w14 w15 ->
 FnVP Tryz.prog t5 [(.int .i64 k)] w15 fun v16 w16 =>
 Ext w15 w16 /\
 ∃ t_017:Int,∃ t_118:Int,∃ t_219:Int,v16 = (.agg #[(.int .i64 t_017),(.int .i64 t_118),(.int .i64 t_219)]) /\
 Store w14 p12 [(.int .i64 t_08),(.int .i64 t_19),(.int .i64 t_210)] [] fun w20 =>
 Store w20 p14 [(.int .i64 t_017),(.int .i64 t_118),(.int .i64 t_219)] [] fun w21 =>
 J0 p12 p14 w21) /\
 ∀ w11,Ext w w11 ->
 New w11 34 [(.int .i64 0),(.int .i64 0),(.int .i64 0)] fun p12 w12 =>
 (∀ w13,Ext w12 w13 ->
 FnVP Tryz.prog t5 [(.int .i64 k)] w13 fun v14 w14 =>
 Ext w13 w14 /\
 ∃ t_015:Int,∃ t_116:Int,∃ t_217:Int,v14 = (.agg #[(.int .i64 t_015),(.int .i64 t_116),(.int .i64 t_217)]) /\
 ∀ w18,Ext w12 w18 ->
 New w18 34 [(.int .i64 0),(.int .i64 0),(.int .i64 0)] fun p19 w19 =>
 Store w19 p19 [(.int .i64 t_08),(.int .i64 t_19),(.int .i64 t_210)] [] fun w20 =>
 Store w20 p12 [(.int .i64 t_015),(.int .i64 t_116),(.int .i64 t_217)] [] fun w21 =>
 J0 p19 p12 w21) /\
 ∀ w13,Ext w12 w13 ->
 New w13 34 [(.int .i64 0),(.int .i64 0),(.int .i64 0)] fun p14 w14 =>
 ∀ w15,Ext w14 w15 ->
 FnVP Tryz.prog t5 [(.int .i64 k)] w15 fun v16 w16 =>
 Ext w15 w16 /\
 ∃ t_017:Int,∃ t_118:Int,∃ t_219:Int,v16 = (.agg #[(.int .i64 t_017),(.int .i64 t_118),(.int .i64 t_219)]) /\
 Store w14 p14 [(.int .i64 t_08),(.int .i64 t_19),(.int .i64 t_210)] [] fun w20 =>
 Store w20 p12 [(.int .i64 t_017),(.int .i64 t_118),(.int .i64 t_219)] [] fun w21 =>
 J0 p14 p12 w21) /\
 (∀ w6,Ext w w6 ->
 New w6 34 [(.int .i64 0),(.int .i64 0),(.int .i64 0)] fun p7 w7 =>
 (∀ w8,Ext w7 w8 ->
 FnVP Tryz.prog t4 [(.int .i64 i)] w8 fun v9 w9 =>
 Ext w8 w9 /\
 ∃ t_010:Int,∃ t_111:Int,∃ t_212:Int,v9 = (.agg #[(.int .i64 t_010),(.int .i64 t_111),(.int .i64 t_212)]) /\
 (∀ w13,Ext w7 w13 ->
 FnVP Tryz.prog t5 [(.int .i64 k)] w13 fun v14 w14 =>
 Ext w13 w14 /\
 ∃ t_015:Int,∃ t_116:Int,∃ t_217:Int,v14 = (.agg #[(.int .i64 t_015),(.int .i64 t_116),(.int .i64 t_217)]) /\
 ∀ w18,Ext w7 w18 ->
 New w18 34 [(.int .i64 0),(.int .i64 0),(.int .i64 0)] fun p19 w19 =>
 Store w19 p7 [(.int .i64 t_010),(.int .i64 t_111),(.int .i64 t_212)] [] fun w20 =>
 Store w20 p19 [(.int .i64 t_015),(.int .i64 t_116),(.int .i64 t_217)] [] fun w21 =>
 J0 p7 p19 w21) /\
 ∀ w13,Ext w7 w13 ->
 New w13 34 [(.int .i64 0),(.int .i64 0),(.int .i64 0)] fun p14 w14 =>
 ∀ w15,Ext w14 w15 ->
 FnVP Tryz.prog t5 [(.int .i64 k)] w15 fun v16 w16 =>
 Ext w15 w16 /\
 ∃ t_017:Int,∃ t_118:Int,∃ t_219:Int,v16 = (.agg #[(.int .i64 t_017),(.int .i64 t_118),(.int .i64 t_219)]) /\
 Store w14 p7 [(.int .i64 t_010),(.int .i64 t_111),(.int .i64 t_212)] [] fun w20 =>
 Store w20 p14 [(.int .i64 t_017),(.int .i64 t_118),(.int .i64 t_219)] [] fun w21 =>
 J0 p7 p14 w21) /\
 ∀ w8,Ext w7 w8 ->
 New w8 34 [(.int .i64 0),(.int .i64 0),(.int .i64 0)] fun p9 w9 =>
 ∀ w10,Ext w9 w10 ->
 FnVP Tryz.prog t4 [(.int .i64 i)] w10 fun v11 w11 =>
 Ext w10 w11 /\
 ∃ t_012:Int,∃ t_113:Int,∃ t_214:Int,v11 = (.agg #[(.int .i64 t_012),(.int .i64 t_113),(.int .i64 t_214)]) /\
 ∀ w15,Ext w9 w15 ->
 FnVP Tryz.prog t5 [(.int .i64 k)] w15 fun v16 w16 =>
 Ext w15 w16 /\
 ∃ t_017:Int,∃ t_118:Int,∃ t_219:Int,v16 = (.agg #[(.int .i64 t_017),(.int .i64 t_118),(.int .i64 t_219)]) /\
 Store w9 p7 [(.int .i64 t_012),(.int .i64 t_113),(.int .i64 t_214)] [] fun w20 =>
 Store w20 p9 [(.int .i64 t_017),(.int .i64 t_118),(.int .i64 t_219)] [] fun w21 =>
 J0 p7 p9 w21) /\
 ∀ w6,Ext w w6 ->
 New w6 34 [(.int .i64 0),(.int .i64 0),(.int .i64 0)] fun p7 w7 =>
 (∀ w8,Ext w7 w8 ->
 FnVP Tryz.prog t4 [(.int .i64 i)] w8 fun v9 w9 =>
 Ext w8 w9 /\
 ∃ t_010:Int,∃ t_111:Int,∃ t_212:Int,v9 = (.agg #[(.int .i64 t_010),(.int .i64 t_111),(.int .i64 t_212)]) /\
 (∀ w13,Ext w7 w13 ->
 FnVP Tryz.prog t5 [(.int .i64 k)] w13 fun v14 w14 =>
 Ext w13 w14 /\
 ∃ t_015:Int,∃ t_116:Int,∃ t_217:Int,v14 = (.agg #[(.int .i64 t_015),(.int .i64 t_116),(.int .i64 t_217)]) /\
 ∀ w18,Ext w7 w18 ->
 New w18 34 [(.int .i64 0),(.int .i64 0),(.int .i64 0)] fun p19 w19 =>
 Store w19 p19 [(.int .i64 t_010),(.int .i64 t_111),(.int .i64 t_212)] [] fun w20 =>
 Store w20 p7 [(.int .i64 t_015),(.int .i64 t_116),(.int .i64 t_217)] [] fun w21 =>
 J0 p19 p7 w21) /\
 ∀ w13,Ext w7 w13 ->
 New w13 34 [(.int .i64 0),(.int .i64 0),(.int .i64 0)] fun p14 w14 =>
 ∀ w15,Ext w14 w15 ->
 FnVP Tryz.prog t5 [(.int .i64 k)] w15 fun v16 w16 =>
 Ext w15 w16 /\
 ∃ t_017:Int,∃ t_118:Int,∃ t_219:Int,v16 = (.agg #[(.int .i64 t_017),(.int .i64 t_118),(.int .i64 t_219)]) /\
 Store w14 p14 [(.int .i64 t_010),(.int .i64 t_111),(.int .i64 t_212)] [] fun w20 =>
 Store w20 p7 [(.int .i64 t_017),(.int .i64 t_118),(.int .i64 t_219)] [] fun w21 =>
 J0 p14 p7 w21) /\
 ∀ w8,Ext w7 w8 ->
 New w8 34 [(.int .i64 0),(.int .i64 0),(.int .i64 0)] fun p9 w9 =>
 ∀ w10,Ext w9 w10 ->
 FnVP Tryz.prog t4 [(.int .i64 i)] w10 fun v11 w11 =>
 Ext w10 w11 /\
 ∃ t_012:Int,∃ t_113:Int,∃ t_214:Int,v11 = (.agg #[(.int .i64 t_012),(.int .i64 t_113),(.int .i64 t_214)]) /\
 ∀ w15,Ext w9 w15 ->
 FnVP Tryz.prog t5 [(.int .i64 k)] w15 fun v16 w16 =>
 Ext w15 w16 /\
 ∃ t_017:Int,∃ t_118:Int,∃ t_219:Int,v16 = (.agg #[(.int .i64 t_017),(.int .i64 t_118),(.int .i64 t_219)]) /\
 Store w9 p9 [(.int .i64 t_012),(.int .i64 t_113),(.int .i64 t_214)] [] fun w20 =>
 Store w20 p7 [(.int .i64 t_017),(.int .i64 t_118),(.int .i64 t_219)] [] fun w21 =>
 J0 p9 p7 w21) /\
 ∀ (a1:Option Addr) (b2:Option Addr) (w3:World),J0 a1 b2 w3 ->
 a1 ≠ none /\
 ∃ t4:Int,cell w3 (pAdd a1 0) 0 = some (.int .i64 t4) /\
 b2 ≠ none /\
 ∃ t5:Int,cell w3 (pAdd b2 0) 0 = some (.int .i64 t5) /\
 a1 ≠ none /\
 ∃ t6:Int,cell w3 (pAdd a1 1) 0 = some (.int .i64 t6) /\
 b2 ≠ none /\
 ∃ t7:Int,cell w3 (pAdd b2 1) 0 = some (.int .i64 t7) /\
 a1 ≠ none /\
 ∃ t8:Int,cell w3 (pAdd a1 2) 0 = some (.int .i64 t8) /\
 b2 ≠ none /\
 ∃ t9:Int,cell w3 (pAdd b2 2) 0 = some (.int .i64 t9) /\
 ∀ w10,Ext w3 w10 ->
 FnP Tryz.prog F_cmp_Compare_int64 #[(.int .i64 t4),(.int .i64 t5)] w10 fun v11 w11 =>
 Ext w10 w11 /\
 ∃ t12:Int,v11 = (.int .i64 t12) /\
 ∀ w13,Ext w3 w13 ->
 FnP Tryz.prog F_cmp_Compare_int64 #[(.int .i64 t6),(.int .i64 t7)] w13 fun v14 w14 =>
 Ext w13 w14 /\
 ∃ t15:Int,v14 = (.int .i64 t15) /\
 ∀ w16,Ext w3 w16 ->
 FnP Tryz.prog F_cmp_Compare_int64 #[(.int .i64 t8),(.int .i64 t9)] w16 fun v17 w17 =>
 Ext w16 w17 /\
 ∃ t18:Int,v17 = (.int .i64 t18) /\
 ∀ w19,Ext w3 w19 ->
 Run Tryz.prog (.buildSlice 38 3 [(0,(.int .i64 t12)),(1,(.int .i64 t15)),(2,(.int .i64 t18))]) w19 fun v20 w20 =>
 Ext w19 w20 /\
 ∃ t21:Option Addr,∃ tl22:Nat,∃ tc23:Nat,v20 = (.slice t21 tl22 tc23) /\
 ∀ w24,Ext w20 w24 ->
 FnP Tryz.prog F_cmp_Or_int #[(.slice t21 tl22 tc23)] w24 fun v25 w25 =>
 Ext w24 w25 /\
 ∃ t26:Int,v25 = (.int .i64 t26) /\
 ∀ w27,Ext w20 w27 ->
 Q (.int .i64 t26) w27
theorem ok_host_Best_2 (i:Int) (k:Int) (c0:Option Addr) (w:World) (Q:Value->World->Prop) (h:wp_host_Best_2 i k c0 w Q):FnP Tryz.prog F_host_Best_2 #[(.int .i64 i),(.int .i64 k),(.pointer c0)] w Q:=by
  have e_:wp_host_Best_2 i k c0 w Q = Runs Tryz.prog Q ({ N:=31,wrap:=[],pub:=[6,7],muts:=[],joins:=[] }:Cfg) Tryz.f88 (Tryz.f88.body.getD .skip) [.sc (.int .i64 i),.sc (.int .i64 k),.sc (.ptr c0)] w:=by kernel_rfl
  rw [e_] at h
  exact runs_fn h Tryz.func88 (by kernel_rfl) (fun args w=>Tryz.call88 args w) (by kernel_rfl) (by kernel_rfl) rfl rfl
def wp_slices_MinFunc_int_int (x:Option Addr) (xl:Nat) (xc:Nat) (cmp:Value) (w:World) (Q:Value->World->Prop):Prop :=
 ((((xl:Int) < 1) ->
 ∀ w0,Ext w w0 ->
 Run Tryz.prog (.makeInterface 9 (.string (⟨#[115,108,105,99,101,115,46,77,105,110,70,117,110,99,58,32,101,109,112,116,121,32,108,105,115,116]⟩:ByteArray))) w0 fun v1 w1 =>
 Ext w0 w1 /\
 ∃ t2:Value,v1 = t2 /\
 sxFail)) /\
 ((1 <= (xl:Int)) ->
 x ≠ none /\
 (0:Int) <= 0 /\
 (0:Int) < (xl:Int) /\
 ∃ t0:Int,cell w (pIdx x 0 1) 0 = some (.int .i64 t0) /\
 ∃ (I1:Int->Int->World->Prop) (M1:Int->Int->World->Nat),I1 t0 1 w /\
 ∀ (m2:Int) (i3:Int) (w4:World),I1 m2 i3 w4 ->
 (((i3 < (xl:Int)) ->
 x ≠ none /\
 (0:Int) <= i3 /\
 (i3:Int) < (xl:Int) /\
 ∃ t5:Int,cell w4 (pIdx x i3 1) 0 = some (.int .i64 t5) /\
 ∀ w6,Ext w4 w6 ->
 FnVP Tryz.prog cmp [(.int .i64 t5),(.int .i64 m2)] w6 fun v7 w7 =>
 Ext w6 w7 /\
 ∃ t8:Int,v7 = (.int .i64 t8) /\
 (((t8 < 0) ->
 x ≠ none /\
 (0:Int) <= i3 /\
 (i3:Int) < (xl:Int) /\
 ∃ t9:Int,cell w4 (pIdx x i3 1) 0 = some (.int .i64 t9) /\
 InR .i64 (i3 + 1) /\
 (I1 t9 (i3 + 1) w4/\M1 t9 (i3 + 1) w4 < M1 m2 i3 w4))) /\
 ((0 <= t8) ->
 InR .i64 (i3 + 1) /\
 (I1 m2 (i3 + 1) w4/\M1 m2 (i3 + 1) w4 < M1 m2 i3 w4)))) /\
 (((xl:Int) <= i3) ->
 ∀ w5,Ext w4 w5 ->
 Q (.int .i64 m2) w5))
theorem ok_slices_MinFunc_int_int (x:Option Addr) (xl:Nat) (xc:Nat) (cmp:Value) (w:World) (Q:Value->World->Prop) (h:wp_slices_MinFunc_int_int x xl xc cmp w Q):FnP Tryz.prog F_slices_MinFunc_int_int #[(.slice x xl xc),cmp] w Q:=by
  have e_:wp_slices_MinFunc_int_int x xl xc cmp w Q = Runs Tryz.prog Q ({ N:=33,wrap:=[],pub:=[],muts:=[],joins:=[] }:Cfg) Tryz.f87 (Tryz.f87.body.getD .skip) [.sc (.slc x xl xc),.sc (.val cmp)] w:=by kernel_rfl
  rw [e_] at h
  exact runs_fn h Tryz.func87 (by kernel_rfl) (fun args w=>Tryz.call87 args w) (by kernel_rfl) (by kernel_rfl) rfl rfl
def wp_cmp_Or_int (vals:Option Addr) (valsl:Nat) (valsc:Nat) (w:World) (Q:Value->World->Prop):Prop :=
 ∃ (I0:Int->World->Prop) (M0:Int->World->Nat),I0 0 w /\
 ∀ (k1:Int) (w2:World),I0 k1 w2 ->
 (((k1 < (valsl:Int)) ->
 vals ≠ none /\
 (0:Int) <= k1 /\
 (k1:Int) < (valsl:Int) /\
 ∃ t3:Int,cell w2 (pIdx vals k1 1) 0 = some (.int .i64 t3) /\
 ((t3 ≠ 0) ->
 ∀ w4,Ext w2 w4 ->
 Q (.int .i64 t3) w4) /\
 ((t3 = 0) ->
 InR .i64 (k1 + 1) /\
 (I0 (k1 + 1) w2/\M0 (k1 + 1) w2 < M0 k1 w2)))) /\
 (((valsl:Int) <= k1) ->
 ∀ w3,Ext w2 w3 ->
 Q (.int .i64 0) w3)
theorem ok_cmp_Or_int (vals:Option Addr) (valsl:Nat) (valsc:Nat) (w:World) (Q:Value->World->Prop) (h:wp_cmp_Or_int vals valsl valsc w Q):FnP Tryz.prog F_cmp_Or_int #[(.slice vals valsl valsc)] w Q:=by
  have e_:wp_cmp_Or_int vals valsl valsc w Q = Runs Tryz.prog Q ({ N:=18,wrap:=[],pub:=[],muts:=[],joins:=[] }:Cfg) Tryz.f89 (Tryz.f89.body.getD .skip) [.sc (.slc vals valsl valsc)] w:=by kernel_rfl
  rw [e_] at h
  exact runs_fn h Tryz.func89 (by kernel_rfl) (fun args w=>Tryz.call89 args w) (by kernel_rfl) (by kernel_rfl) rfl rfl
def wp_cmp_Compare_int64 (x:Int) (y:Int) (w:World) (Q:Value->World->Prop):Prop :=
 ∀ w0,Ext w w0 ->
 FnP Tryz.prog F_cmp_isNaN_int64 #[(.int .i64 x)] w0 fun v1 w1 =>
 Ext w0 w1 /\
 ∃ t2:Bool,v1 = (.bool t2) /\
 ∀ w3,Ext w w3 ->
 FnP Tryz.prog F_cmp_isNaN_int64 #[(.int .i64 y)] w3 fun v4 w4 =>
 Ext w3 w4 /\
 ∃ t5:Bool,v4 = (.bool t5) /\
 (((t2 = true) ->
 ((t5 = true) ->
 ∀ w6,Ext w w6 ->
 Q (.int .i64 0) w6) /\
 ((t5 = false) ->
 ∀ w6,Ext w w6 ->
 Q (.int .i64 (-1)) w6))) /\
 ((t2 = false) ->
 ((t5 = true) ->
 ∀ w6,Ext w w6 ->
 Q (.int .i64 1) w6) /\
 ((t5 = false) ->
 ((x < y) ->
 ∀ w6,Ext w w6 ->
 Q (.int .i64 (-1)) w6) /\
 ((y <= x) ->
 ((y < x) ->
 ∀ w6,Ext w w6 ->
 Q (.int .i64 1) w6) /\
 ((x <= y) ->
 ∀ w6,Ext w w6 ->
 Q (.int .i64 0) w6))))
theorem ok_cmp_Compare_int64 (x:Int) (y:Int) (w:World) (Q:Value->World->Prop) (h:wp_cmp_Compare_int64 x y w Q):FnP Tryz.prog F_cmp_Compare_int64 #[(.int .i64 x),(.int .i64 y)] w Q:=by
  have e_:wp_cmp_Compare_int64 x y w Q = Runs Tryz.prog Q ({ N:=20,wrap:=[],pub:=[],muts:=[],joins:=[] }:Cfg) Tryz.f90 (Tryz.f90.body.getD .skip) [.sc (.int .i64 x),.sc (.int .i64 y)] w:=by kernel_rfl
  rw [e_] at h
  exact runs_fn h Tryz.func90 (by kernel_rfl) (fun args w=>Tryz.call90 args w) (by kernel_rfl) (by kernel_rfl) rfl rfl
def wp_cmp_isNaN_int64 (x:Int) (w:World) (Q:Value->World->Prop):Prop :=
 ∀ w0,Ext w w0 ->
 Q (.bool (decide (x ≠ x))) w0
theorem ok_cmp_isNaN_int64 (x:Int) (w:World) (Q:Value->World->Prop) (h:wp_cmp_isNaN_int64 x w Q):FnP Tryz.prog F_cmp_isNaN_int64 #[(.int .i64 x)] w Q:=by
  have e_:wp_cmp_isNaN_int64 x w Q = Runs Tryz.prog Q ({ N:=6,wrap:=[],pub:=[],muts:=[],joins:=[] }:Cfg) Tryz.f115 (Tryz.f115.body.getD .skip) [.sc (.int .i64 x)] w:=by kernel_rfl
  rw [e_] at h
  exact runs_fn h Tryz.func115 (by kernel_rfl) (fun args w=>Tryz.call115 args w) (by kernel_rfl) (by kernel_rfl) rfl rfl
def wp_slices_ContainsFunc_int_int (s:Option Addr) (sl:Nat) (sc:Nat) (f:Value) (w:World) (Q:Value->World->Prop):Prop :=
 ∀ w0,Ext w w0 ->
 FnP Tryz.prog F_slices_IndexFunc_int_int #[(.slice s sl sc),f] w0 fun v1 w1 =>
 Ext w0 w1 /\
 ∃ t2:Int,v1 = (.int .i64 t2) /\
 ∀ w3,Ext w w3 ->
 Q (.bool (decide (0 <= t2))) w3
theorem ok_slices_ContainsFunc_int_int (s:Option Addr) (sl:Nat) (sc:Nat) (f:Value) (w:World) (Q:Value->World->Prop) (h:wp_slices_ContainsFunc_int_int s sl sc f w Q):FnP Tryz.prog F_slices_ContainsFunc_int_int #[(.slice s sl sc),f] w Q:=by
  have e_:wp_slices_ContainsFunc_int_int s sl sc f w Q = Runs Tryz.prog Q ({ N:=9,wrap:=[],pub:=[],muts:=[],joins:=[] }:Cfg) Tryz.f80 (Tryz.f80.body.getD .skip) [.sc (.slc s sl sc),.sc (.val f)] w:=by kernel_rfl
  rw [e_] at h
  exact runs_fn h Tryz.func80 (by kernel_rfl) (fun args w=>Tryz.call80 args w) (by kernel_rfl) (by kernel_rfl) rfl rfl
def wp_slices_IndexFunc_int_int (s:Option Addr) (sl:Nat) (sc:Nat) (f:Value) (w:World) (Q:Value->World->Prop):Prop :=
 ∃ (I0:Int->World->Prop) (M0:Int->World->Nat),I0 0 w /\
 ∀ (k1:Int) (w2:World),I0 k1 w2 ->
 (((k1 < (sl:Int)) ->
 s ≠ none /\
 (0:Int) <= k1 /\
 (k1:Int) < (sl:Int) /\
 ∃ t3:Int,cell w2 (pIdx s k1 1) 0 = some (.int .i64 t3) /\
 ∀ w4,Ext w2 w4 ->
 FnVP Tryz.prog f [(.int .i64 t3)] w4 fun v5 w5 =>
 Ext w4 w5 /\
 ∃ t6:Bool,v5 = (.bool t6) /\
 ((t6 = true) ->
 ∀ w7,Ext w2 w7 ->
 Q (.int .i64 k1) w7) /\
 ((t6 = false) ->
 InR .i64 (k1 + 1) /\
 (I0 (k1 + 1) w2/\M0 (k1 + 1) w2 < M0 k1 w2)))) /\
 (((sl:Int) <= k1) ->
 ∀ w3,Ext w2 w3 ->
 Q (.int .i64 (-1)) w3)
theorem ok_slices_IndexFunc_int_int (s:Option Addr) (sl:Nat) (sc:Nat) (f:Value) (w:World) (Q:Value->World->Prop) (h:wp_slices_IndexFunc_int_int s sl sc f w Q):FnP Tryz.prog F_slices_IndexFunc_int_int #[(.slice s sl sc),f] w Q:=by
  have e_:wp_slices_IndexFunc_int_int s sl sc f w Q = Runs Tryz.prog Q ({ N:=19,wrap:=[],pub:=[],muts:=[],joins:=[] }:Cfg) Tryz.f111 (Tryz.f111.body.getD .skip) [.sc (.slc s sl sc),.sc (.val f)] w:=by kernel_rfl
  rw [e_] at h
  exact runs_fn h Tryz.func111 (by kernel_rfl) (fun args w=>Tryz.call111 args w) (by kernel_rfl) (by kernel_rfl) rfl rfl
def wp_slices_EqualFunc_api_Host_api_Host_api_Host_api_Host (s1:Option Addr) (s1l:Nat) (s1c:Nat) (s2:Option Addr) (s2l:Nat) (s2c:Nat) (eq:Value) (w:World) (Q:Value->World->Prop):Prop :=
 (((s1l:Int) ≠ (s2l:Int)) ->
 ∀ w0,Ext w w0 ->
 Q (.bool false) w0) /\
 (((s1l:Int) = (s2l:Int)) ->
 ∃ (I0:Int->World->Prop) (M0:Int->World->Nat),I0 0 w /\
 ∀ (k1:Int) (w2:World),I0 k1 w2 ->
 (((k1 < (s1l:Int)) ->
 s1 ≠ none /\
 (0:Int) <= k1 /\
 (k1:Int) < (s1l:Int) /\
 (pIdx s1 k1 8) ≠ none /\
 ∃ t3:ByteArray,cell w2 (pIdx s1 k1 8) 0 = some (.string t3) /\
 ∃ t4:Option Addr,∃ tl5:Nat,∃ tc6:Nat,cell w2 (pIdx s1 k1 8) 1 = some (.slice t4 tl5 tc6) /\
 ∃ t7:Int,cell w2 (pIdx s1 k1 8) 2 = some (.int .i64 t7) /\
 ∃ t8:Int,cell w2 (pIdx s1 k1 8) 3 = some (.int .i64 t8) /\
 ∃ t9:Int,cell w2 (pIdx s1 k1 8) 4 = some (.int .i64 t9) /\
 ∃ t10:Int,cell w2 (pIdx s1 k1 8) 5 = some (.int .i64 t10) /\
 ∃ t11:Int,cell w2 (pIdx s1 k1 8) 6 = some (.int .i64 t11) /\
 ∃ t12:Int,cell w2 (pIdx s1 k1 8) 7 = some (.int .i64 t12) /\
 ∀ b13:Nat,w2.heap.size <= b13->s2 ≠ none /\
 (0:Int) <= k1 /\
 (k1:Int) < (s2l:Int) /\
 (pIdx s2 k1 8) ≠ none /\
 ∃ t14:ByteArray,cell w2 (pIdx s2 k1 8) 0 = some (.string t14) /\
 ∃ t15:Option Addr,∃ tl16:Nat,∃ tc17:Nat,cell w2 (pIdx s2 k1 8) 1 = some (.slice t15 tl16 tc17) /\
 ∃ t18:Int,cell w2 (pIdx s2 k1 8) 2 = some (.int .i64 t18) /\
 ∃ t19:Int,cell w2 (pIdx s2 k1 8) 3 = some (.int .i64 t19) /\
 ∃ t20:Int,cell w2 (pIdx s2 k1 8) 4 = some (.int .i64 t20) /\
 ∃ t21:Int,cell w2 (pIdx s2 k1 8) 5 = some (.int .i64 t21) /\
 ∃ t22:Int,cell w2 (pIdx s2 k1 8) 6 = some (.int .i64 t22) /\
 ∃ t23:Int,cell w2 (pIdx s2 k1 8) 7 = some (.int .i64 t23) /\
 ∀ b24:Nat,w2.heap.size <= b24->∀ w25,Ext w2 w25 ->
 FnVP Tryz.prog eq [(.agg #[(.string t3),(.slice t4 tl5 tc6),(.int .i64 t7),(.int .i64 t8),(.int .i64 t9),(.int .i64 t10),(.int .i64 t11),(.int .i64 t12)]),(.agg #[(.string t14),(.slice t15 tl16 tc17),(.int .i64 t18),(.int .i64 t19),(.int .i64 t20),(.int .i64 t21),(.int .i64 t22),(.int .i64 t23)])] w25 fun v26 w26 =>
 Ext w25 w26 /\
 ∃ t27:Bool,v26 = (.bool t27) /\
 ((t27 = false) ->
 ∀ w28,Ext w2 w28 ->
 Q (.bool false) w28) /\
 ((t27 = true) ->
 InR .i64 (k1 + 1) /\
 (I0 (k1 + 1) w2/\M0 (k1 + 1) w2 < M0 k1 w2)))) /\
 (((s1l:Int) <= k1) ->
 ∀ w3,Ext w2 w3 ->
 Q (.bool true) w3))
theorem ok_slices_EqualFunc_api_Host_api_Host_api_Host_api_Host (s1:Option Addr) (s1l:Nat) (s1c:Nat) (s2:Option Addr) (s2l:Nat) (s2c:Nat) (eq:Value) (w:World) (Q:Value->World->Prop) (h:wp_slices_EqualFunc_api_Host_api_Host_api_Host_api_Host s1 s1l s1c s2 s2l s2c eq w Q):FnP Tryz.prog F_slices_EqualFunc_api_Host_api_Host_api_Host_api_Host #[(.slice s1 s1l s1c),(.slice s2 s2l s2c),eq] w Q:=by
  have e_:wp_slices_EqualFunc_api_Host_api_Host_api_Host_api_Host s1 s1l s1c s2 s2l s2c eq w Q = Runs Tryz.prog Q ({ N:=32,wrap:=[],pub:=[],muts:=[],joins:=[] }:Cfg) Tryz.f53 (Tryz.f53.body.getD .skip) [.sc (.slc s1 s1l s1c),.sc (.slc s2 s2l s2c),.sc (.val eq)] w:=by kernel_rfl
  rw [e_] at h
  exact runs_fn h Tryz.func53 (by kernel_rfl) (fun args w=>Tryz.call53 args w) (by kernel_rfl) (by kernel_rfl) rfl rfl
def wp_slices_Equal_api_Label_api_Label (s1:Option Addr) (s1l:Nat) (s1c:Nat) (s2:Option Addr) (s2l:Nat) (s2c:Nat) (w:World) (Q:Value->World->Prop):Prop :=
 (((s1l:Int) ≠ (s2l:Int)) ->
 ∀ w0,Ext w w0 ->
 Q (.bool false) w0) /\
 (((s1l:Int) = (s2l:Int)) ->
 ∃ (I0:Int->World->Prop) (M0:Int->World->Nat),I0 0 w /\
 ∀ (k1:Int) (w2:World),I0 k1 w2 ->
 (((k1 < (s1l:Int)) ->
 s1 ≠ none /\
 (0:Int) <= k1 /\
 (k1:Int) < (s1l:Int) /\
 (pIdx s1 k1 2) ≠ none /\
 ∃ t3:ByteArray,cell w2 (pIdx s1 k1 2) 0 = some (.string t3) /\
 ∃ t4:ByteArray,cell w2 (pIdx s1 k1 2) 1 = some (.string t4) /\
 s2 ≠ none /\
 (0:Int) <= k1 /\
 (k1:Int) < (s2l:Int) /\
 (pIdx s2 k1 2) ≠ none /\
 ∃ t5:ByteArray,cell w2 (pIdx s2 k1 2) 0 = some (.string t5) /\
 ∃ t6:ByteArray,cell w2 (pIdx s2 k1 2) 1 = some (.string t6) /\
 ∀ w7,Ext w2 w7 ->
 Run Tryz.prog (.eq .neq 110 false false (.agg #[(.string t3),(.string t4)]) (.agg #[(.string t5),(.string t6)])) w7 fun v8 w8 =>
 Ext w7 w8 /\
 ∃ t9:Bool,v8 = (.bool t9) /\
 ((t9 = true) ->
 ∀ w10,Ext w2 w10 ->
 Q (.bool false) w10) /\
 ((t9 = false) ->
 InR .i64 (k1 + 1) /\
 (I0 (k1 + 1) w2/\M0 (k1 + 1) w2 < M0 k1 w2)))) /\
 (((s1l:Int) <= k1) ->
 ∀ w3,Ext w2 w3 ->
 Q (.bool true) w3))
theorem ok_slices_Equal_api_Label_api_Label (s1:Option Addr) (s1l:Nat) (s1c:Nat) (s2:Option Addr) (s2l:Nat) (s2c:Nat) (w:World) (Q:Value->World->Prop) (h:wp_slices_Equal_api_Label_api_Label s1 s1l s1c s2 s2l s2c w Q):FnP Tryz.prog F_slices_Equal_api_Label_api_Label #[(.slice s1 s1l s1c),(.slice s2 s2l s2c)] w Q:=by
  have e_:wp_slices_Equal_api_Label_api_Label s1 s1l s1c s2 s2l s2c w Q = Runs Tryz.prog Q ({ N:=26,wrap:=[],pub:=[],muts:=[],joins:=[] }:Cfg) Tryz.f55 (Tryz.f55.body.getD .skip) [.sc (.slc s1 s1l s1c),.sc (.slc s2 s2l s2c)] w:=by kernel_rfl
  rw [e_] at h
  exact runs_fn h Tryz.func55 (by kernel_rfl) (fun args w=>Tryz.call55 args w) (by kernel_rfl) (by kernel_rfl) rfl rfl
def wp_slices_Clone_api_Host_api_Host (s:Option Addr) (sl:Nat) (sc:Nat) (w:World) (Q:Value->World->Prop):Prop :=
 ((s = none) ->
 ∀ w0,Ext w w0 ->
 Q (.slice none 0 0) w0) /\
 ((s ≠ none) ->
 ∀ w0,Ext w w0 ->
 Run Tryz.prog (.buildSlice 22 0 []) w0 fun v1 w1 =>
 Ext w0 w1 /\
 ∃ t2:Option Addr,∃ tl3:Nat,∃ tc4:Nat,v1 = (.slice t2 tl3 tc4) /\
 ∀ w5,Ext w1 w5 ->
 Run Tryz.prog (.append #[22,22] 22 [(.slice t2 tl3 tc4),(.slice s sl sc)]) w5 fun v6 w6 =>
 ∃ t7:Option Addr,∃ tl8:Nat,∃ tc9:Nat,v6 = (.slice t7 tl8 tc9) /\
 ∀ w10,Ext w6 w10 ->
 Q (.slice t7 tl8 tc9) w10)
theorem ok_slices_Clone_api_Host_api_Host (s:Option Addr) (sl:Nat) (sc:Nat) (w:World) (Q:Value->World->Prop) (h:wp_slices_Clone_api_Host_api_Host s sl sc w Q):FnP Tryz.prog F_slices_Clone_api_Host_api_Host #[(.slice s sl sc)] w Q:=by
  have e_:wp_slices_Clone_api_Host_api_Host s sl sc w Q = Runs Tryz.prog Q ({ N:=8,wrap:=[],pub:=[],muts:=[],joins:=[] }:Cfg) Tryz.f70 (Tryz.f70.body.getD .skip) [.sc (.slc s sl sc)] w:=by kernel_rfl
  rw [e_] at h
  exact runs_fn h Tryz.func70 (by kernel_rfl) (fun args w=>Tryz.call70 args w) (by kernel_rfl) (by kernel_rfl) rfl rfl
def wp_slices_Clone_api_Label_api_Label (s:Option Addr) (sl:Nat) (sc:Nat) (w:World) (Q:Value->World->Prop):Prop :=
 ((s = none) ->
 ∀ w0,Ext w w0 ->
 Q (.slice none 0 0) w0) /\
 ((s ≠ none) ->
 ∀ w0,Ext w w0 ->
 Run Tryz.prog (.buildSlice 83 0 []) w0 fun v1 w1 =>
 Ext w0 w1 /\
 ∃ t2:Option Addr,∃ tl3:Nat,∃ tc4:Nat,v1 = (.slice t2 tl3 tc4) /\
 ∀ w5,Ext w1 w5 ->
 Run Tryz.prog (.append #[83,83] 83 [(.slice t2 tl3 tc4),(.slice s sl sc)]) w5 fun v6 w6 =>
 ∃ t7:Option Addr,∃ tl8:Nat,∃ tc9:Nat,v6 = (.slice t7 tl8 tc9) /\
 ∀ w10,Ext w6 w10 ->
 Q (.slice t7 tl8 tc9) w10)
theorem ok_slices_Clone_api_Label_api_Label (s:Option Addr) (sl:Nat) (sc:Nat) (w:World) (Q:Value->World->Prop) (h:wp_slices_Clone_api_Label_api_Label s sl sc w Q):FnP Tryz.prog F_slices_Clone_api_Label_api_Label #[(.slice s sl sc)] w Q:=by
  have e_:wp_slices_Clone_api_Label_api_Label s sl sc w Q = Runs Tryz.prog Q ({ N:=8,wrap:=[],pub:=[],muts:=[],joins:=[] }:Cfg) Tryz.f71 (Tryz.f71.body.getD .skip) [.sc (.slc s sl sc)] w:=by kernel_rfl
  rw [e_] at h
  exact runs_fn h Tryz.func71 (by kernel_rfl) (fun args w=>Tryz.call71 args w) (by kernel_rfl) (by kernel_rfl) rfl rfl
def wp_shiftbellkeep_sameHosts (a:Option Addr) (al:Nat) (ac:Nat) (b:Option Addr) (bl:Nat) (bc:Nat) (w:World) (Q:Value->World->Prop):Prop :=
 ∀ w0,Ext w w0 ->
 FnP Tryz.prog F_slices_EqualFunc_api_Host_api_Host_api_Host_api_Host #[(.slice a al ac),(.slice b bl bc),(.func (.func 54) #[] #[])] w0 fun v1 w1 =>
 Ext w0 w1 /\
 ∃ t2:Bool,v1 = (.bool t2) /\
 ∀ w3,Ext w w3 ->
 Q (.bool t2) w3
theorem ok_shiftbellkeep_sameHosts (a:Option Addr) (al:Nat) (ac:Nat) (b:Option Addr) (bl:Nat) (bc:Nat) (w:World) (Q:Value->World->Prop) (h:wp_shiftbellkeep_sameHosts a al ac b bl bc w Q):FnP Tryz.prog F_shiftbellkeep_sameHosts #[(.slice a al ac),(.slice b bl bc)] w Q:=by
  have e_:wp_shiftbellkeep_sameHosts a al ac b bl bc w Q = Runs Tryz.prog Q ({ N:=8,wrap:=[],pub:=[],muts:=[],joins:=[] }:Cfg) Tryz.f30 (Tryz.f30.body.getD .skip) [.sc (.slc a al ac),.sc (.slc b bl bc)] w:=by kernel_rfl
  rw [e_] at h
  exact runs_fn h Tryz.func30 (by kernel_rfl) (fun args w=>Tryz.call30 args w) (by kernel_rfl) (by kernel_rfl) rfl rfl
def wp_shiftbellkeep_sameHosts_1 (x_0:ByteArray) (x_1:Option Addr) (x_1l:Nat) (x_1c:Nat) (x_2:Int) (x_3:Int) (x_4:Int) (x_5:Int) (x_6:Int) (x_7:Int) (y_0:ByteArray) (y_1:Option Addr) (y_1l:Nat) (y_1c:Nat) (y_2:Int) (y_3:Int) (y_4:Int) (y_5:Int) (y_6:Int) (y_7:Int) (w:World) (Q:Value->World->Prop):Prop :=
 ∀ b0:Nat,w.heap.size <= b0->∀ b1:Nat,w.heap.size <= b1->(((x_0 = y_0) ->
 ∀ w2,Ext w w2 ->
 Run Tryz.prog (.eq .eql 34 false false (.agg #[(.int .i64 x_2),(.int .i64 x_3),(.int .i64 x_4)]) (.agg #[(.int .i64 y_2),(.int .i64 y_3),(.int .i64 y_4)])) w2 fun v3 w3 =>
 Ext w2 w3 /\
 ∃ t4:Bool,v3 = (.bool t4) /\
 (((t4 = true) ->
 ∀ w5,Ext w w5 ->
 Run Tryz.prog (.eq .eql 34 false false (.agg #[(.int .i64 x_5),(.int .i64 x_6),(.int .i64 x_7)]) (.agg #[(.int .i64 y_5),(.int .i64 y_6),(.int .i64 y_7)])) w5 fun v6 w6 =>
 Ext w5 w6 /\
 ∃ t7:Bool,v6 = (.bool t7) /\
 (((t7 = true) ->
 ∀ w8,Ext w w8 ->
 FnP Tryz.prog F_slices_Equal_api_Label_api_Label #[(.slice x_1 x_1l x_1c),(.slice y_1 y_1l y_1c)] w8 fun v9 w9 =>
 Ext w8 w9 /\
 ∃ t10:Bool,v9 = (.bool t10) /\
 ∀ w11,Ext w w11 ->
 Q (.bool t10) w11)) /\
 ((t7 = false) ->
 ∀ w8,Ext w w8 ->
 Q (.bool false) w8))) /\
 ((t4 = false) ->
 ∀ w5,Ext w w5 ->
 Q (.bool false) w5))) /\
 ((x_0 ≠ y_0) ->
 ∀ w2,Ext w w2 ->
 Q (.bool false) w2)
theorem ok_shiftbellkeep_sameHosts_1 (x_0:ByteArray) (x_1:Option Addr) (x_1l:Nat) (x_1c:Nat) (x_2:Int) (x_3:Int) (x_4:Int) (x_5:Int) (x_6:Int) (x_7:Int) (y_0:ByteArray) (y_1:Option Addr) (y_1l:Nat) (y_1c:Nat) (y_2:Int) (y_3:Int) (y_4:Int) (y_5:Int) (y_6:Int) (y_7:Int) (w:World) (Q:Value->World->Prop) (h:wp_shiftbellkeep_sameHosts_1 x_0 x_1 x_1l x_1c x_2 x_3 x_4 x_5 x_6 x_7 y_0 y_1 y_1l y_1c y_2 y_3 y_4 y_5 y_6 y_7 w Q):FnP Tryz.prog F_shiftbellkeep_sameHosts_1 #[(.agg #[(.string x_0),(.slice x_1 x_1l x_1c),(.int .i64 x_2),(.int .i64 x_3),(.int .i64 x_4),(.int .i64 x_5),(.int .i64 x_6),(.int .i64 x_7)]),(.agg #[(.string y_0),(.slice y_1 y_1l y_1c),(.int .i64 y_2),(.int .i64 y_3),(.int .i64 y_4),(.int .i64 y_5),(.int .i64 y_6),(.int .i64 y_7)])] w Q:=by
  have e_:wp_shiftbellkeep_sameHosts_1 x_0 x_1 x_1l x_1c x_2 x_3 x_4 x_5 x_6 x_7 y_0 y_1 y_1l y_1c y_2 y_3 y_4 y_5 y_6 y_7 w Q = Runs Tryz.prog Q ({ N:=31,wrap:=[],pub:=[],muts:=[],joins:=[] }:Cfg) Tryz.f54 (Tryz.f54.body.getD .skip) [.agg [.str x_0,.slc x_1 x_1l x_1c,.int .i64 x_2,.int .i64 x_3,.int .i64 x_4,.int .i64 x_5,.int .i64 x_6,.int .i64 x_7],.agg [.str y_0,.slc y_1 y_1l y_1c,.int .i64 y_2,.int .i64 y_3,.int .i64 y_4,.int .i64 y_5,.int .i64 y_6,.int .i64 y_7]] w:=by kernel_rfl
  rw [e_] at h
  exact runs_fn h Tryz.func54 (by kernel_rfl) (fun args w=>Tryz.call54 args w) (by kernel_rfl) (by kernel_rfl) rfl rfl
end Go.Proofs.YtegephkpdlopaaaGreatDoor
set_option linter.unusedVariables false
set_option linter.unusedSimpArgs false
set_option maxRecDepth 100000
namespace Go.Proofs.YtegephkpdlopaaaGreatDoor
open Go.Sx Go.RowKit
abbrev F_queue_New:FuncId:=57
abbrev F_queue_Queue_Put:FuncId:=59
abbrev F_queue_Queue_Take:FuncId:=60
abbrev F_container_heap_Push:FuncId:=82
abbrev F_container_heap_Pop:FuncId:=83
abbrev F_container_heap_up:FuncId:=112
abbrev F_container_heap_down:FuncId:=113
abbrev F_queue_row_Len:FuncId:=207
abbrev F_queue_row_Less:FuncId:=208
abbrev F_queue_row_Swap:FuncId:=209
abbrev F_queue_thing_ahead:FuncId:=210
abbrev F_queue_row_Pop:FuncId:=211
abbrev F_queue_row_Push:FuncId:=212
def wp_queue_row_Len (r:Option Addr) (rl:Nat) (rc:Nat) (w:World) (Q:Value->World->Prop):Prop :=
 ∀ w0,Ext w w0 ->
 Q (.int .i64 (rl:Int)) w0
theorem ok_queue_row_Len (r:Option Addr) (rl:Nat) (rc:Nat) (w:World) (Q:Value->World->Prop) (h:wp_queue_row_Len r rl rc w Q):FnP Tryz.prog F_queue_row_Len #[(.slice r rl rc)] w Q:=by
  have e_:wp_queue_row_Len r rl rc w Q = Runs Tryz.prog Q ({ N:=5,wrap:=[],pub:=[],muts:=[],joins:=[] }:Cfg) Tryz.f207 (Tryz.f207.body.getD .skip) [.sc (.slc r rl rc)] w:=by kernel_rfl
  rw [e_] at h
  exact runs_fn h Tryz.func207 (by kernel_rfl) (fun args w=>Tryz.call207 args w) (by kernel_rfl) (by kernel_rfl) rfl rfl
def wp_queue_row_Less (r:Option Addr) (rl:Nat) (rc:Nat) (i:Int) (k:Int) (w:World) (Q:Value->World->Prop):Prop :=
 r ≠ none /\
 (0:Int) <= i /\
 (i:Int) < (rl:Int) /\
 ∃ t0:Option Addr,cell w (pIdx r i 1) 0 = some (.pointer t0) /\
 r ≠ none /\
 (0:Int) <= k /\
 (k:Int) < (rl:Int) /\
 ∃ t1:Option Addr,cell w (pIdx r k 1) 0 = some (.pointer t1) /\
 ∀ w2,Ext w w2 ->
 FnP Tryz.prog F_queue_thing_ahead #[(.pointer t0),(.pointer t1)] w2 fun v3 w3 =>
 Ext w2 w3 /\
 ∃ t4:Bool,v3 = (.bool t4) /\
 ∀ w5,Ext w w5 ->
 Q (.bool t4) w5
theorem ok_queue_row_Less (r:Option Addr) (rl:Nat) (rc:Nat) (i:Int) (k:Int) (w:World) (Q:Value->World->Prop) (h:wp_queue_row_Less r rl rc i k w Q):FnP Tryz.prog F_queue_row_Less #[(.slice r rl rc),(.int .i64 i),(.int .i64 k)] w Q:=by
  have e_:wp_queue_row_Less r rl rc i k w Q = Runs Tryz.prog Q ({ N:=16,wrap:=[],pub:=[],muts:=[],joins:=[] }:Cfg) Tryz.f208 (Tryz.f208.body.getD .skip) [.sc (.slc r rl rc),.sc (.int .i64 i),.sc (.int .i64 k)] w:=by kernel_rfl
  rw [e_] at h
  exact runs_fn h Tryz.func208 (by kernel_rfl) (fun args w=>Tryz.call208 args w) (by kernel_rfl) (by kernel_rfl) rfl rfl
def wp_queue_row_Swap (r:Option Addr) (rl:Nat) (rc:Nat) (i:Int) (k:Int) (w:World) (Q:Value->World->Prop):Prop :=
 r ≠ none /\
 (0:Int) <= k /\
 (k:Int) < (rl:Int) /\
 ∃ t0:Option Addr,cell w (pIdx r k 1) 0 = some (.pointer t0) /\
 r ≠ none /\
 (0:Int) <= i /\
 (i:Int) < (rl:Int) /\
 ∃ t1:Option Addr,cell w (pIdx r i 1) 0 = some (.pointer t1) /\
 r ≠ none /\
 (0:Int) <= i /\
 (i:Int) < (rl:Int) /\
 Store w (pIdx r i 1) [(.pointer t0)] [] fun w2 =>
 r ≠ none /\
 (0:Int) <= k /\
 (k:Int) < (rl:Int) /\
 Store w2 (pIdx r k 1) [(.pointer t1)] [] fun w3 =>
 r ≠ none /\
 (0:Int) <= i /\
 (i:Int) < (rl:Int) /\
 ∃ t4:Option Addr,cell w3 (pIdx r i 1) 0 = some (.pointer t4) /\
 r ≠ none /\
 (0:Int) <= k /\
 (k:Int) < (rl:Int) /\
 ∃ t5:Option Addr,cell w3 (pIdx r k 1) 0 = some (.pointer t5) /\
 t4 ≠ none /\
 t4 ≠ none /\
 Store w3 (pAdd t4 3) [(.int .i64 i)] [] fun w6 =>
 t5 ≠ none /\
 t5 ≠ none /\
 Store w6 (pAdd t5 3) [(.int .i64 k)] [] fun w7 =>
 ∀ w8,Ext w7 w8 ->
 Q (.tuple #[]) w8
theorem ok_queue_row_Swap (r:Option Addr) (rl:Nat) (rc:Nat) (i:Int) (k:Int) (w:World) (Q:Value->World->Prop) (h:wp_queue_row_Swap r rl rc i k w Q):FnP Tryz.prog F_queue_row_Swap #[(.slice r rl rc),(.int .i64 i),(.int .i64 k)] w Q:=by
  have e_:wp_queue_row_Swap r rl rc i k w Q = Runs Tryz.prog Q ({ N:=34,wrap:=[],pub:=[],muts:=[],joins:=[] }:Cfg) Tryz.f209 (Tryz.f209.body.getD .skip) [.sc (.slc r rl rc),.sc (.int .i64 i),.sc (.int .i64 k)] w:=by kernel_rfl
  rw [e_] at h
  exact runs_fn h Tryz.func209 (by kernel_rfl) (fun args w=>Tryz.call209 args w) (by kernel_rfl) (by kernel_rfl) rfl rfl
def wp_queue_thing_ahead (t:Option Addr) (u:Option Addr) (w:World) (Q:Value->World->Prop):Prop :=
 t ≠ none /\
 t ≠ none /\
 (pAdd t 0) ≠ none /\
 ∃ t0:Int,cell w (pAdd (pAdd t 0) 0) 0 = some (.int .i64 t0) /\
 u ≠ none /\
 u ≠ none /\
 (pAdd u 0) ≠ none /\
 ∃ t1:Int,cell w (pAdd (pAdd u 0) 0) 0 = some (.int .i64 t1) /\
 ((t0 <= t1) ->
 t ≠ none) /\
 ((t0 <= t1) ->
 t ≠ none) /\
 ((t0 <= t1) ->
 (pAdd t 0) ≠ none) /\
 ((t1 < t0) ->
 ∀ w2,Ext w w2 ->
 Q (.bool true) w2) /\
 ((t0 <= t1) ->
 ∃ t2:Int,cell w (pAdd (pAdd t 0) 0) 0 = some (.int .i64 t2) /\
 u ≠ none /\
 u ≠ none /\
 (pAdd u 0) ≠ none /\
 ∃ t3:Int,cell w (pAdd (pAdd u 0) 0) 0 = some (.int .i64 t3) /\
 ((t2 = t3) ->
 t ≠ none) /\
 ((t2 = t3) ->
 t ≠ none) /\
 (((t2 = t3) ->
 ∃ t4:Int,cell w (pAdd t 2) 0 = some (.int .i64 t4) /\
 u ≠ none /\
 u ≠ none /\
 ∃ t5:Int,cell w (pAdd u 2) 0 = some (.int .i64 t5) /\
 ∀ w6,Ext w w6 ->
 Q (.bool (decide (t4 < t5))) w6)) /\
 ((t2 ≠ t3) ->
 ∀ w4,Ext w w4 ->
 Q (.bool false) w4))
theorem ok_queue_thing_ahead (t:Option Addr) (u:Option Addr) (w:World) (Q:Value->World->Prop) (h:wp_queue_thing_ahead t u w Q):FnP Tryz.prog F_queue_thing_ahead #[(.pointer t),(.pointer u)] w Q:=by
  have e_:wp_queue_thing_ahead t u w Q = Runs Tryz.prog Q ({ N:=40,wrap:=[],pub:=[],muts:=[],joins:=[] }:Cfg) Tryz.f210 (Tryz.f210.body.getD .skip) [.sc (.ptr t),.sc (.ptr u)] w:=by kernel_rfl
  rw [e_] at h
  exact runs_fn h Tryz.func210 (by kernel_rfl) (fun args w=>Tryz.call210 args w) (by kernel_rfl) (by kernel_rfl) rfl rfl
def wp_queue_row_Pop (r:Option Addr) (w:World) (Q:Value->World->Prop):Prop :=
 r ≠ none /\
 ∃ t0:Option Addr,∃ tl1:Nat,∃ tc2:Nat,cell w r 0 = some (.slice t0 tl1 tc2) /\
 InR .i64 ((tl1:Int) - 1) /\
 r ≠ none /\
 ∃ t3:Option Addr,∃ tl4:Nat,∃ tc5:Nat,cell w r 0 = some (.slice t3 tl4 tc5) /\
 t3 ≠ none /\
 (0:Int) <= ((tl1:Int) - 1) /\
 (((tl1:Int) - 1):Int) < (tl4:Int) /\
 ∃ t6:Option Addr,cell w (pIdx t3 ((tl1:Int) - 1) 1) 0 = some (.pointer t6) /\
 r ≠ none /\
 ∃ t7:Option Addr,∃ tl8:Nat,∃ tc9:Nat,cell w r 0 = some (.slice t7 tl8 tc9) /\
 (0:Int) <= 0 /\
 (0:Int) <= ((tl1:Int) - 1) /\
 (((tl1:Int) - 1):Int) <= (tc9:Int) /\
 r ≠ none /\
 Store w r [(.slice (pCut t7 tc9 0 1) (((tl1:Int) - 1) - 0).toNat (tc9 - (0:Int).toNat))] [] fun w10 =>
 ∀ w11,Ext w10 w11 ->
 Run Tryz.prog (.makeInterface 154 (.pointer t6)) w11 fun v12 w12 =>
 Ext w11 w12 /\
 ∃ t13:Value,v12 = t13 /\
 ∀ w14,Ext w12 w14 ->
 Q t13 w14
theorem ok_queue_row_Pop (r:Option Addr) (w:World) (Q:Value->World->Prop) (h:wp_queue_row_Pop r w Q):FnP Tryz.prog F_queue_row_Pop #[(.pointer r)] w Q:=by
  have e_:wp_queue_row_Pop r w Q = Runs Tryz.prog Q ({ N:=25,wrap:=[],pub:=[],muts:=[],joins:=[] }:Cfg) Tryz.f211 (Tryz.f211.body.getD .skip) [.sc (.ptr r)] w:=by kernel_rfl
  rw [e_] at h
  exact runs_fn h Tryz.func211 (by kernel_rfl) (fun args w=>Tryz.call211 args w) (by kernel_rfl) (by kernel_rfl) rfl rfl
def wp_queue_row_Push (r:Option Addr) (x:Value) (w:World) (Q:Value->World->Prop):Prop :=
 ∀ w0,Ext w w0 ->
 Run Tryz.prog (.typeAssert x 20 154 false) w0 fun v1 w1 =>
 Ext w0 w1 /\
 ∃ t2:Option Addr,v1 = (.pointer t2) /\
 r ≠ none /\
 ∃ t3:Option Addr,∃ tl4:Nat,∃ tc5:Nat,cell w1 r 0 = some (.slice t3 tl4 tc5) /\
 t2 ≠ none /\
 t2 ≠ none /\
 Store w1 (pAdd t2 3) [(.int .i64 (tl4:Int))] [] fun w6 =>
 r ≠ none /\
 ∃ t7:Option Addr,∃ tl8:Nat,∃ tc9:Nat,cell w6 r 0 = some (.slice t7 tl8 tc9) /\
 ∀ w10,Ext w6 w10 ->
 Run Tryz.prog (.buildSlice 149 1 [(0,(.pointer t2))]) w10 fun v11 w11 =>
 Ext w10 w11 /\
 ∃ t12:Option Addr,∃ tl13:Nat,∃ tc14:Nat,v11 = (.slice t12 tl13 tc14) /\
 ∀ w15,Ext w11 w15 ->
 Run Tryz.prog (.append #[149,149] 149 [(.slice t7 tl8 tc9),(.slice t12 tl13 tc14)]) w15 fun v16 w16 =>
 ∃ t17:Option Addr,∃ tl18:Nat,∃ tc19:Nat,v16 = (.slice t17 tl18 tc19) /\
 r ≠ none /\
 Store w16 r [(.slice t17 tl18 tc19)] [] fun w20 =>
 ∀ w21,Ext w20 w21 ->
 Q (.tuple #[]) w21
theorem ok_queue_row_Push (r:Option Addr) (x:Value) (w:World) (Q:Value->World->Prop) (h:wp_queue_row_Push r x w Q):FnP Tryz.prog F_queue_row_Push #[(.pointer r),x] w Q:=by
  have e_:wp_queue_row_Push r x w Q = Runs Tryz.prog Q ({ N:=22,wrap:=[],pub:=[],muts:=[],joins:=[] }:Cfg) Tryz.f212 (Tryz.f212.body.getD .skip) [.sc (.ptr r),.sc (.val x)] w:=by kernel_rfl
  rw [e_] at h
  exact runs_fn h Tryz.func212 (by kernel_rfl) (fun args w=>Tryz.call212 args w) (by kernel_rfl) (by kernel_rfl) rfl rfl
def wp_container_heap_up (h_v:Value) (j:Int) (w:World) (Q:Value->World->Prop):Prop :=
 ∃ (I0:Int->World->Prop) (M0:Int->World->Nat),I0 j w /\
 ∀ (j1:Int) (w2:World),I0 j1 w2 ->
 InR .i64 (j1 - 1) /\
 InR .i64 ((j1 - 1).tdiv 2) /\
 ((((j1 - 1).tdiv 2) = j1) ->
 ∀ w3,Ext w2 w3 ->
 Q (.tuple #[]) w3) /\
 ((((j1 - 1).tdiv 2) ≠ j1) ->
 ∀ w3,Ext w2 w3 ->
 InvP Tryz.prog "Less" h_v [(.int .i64 j1), (.int .i64 ((j1 - 1).tdiv 2))] w3 fun v4 w4 =>
 ∃ t5:Bool,v4 = (.bool t5) /\
 ((t5 = false) ->
 ∀ w6,Ext w4 w6 ->
 Q (.tuple #[]) w6) /\
 ((t5 = true) ->
 ∀ w6,Ext w4 w6 ->
 InvP Tryz.prog "Swap" h_v [(.int .i64 ((j1 - 1).tdiv 2)), (.int .i64 j1)] w6 fun v7 w7 =>
 v7 = (.tuple #[]) /\
 (I0 ((j1 - 1).tdiv 2) w7/\M0 ((j1 - 1).tdiv 2) w7 < M0 j1 w2)))
theorem ok_container_heap_up (h_v:Value) (j:Int) (w:World) (Q:Value->World->Prop) (h:wp_container_heap_up h_v j w Q):FnP Tryz.prog F_container_heap_up #[h_v,(.int .i64 j)] w Q:=by
  have e_:wp_container_heap_up h_v j w Q = Runs Tryz.prog Q ({ N:=23,wrap:=[],pub:=[],muts:=[],joins:=[] }:Cfg) Tryz.f112 (Tryz.f112.body.getD .skip) [.sc (.val h_v),.sc (.int .i64 j)] w:=by kernel_rfl
  rw [e_] at h
  exact runs_fn h Tryz.func112 (by kernel_rfl) (fun args w=>Tryz.call112 args w) (by kernel_rfl) (by kernel_rfl) rfl rfl
def wp_container_heap_down (h_v:Value) (i0:Int) (n:Int) (w:World) (Q:Value->World->Prop):Prop :=
 ∃ (I0:Int->World->Prop) (M0:Int->World->Nat),I0 i0 w /\
 ∀ (i1:Int) (w2:World),I0 i1 w2 ->
 InR .i64 (2 * i1) /\
 InR .i64 ((2 * i1) + 1) /\
 (((n <= ((2 * i1) + 1))\/(((2 * i1) + 1) < 0)) ->
 ∀ w3,Ext w2 w3 ->
 Q (.bool (decide (i0 < i1))) w3) /\
 (((((2 * i1) + 1) < n)/\(0 <= ((2 * i1) + 1))) ->
 InR .i64 (((2 * i1) + 1) + 1) /\
 ((((((2 * i1) + 1) + 1) < n) ->
 ∀ w3,Ext w2 w3 ->
 InvP Tryz.prog "Less" h_v [(.int .i64 (((2 * i1) + 1) + 1)), (.int .i64 ((2 * i1) + 1))] w3 fun v4 w4 =>
 ∃ t5:Bool,v4 = (.bool t5) /\
 (((t5 = true) ->
 ∀ w6,Ext w4 w6 ->
 InvP Tryz.prog "Less" h_v [(.int .i64 (((2 * i1) + 1) + 1)), (.int .i64 i1)] w6 fun v7 w7 =>
 ∃ t8:Bool,v7 = (.bool t8) /\
 ((t8 = false) ->
 ∀ w9,Ext w7 w9 ->
 Q (.bool (decide (i0 < i1))) w9) /\
 ((t8 = true) ->
 ∀ w9,Ext w7 w9 ->
 InvP Tryz.prog "Swap" h_v [(.int .i64 i1), (.int .i64 (((2 * i1) + 1) + 1))] w9 fun v10 w10 =>
 v10 = (.tuple #[]) /\
 (I0 (((2 * i1) + 1) + 1) w10/\M0 (((2 * i1) + 1) + 1) w10 < M0 i1 w2)))) /\
 ((t5 = false) ->
 ∀ w6,Ext w4 w6 ->
 InvP Tryz.prog "Less" h_v [(.int .i64 ((2 * i1) + 1)), (.int .i64 i1)] w6 fun v7 w7 =>
 ∃ t8:Bool,v7 = (.bool t8) /\
 ((t8 = false) ->
 ∀ w9,Ext w7 w9 ->
 Q (.bool (decide (i0 < i1))) w9) /\
 ((t8 = true) ->
 ∀ w9,Ext w7 w9 ->
 InvP Tryz.prog "Swap" h_v [(.int .i64 i1), (.int .i64 ((2 * i1) + 1))] w9 fun v10 w10 =>
 v10 = (.tuple #[]) /\
 (I0 ((2 * i1) + 1) w10/\M0 ((2 * i1) + 1) w10 < M0 i1 w2))))) /\
 ((n <= (((2 * i1) + 1) + 1)) ->
 ∀ w3,Ext w2 w3 ->
 InvP Tryz.prog "Less" h_v [(.int .i64 ((2 * i1) + 1)), (.int .i64 i1)] w3 fun v4 w4 =>
 ∃ t5:Bool,v4 = (.bool t5) /\
 ((t5 = false) ->
 ∀ w6,Ext w4 w6 ->
 Q (.bool (decide (i0 < i1))) w6) /\
 ((t5 = true) ->
 ∀ w6,Ext w4 w6 ->
 InvP Tryz.prog "Swap" h_v [(.int .i64 i1), (.int .i64 ((2 * i1) + 1))] w6 fun v7 w7 =>
 v7 = (.tuple #[]) /\
 (I0 ((2 * i1) + 1) w7/\M0 ((2 * i1) + 1) w7 < M0 i1 w2))))
theorem ok_container_heap_down (h_v:Value) (i0:Int) (n:Int) (w:World) (Q:Value->World->Prop) (h:wp_container_heap_down h_v i0 n w Q):FnP Tryz.prog F_container_heap_down #[h_v,(.int .i64 i0),(.int .i64 n)] w Q:=by
  have e_:wp_container_heap_down h_v i0 n w Q = Runs Tryz.prog Q ({ N:=48,wrap:=[],pub:=[],muts:=[],joins:=[] }:Cfg) Tryz.f113 (Tryz.f113.body.getD .skip) [.sc (.val h_v),.sc (.int .i64 i0),.sc (.int .i64 n)] w:=by kernel_rfl
  rw [e_] at h
  exact runs_fn h Tryz.func113 (by kernel_rfl) (fun args w=>Tryz.call113 args w) (by kernel_rfl) (by kernel_rfl) rfl rfl
def wp_container_heap_Push (h_v:Value) (x:Value) (w:World) (Q:Value->World->Prop):Prop :=
 ∀ w0,Ext w w0 ->
 InvP Tryz.prog "Push" h_v [x] w0 fun v1 w1 =>
 v1 = (.tuple #[]) /\
 ∀ w2,Ext w1 w2 ->
 InvP Tryz.prog "Len" h_v [] w2 fun v3 w3 =>
 ∃ t4:Int,v3 = (.int .i64 t4) /\
 InR .i64 (t4 - 1) /\
 ∀ w5,Ext w3 w5 ->
 FnP Tryz.prog F_container_heap_up #[h_v,(.int .i64 (t4 - 1))] w5 fun v6 w6 =>
 v6 = (.tuple #[]) /\
 ∀ w7,Ext w6 w7 ->
 Q (.tuple #[]) w7
theorem ok_container_heap_Push (h_v:Value) (x:Value) (w:World) (Q:Value->World->Prop) (h:wp_container_heap_Push h_v x w Q):FnP Tryz.prog F_container_heap_Push #[h_v,x] w Q:=by
  have e_:wp_container_heap_Push h_v x w Q = Runs Tryz.prog Q ({ N:=12,wrap:=[],pub:=[],muts:=[112],joins:=[] }:Cfg) Tryz.f82 (Tryz.f82.body.getD .skip) [.sc (.val h_v),.sc (.val x)] w:=by kernel_rfl
  rw [e_] at h
  exact runs_fn h Tryz.func82 (by kernel_rfl) (fun args w=>Tryz.call82 args w) (by kernel_rfl) (by kernel_rfl) rfl rfl
def wp_container_heap_Pop (h_v:Value) (w:World) (Q:Value->World->Prop):Prop :=
 ∀ w0,Ext w w0 ->
 InvP Tryz.prog "Len" h_v [] w0 fun v1 w1 =>
 ∃ t2:Int,v1 = (.int .i64 t2) /\
 InR .i64 (t2 - 1) /\
 ∀ w3,Ext w1 w3 ->
 InvP Tryz.prog "Swap" h_v [(.int .i64 0), (.int .i64 (t2 - 1))] w3 fun v4 w4 =>
 v4 = (.tuple #[]) /\
 ∀ w5,Ext w4 w5 ->
 FnP Tryz.prog F_container_heap_down #[h_v,(.int .i64 0),(.int .i64 (t2 - 1))] w5 fun v6 w6 =>
 ∃ t7:Bool,v6 = (.bool t7) /\
 ∀ w8,Ext w6 w8 ->
 InvP Tryz.prog "Pop" h_v [] w8 fun v9 w9 =>
 ∃ t10:Value,v9 = t10 /\
 ∀ w11,Ext w9 w11 ->
 Q t10 w11
theorem ok_container_heap_Pop (h_v:Value) (w:World) (Q:Value->World->Prop) (h:wp_container_heap_Pop h_v w Q):FnP Tryz.prog F_container_heap_Pop #[h_v] w Q:=by
  have e_:wp_container_heap_Pop h_v w Q = Runs Tryz.prog Q ({ N:=15,wrap:=[],pub:=[],muts:=[113],joins:=[] }:Cfg) Tryz.f83 (Tryz.f83.body.getD .skip) [.sc (.val h_v)] w:=by kernel_rfl
  rw [e_] at h
  exact runs_fn h Tryz.func83 (by kernel_rfl) (fun args w=>Tryz.call83 args w) (by kernel_rfl) (by kernel_rfl) rfl rfl
def wp_queue_New  (w:World) (Q:Value->World->Prop):Prop :=
 ∀ w0,Ext w w0 ->
 Run Tryz.prog (.makeMap 147) w0 fun v1 w1 =>
 Ext w0 w1 /\
 ∃ t2:Value,v1 = t2 /\
 Value.oneCell' t2 = true /\
 ∀ w3,Ext w1 w3 ->
 New w3 151 [(.slice none 0 0),t2,(.int .i64 0)] fun p4 w4 =>
 ∀ w5,Ext w4 w5 ->
 Q (.pointer p4) w5
theorem ok_queue_New  (w:World) (Q:Value->World->Prop) (h:wp_queue_New  w Q):FnP Tryz.prog F_queue_New #[] w Q:=by
  have e_:wp_queue_New  w Q = Runs Tryz.prog Q ({ N:=4,wrap:=[],pub:=[3],muts:=[],joins:=[] }:Cfg) Tryz.f57 (Tryz.f57.body.getD .skip) [] w:=by kernel_rfl
  rw [e_] at h
  exact runs_fn h Tryz.func57 (by kernel_rfl) (fun args w=>Tryz.call57 args w) (by kernel_rfl) (by kernel_rfl) rfl rfl
def wp_queue_Queue_Put (q:Option Addr) (prio:Int) (id:Int) (w:World) (Q:Value->World->Prop):Prop :=
 q ≠ none /\
 q ≠ none /\
 ∃ t0:Value,cell w (pAdd q 1) 0 = some t0 /\
 ∀ w1,Ext w w1 ->
 Run Tryz.prog (.lookup 147 t0 (.int .i64 id) false) w1 fun v2 w2 =>
 Ext w1 w2 /\
 ∃ t3:Option Addr,v2 = (.pointer t3) /\
 ((t3 ≠ none) ->
 ∀ w4,Ext w2 w4 ->
 Q (.int .i64 6) w4) /\
 ((t3 = none) ->
 q ≠ none /\
 q ≠ none /\
 ∃ t4:Option Addr,∃ tl5:Nat,∃ tc6:Nat,cell w2 (pAdd q 0) 0 = some (.slice t4 tl5 tc6) /\
 (((tl5:Int) = 200) ->
 ∀ w7,Ext w2 w7 ->
 Q (.int .i64 7) w7) /\
 (((tl5:Int) ≠ 200) ->
 q ≠ none /\
 q ≠ none /\
 ∃ t7:Int,cell w2 (pAdd q 2) 0 = some (.int .i64 t7) /\
 InR .i64 (t7 + 1) /\
 q ≠ none /\
 q ≠ none /\
 Store w2 (pAdd q 2) [(.int .i64 (t7 + 1))] [] fun w8 =>
 q ≠ none /\
 q ≠ none /\
 ∃ t9:Int,cell w8 (pAdd q 2) 0 = some (.int .i64 t9) /\
 ∀ w10,Ext w8 w10 ->
 New w10 156 [(.int .i64 prio),(.int .i64 id),(.int .i64 t9),(.int .i64 0)] fun p11 w11 =>
 q ≠ none /\
 q ≠ none /\
 ∃ t12:Value,cell w11 (pAdd q 1) 0 = some t12 /\
 ∀ w13,Ext w11 w13 ->
 Run Tryz.prog (.mapUpdate 147 t12 (.int .i64 id) (.pointer p11)) w13 fun v14 w14 =>
 q ≠ none /\
 q ≠ none /\
 ∀ w15,Ext w14 w15 ->
 Run Tryz.prog (.makeInterface 158 (.pointer (pAdd q 0))) w15 fun v16 w16 =>
 Ext w15 w16 /\
 ∃ t17:Value,v16 = t17 /\
 ∀ w18,Ext w16 w18 ->
 Run Tryz.prog (.makeInterface 154 (.pointer p11)) w18 fun v19 w19 =>
 Ext w18 w19 /\
 ∃ t20:Value,v19 = t20 /\
 ∀ w21,Ext w19 w21 ->
 FnP Tryz.prog F_container_heap_Push #[t17,t20] w21 fun v22 w22 =>
 v22 = (.tuple #[]) /\
 ∀ w23,Ext w22 w23 ->
 Q (.int .i64 0) w23))
theorem ok_queue_Queue_Put (q:Option Addr) (prio:Int) (id:Int) (w:World) (Q:Value->World->Prop) (h:wp_queue_Queue_Put q prio id w Q):FnP Tryz.prog F_queue_Queue_Put #[(.pointer q),(.int .i64 prio),(.int .i64 id)] w Q:=by
  have e_:wp_queue_Queue_Put q prio id w Q = Runs Tryz.prog Q ({ N:=52,wrap:=[],pub:=[38],muts:=[82],joins:=[] }:Cfg) Tryz.f59 (Tryz.f59.body.getD .skip) [.sc (.ptr q),.sc (.int .i64 prio),.sc (.int .i64 id)] w:=by kernel_rfl
  rw [e_] at h
  exact runs_fn h Tryz.func59 (by kernel_rfl) (fun args w=>Tryz.call59 args w) (by kernel_rfl) (by kernel_rfl) rfl rfl
def wp_queue_Queue_Take (q:Option Addr) (w:World) (Q:Value->World->Prop):Prop :=
 ∀ b0:Nat,w.heap.size <= b0->q ≠ none /\
 q ≠ none /\
 ∃ t1:Option Addr,∃ tl2:Nat,∃ tc3:Nat,cell w (pAdd q 0) 0 = some (.slice t1 tl2 tc3) /\
 (((tl2:Int) = 0) ->
 ∀ w4,Ext w w4 ->
 Q (.tuple #[(.agg #[(.int .i64 0),(.int .i64 0)]),(.bool false)]) w4) /\
 (((tl2:Int) ≠ 0) ->
 q ≠ none /\
 q ≠ none /\
 ∀ w4,ExtB [] [b0] w w4 ->
 Run Tryz.prog (.makeInterface 158 (.pointer (pAdd q 0))) w4 fun v5 w5 =>
 Ext w4 w5 /\
 ∃ t6:Value,v5 = t6 /\
 ∀ w7,ExtB [] [b0] w5 w7 ->
 FnP Tryz.prog F_container_heap_Pop #[t6] w7 fun v8 w8 =>
 Kept [b0] w7 w8 /\
 ∃ t9:Value,v8 = t9 /\
 ∀ w10,ExtB [] [b0] w8 w10 ->
 Run Tryz.prog (.typeAssert t9 20 154 false) w10 fun v11 w11 =>
 Ext w10 w11 /\
 ∃ t12:Option Addr,v11 = (.pointer t12) /\
 q ≠ none /\
 q ≠ none /\
 ∃ t13:Value,cell w11 (pAdd q 1) 0 = some t13 /\
 t12 ≠ none /\
 t12 ≠ none /\
 (pAdd t12 0) ≠ none /\
 ∃ t14:Int,cell w11 (pAdd (pAdd t12 0) 1) 0 = some (.int .i64 t14) /\
 ∀ w15,ExtB [] [b0] w11 w15 ->
 Run Tryz.prog (.delete #[147,3] 0 [t13,(.int .i64 t14)]) w15 fun v16 w16 =>
 Kept [b0] w15 w16 /\
 v16 = (.tuple #[]) /\
 t12 ≠ none /\
 t12 ≠ none /\
 (pAdd t12 0) ≠ none /\
 ∃ t17:Int,cell w16 (pAdd t12 0) 0 = some (.int .i64 t17) /\
 ∃ t18:Int,cell w16 (pAdd t12 0) 1 = some (.int .i64 t18) /\
 ∀ w19,ExtB [b0] [] w16 w19 ->
 Q (.tuple #[(.agg #[(.int .i64 t17),(.int .i64 t18)]),(.bool true)]) w19)
theorem ok_queue_Queue_Take (q:Option Addr) (w:World) (Q:Value->World->Prop) (h:wp_queue_Queue_Take q w Q):FnP Tryz.prog F_queue_Queue_Take #[(.pointer q)] w Q:=by
  have e_:wp_queue_Queue_Take q w Q = Runs Tryz.prog Q ({ N:=31,wrap:=[],pub:=[],muts:=[83],joins:=[] }:Cfg) Tryz.f60 (Tryz.f60.body.getD .skip) [.sc (.ptr q)] w:=by kernel_rfl
  rw [e_] at h
  exact runs_fn h Tryz.func60 (by kernel_rfl) (fun args w=>Tryz.call60 args w) (by kernel_rfl) (by kernel_rfl) rfl rfl
end Go.Proofs.YtegephkpdlopaaaGreatDoor
set_option linter.unusedVariables false
set_option linter.unusedSimpArgs false
set_option maxRecDepth 100000
namespace Go.Proofs.YtegephkpdlopaaaGreatDoor
open Go.Sx Go.RowKit
abbrev F_retry_Check:FuncId:=41
abbrev F_farm_own:FuncId:=52
abbrev F_retry_Delay:FuncId:=64
abbrev F_slices_Clone_int_int:FuncId:=78
abbrev F_farm_ownAsk:FuncId:=79
def wp_retry_Check (p_0:Int) (p_1:Int) (p_2:Int) (p_3:Int) (w:World) (Q:Value->World->Prop):Prop :=
 ∀ b0:Nat,w.heap.size <= b0->(((((((((p_0 < 1)\/(1000000000 < p_0))\/(p_1 < 1))\/(10 < p_1))\/(p_2 < p_0))\/(1000000000 < p_2))\/(p_3 < 0))\/(50 < p_3)) ->
 ∀ w1,Ext w w1 ->
 Q (.int .i64 4) w1) /\
 (((((((((1 <= p_0)/\(p_0 <= 1000000000))/\(1 <= p_1))/\(p_1 <= 10))/\(p_0 <= p_2))/\(p_2 <= 1000000000))/\(0 <= p_3))/\(p_3 <= 50)) ->
 ∀ w1,Ext w w1 ->
 Q (.int .i64 0) w1)
theorem ok_retry_Check (p_0:Int) (p_1:Int) (p_2:Int) (p_3:Int) (w:World) (Q:Value->World->Prop) (h:wp_retry_Check p_0 p_1 p_2 p_3 w Q):FnP Tryz.prog F_retry_Check #[(.agg #[(.int .i64 p_0),(.int .i64 p_1),(.int .i64 p_2),(.int .i64 p_3)])] w Q:=by
  have e_:wp_retry_Check p_0 p_1 p_2 p_3 w Q = Runs Tryz.prog Q ({ N:=43,wrap:=[],pub:=[],muts:=[],joins:=[] }:Cfg) Tryz.f41 (Tryz.f41.body.getD .skip) [.agg [.int .i64 p_0,.int .i64 p_1,.int .i64 p_2,.int .i64 p_3]] w:=by kernel_rfl
  rw [e_] at h
  exact runs_fn h Tryz.func41 (by kernel_rfl) (fun args w=>Tryz.call41 args w) (by kernel_rfl) (by kernel_rfl) rfl rfl
def wp_retry_Delay (p_0:Int) (p_1:Int) (p_2:Int) (p_3:Int) (n:Int) (w:World) (Q:Value->World->Prop):Prop :=
 ∀ b0:Nat,w.heap.size <= b0->∀ w1,Ext w w1 ->
 FnP Tryz.prog F_retry_Check #[(.agg #[(.int .i64 p_0),(.int .i64 p_1),(.int .i64 p_2),(.int .i64 p_3)])] w1 fun v2 w2 =>
 Ext w1 w2 /\
 ∃ t3:Int,v2 = (.int .i64 t3) /\
 ((t3 ≠ 0) ->
 ∀ w4,Ext w w4 ->
 Q (.tuple #[(.int .i64 0),(.int .i64 t3)]) w4) /\
 ((t3 = 0) ->
 (((n < 1)\/(p_3 < n)) ->
 ∀ w4,Ext w w4 ->
 Q (.tuple #[(.int .i64 0),(.int .i64 5)]) w4) /\
 (((1 <= n)/\(n <= p_3)) ->
 InR .i64 (n - 1) /\
 ∃ (I4:Int->Int->World->Prop) (M4:Int->Int->World->Nat),I4 p_0 0 w /\
 ∀ (d5:Int) (k6:Int) (w7:World),I4 d5 k6 w7 ->
 (((k6 < (n - 1)) ->
 InR .i64 (d5 * p_1) /\
 InR .i64 (k6 + 1) /\
 (I4 (min (d5 * p_1) p_2) (k6 + 1) w7/\M4 (min (d5 * p_1) p_2) (k6 + 1) w7 < M4 d5 k6 w7))) /\
 (((n - 1) <= k6) ->
 ∀ w8,Ext w7 w8 ->
 Q (.tuple #[(.int .i64 d5),(.int .i64 0)]) w8)))
theorem ok_retry_Delay (p_0:Int) (p_1:Int) (p_2:Int) (p_3:Int) (n:Int) (w:World) (Q:Value->World->Prop) (h:wp_retry_Delay p_0 p_1 p_2 p_3 n w Q):FnP Tryz.prog F_retry_Delay #[(.agg #[(.int .i64 p_0),(.int .i64 p_1),(.int .i64 p_2),(.int .i64 p_3)]),(.int .i64 n)] w Q:=by
  have e_:wp_retry_Delay p_0 p_1 p_2 p_3 n w Q = Runs Tryz.prog Q ({ N:=36,wrap:=[],pub:=[],muts:=[],joins:=[] }:Cfg) Tryz.f64 (Tryz.f64.body.getD .skip) [.agg [.int .i64 p_0,.int .i64 p_1,.int .i64 p_2,.int .i64 p_3],.sc (.int .i64 n)] w:=by kernel_rfl
  rw [e_] at h
  exact runs_fn h Tryz.func64 (by kernel_rfl) (fun args w=>Tryz.call64 args w) (by kernel_rfl) (by kernel_rfl) rfl rfl
def wp_slices_Clone_int_int (s:Option Addr) (sl:Nat) (sc:Nat) (w:World) (Q:Value->World->Prop):Prop :=
 ((s = none) ->
 ∀ w0,Ext w w0 ->
 Q (.slice none 0 0) w0) /\
 ((s ≠ none) ->
 ∀ w0,Ext w w0 ->
 Run Tryz.prog (.buildSlice 38 0 []) w0 fun v1 w1 =>
 Ext w0 w1 /\
 ∃ t2:Option Addr,∃ tl3:Nat,∃ tc4:Nat,v1 = (.slice t2 tl3 tc4) /\
 ∀ w5,Ext w1 w5 ->
 Run Tryz.prog (.append #[38,38] 38 [(.slice t2 tl3 tc4),(.slice s sl sc)]) w5 fun v6 w6 =>
 ∃ t7:Option Addr,∃ tl8:Nat,∃ tc9:Nat,v6 = (.slice t7 tl8 tc9) /\
 ∀ w10,Ext w6 w10 ->
 Q (.slice t7 tl8 tc9) w10)
theorem ok_slices_Clone_int_int (s:Option Addr) (sl:Nat) (sc:Nat) (w:World) (Q:Value->World->Prop) (h:wp_slices_Clone_int_int s sl sc w Q):FnP Tryz.prog F_slices_Clone_int_int #[(.slice s sl sc)] w Q:=by
  have e_:wp_slices_Clone_int_int s sl sc w Q = Runs Tryz.prog Q ({ N:=8,wrap:=[],pub:=[],muts:=[],joins:=[] }:Cfg) Tryz.f78 (Tryz.f78.body.getD .skip) [.sc (.slc s sl sc)] w:=by kernel_rfl
  rw [e_] at h
  exact runs_fn h Tryz.func78 (by kernel_rfl) (fun args w=>Tryz.call78 args w) (by kernel_rfl) (by kernel_rfl) rfl rfl
def wp_farm_ownAsk (x_0:Int) (x_1:ByteArray) (x_2:ByteArray) (x_3:Int) (x_4:Option Addr) (x_4l:Nat) (x_4c:Nat) (w:World) (Q:Value->World->Prop):Prop :=
 ∀ b0:Nat,w.heap.size <= b0->∀ b1:Nat,w.heap.size <= b1->∃ (I2:Option Addr->Nat->Nat->Int->World->Prop) (M2:Option Addr->Nat->Nat->Int->World->Nat),I2 none 0 0 0 w /\
 ∀ (l3:Option Addr) (ll3:Nat) (lc3:Nat) (k4:Int) (w5:World),I2 l3 ll3 lc3 k4 w5 ->
 (((k4 < (x_4l:Int)) ->
 x_4 ≠ none /\
 (0:Int) <= k4 /\
 (k4:Int) < (x_4l:Int) /\
 (pIdx x_4 k4 5) ≠ none /\
 ∃ t6:Int,cell w5 (pIdx x_4 k4 5) 0 = some (.int .i64 t6) /\
 ∃ t7:ByteArray,cell w5 (pIdx x_4 k4 5) 1 = some (.string t7) /\
 ∃ t8:ByteArray,cell w5 (pIdx x_4 k4 5) 2 = some (.string t8) /\
 ∃ t9:Int,cell w5 (pIdx x_4 k4 5) 3 = some (.int .i64 t9) /\
 ∃ t10:Option Addr,∃ tl11:Nat,∃ tc12:Nat,cell w5 (pIdx x_4 k4 5) 4 = some (.slice t10 tl11 tc12) /\
 ∀ b13:Nat,w5.heap.size <= b13->∀ w14,ExtB [] [b0,b1,b13] w5 w14 ->
 FnP Tryz.prog F_farm_ownAsk #[(.agg #[(.int .i64 t6),(.string t7),(.string t8),(.int .i64 t9),(.slice t10 tl11 tc12)])] w14 fun v15 w15 =>
 Ext w14 w15 /\
 ∃ t_016:Int,∃ t_117:ByteArray,∃ t_218:ByteArray,∃ t_319:Int,∃ t_420:Option Addr,∃ t_4l21:Nat,∃ t_4c22:Nat,v15 = (.agg #[(.int .i64 t_016),(.string t_117),(.string t_218),(.int .i64 t_319),(.slice t_420 t_4l21 t_4c22)]) /\
 ∀ w23,ExtB [] [b0,b1,b13] w15 w23 ->
 Run Tryz.prog (.buildSlice 35 1 [(0,(.agg #[(.int .i64 t_016),(.string t_117),(.string t_218),(.int .i64 t_319),(.slice t_420 t_4l21 t_4c22)]))]) w23 fun v24 w24 =>
 Ext w23 w24 /\
 ∃ t25:Option Addr,∃ tl26:Nat,∃ tc27:Nat,v24 = (.slice t25 tl26 tc27) /\
 ∀ w28,ExtB [] [b0,b1,b13] w24 w28 ->
 Run Tryz.prog (.append #[35,35] 35 [(.slice l3 ll3 lc3),(.slice t25 tl26 tc27)]) w28 fun v29 w29 =>
 Kept [b0,b1,b13] w28 w29 /\
 ∃ t30:Option Addr,∃ tl31:Nat,∃ tc32:Nat,v29 = (.slice t30 tl31 tc32) /\
 InR .i64 (k4 + 1) /\
 (I2 t30 tl31 tc32 (k4 + 1) w29/\M2 t30 tl31 tc32 (k4 + 1) w29 < M2 l3 ll3 lc3 k4 w5))) /\
 (((x_4l:Int) <= k4) ->
 ∀ w6,ExtB [b1,b0] [] w5 w6 ->
 Q (.agg #[(.int .i64 x_0),(.string x_1),(.string x_2),(.int .i64 x_3),(.slice l3 ll3 lc3)]) w6)
theorem ok_farm_ownAsk (x_0:Int) (x_1:ByteArray) (x_2:ByteArray) (x_3:Int) (x_4:Option Addr) (x_4l:Nat) (x_4c:Nat) (w:World) (Q:Value->World->Prop) (h:wp_farm_ownAsk x_0 x_1 x_2 x_3 x_4 x_4l x_4c w Q):FnP Tryz.prog F_farm_ownAsk #[(.agg #[(.int .i64 x_0),(.string x_1),(.string x_2),(.int .i64 x_3),(.slice x_4 x_4l x_4c)])] w Q:=by
  have e_:wp_farm_ownAsk x_0 x_1 x_2 x_3 x_4 x_4l x_4c w Q = Runs Tryz.prog Q ({ N:=22,wrap:=[],pub:=[],muts:=[],joins:=[] }:Cfg) Tryz.f79 (Tryz.f79.body.getD .skip) [.agg [.int .i64 x_0,.str x_1,.str x_2,.int .i64 x_3,.slc x_4 x_4l x_4c]] w:=by kernel_rfl
  rw [e_] at h
  exact runs_fn h Tryz.func79 (by kernel_rfl) (fun args w=>Tryz.call79 args w) (by kernel_rfl) (by kernel_rfl) rfl rfl
def wp_farm_own (s_0:ByteArray) (s_1:Int) (s_2:Int) (s_3:Int) (s_4:Int) (s_5:Int) (s_6:ByteArray) (s_7:ByteArray) (s_8:Int) (s_9:Option Addr) (s_9l:Nat) (s_9c:Nat) (s_10:Option Addr) (s_10l:Nat) (s_10c:Nat) (s_11:Int) (s_12:Int) (s_13:Int) (s_14:Int) (s_15:Int) (w:World) (Q:Value->World->Prop):Prop :=
 ∀ b0:Nat,w.heap.size <= b0->∀ b1:Nat,w.heap.size <= b1->∀ w2,ExtB [] [b0,b1] w w2 ->
 FnP Tryz.prog F_slices_Clone_int_int #[(.slice s_10 s_10l s_10c)] w2 fun v3 w3 =>
 Ext w2 w3 /\
 ∃ t4:Option Addr,∃ tl5:Nat,∃ tc6:Nat,v3 = (.slice t4 tl5 tc6) /\
 ∀ w7,ExtB [b0] [b0,b1] w3 w7 ->
 FnP Tryz.prog F_farm_ownAsk #[(.agg #[(.int .i64 s_5),(.string s_6),(.string s_7),(.int .i64 s_8),(.slice s_9 s_9l s_9c)])] w7 fun v8 w8 =>
 Ext w7 w8 /\
 ∃ t_09:Int,∃ t_110:ByteArray,∃ t_211:ByteArray,∃ t_312:Int,∃ t_413:Option Addr,∃ t_4l14:Nat,∃ t_4c15:Nat,v8 = (.agg #[(.int .i64 t_09),(.string t_110),(.string t_211),(.int .i64 t_312),(.slice t_413 t_4l14 t_4c15)]) /\
 ∀ w16,ExtB [b1,b0] [] w8 w16 ->
 Q (.agg #[(.string s_0),(.int .i64 s_1),(.int .i64 s_2),(.int .i64 s_3),(.int .i64 s_4),(.int .i64 t_09),(.string t_110),(.string t_211),(.int .i64 t_312),(.slice t_413 t_4l14 t_4c15),(.slice t4 tl5 tc6),(.int .i64 s_11),(.int .i64 s_12),(.int .i64 s_13),(.int .i64 s_14),(.int .i64 s_15)]) w16
theorem ok_farm_own (s_0:ByteArray) (s_1:Int) (s_2:Int) (s_3:Int) (s_4:Int) (s_5:Int) (s_6:ByteArray) (s_7:ByteArray) (s_8:Int) (s_9:Option Addr) (s_9l:Nat) (s_9c:Nat) (s_10:Option Addr) (s_10l:Nat) (s_10c:Nat) (s_11:Int) (s_12:Int) (s_13:Int) (s_14:Int) (s_15:Int) (w:World) (Q:Value->World->Prop) (h:wp_farm_own s_0 s_1 s_2 s_3 s_4 s_5 s_6 s_7 s_8 s_9 s_9l s_9c s_10 s_10l s_10c s_11 s_12 s_13 s_14 s_15 w Q):FnP Tryz.prog F_farm_own #[(.agg #[(.string s_0),(.int .i64 s_1),(.int .i64 s_2),(.int .i64 s_3),(.int .i64 s_4),(.int .i64 s_5),(.string s_6),(.string s_7),(.int .i64 s_8),(.slice s_9 s_9l s_9c),(.slice s_10 s_10l s_10c),(.int .i64 s_11),(.int .i64 s_12),(.int .i64 s_13),(.int .i64 s_14),(.int .i64 s_15)])] w Q:=by
  have e_:wp_farm_own s_0 s_1 s_2 s_3 s_4 s_5 s_6 s_7 s_8 s_9 s_9l s_9c s_10 s_10l s_10c s_11 s_12 s_13 s_14 s_15 w Q = Runs Tryz.prog Q ({ N:=16,wrap:=[],pub:=[],muts:=[],joins:=[] }:Cfg) Tryz.f52 (Tryz.f52.body.getD .skip) [.agg [.str s_0,.int .i64 s_1,.int .i64 s_2,.int .i64 s_3,.int .i64 s_4,.int .i64 s_5,.str s_6,.str s_7,.int .i64 s_8,.slc s_9 s_9l s_9c,.slc s_10 s_10l s_10c,.int .i64 s_11,.int .i64 s_12,.int .i64 s_13,.int .i64 s_14,.int .i64 s_15]] w:=by kernel_rfl
  rw [e_] at h
  exact runs_fn h Tryz.func52 (by kernel_rfl) (fun args w=>Tryz.call52 args w) (by kernel_rfl) (by kernel_rfl) rfl rfl
end Go.Proofs.YtegephkpdlopaaaGreatDoor
