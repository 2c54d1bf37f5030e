import Derived.Laws.StructEq
import Derived.Lib.AppendStr
import Derived.Lib.SlBytesConst
import Derived.Test.YtjmdoflcmipejaaVPart5
set_option linter.unusedVariables false
set_option linter.unusedSimpArgs false
/- Functions in their shallow form: what is shown of it holds of a call. -/
namespace Go.Proofs.YtjmdoflcmipejaaV
open Go Go.Proofs.Try
set_option linter.unusedVariables false
set_option maxRecDepth 100000
/- (*valise/bits.Reader).Err -/
theorem of_bits_Reader_Err {r0 : Option Addr} {w : World} {R : Ending → World → Prop} (h : gCall P n_bits_Reader_in shP #[.pointer r0] w fun (t4 : Option Addr) ww1 => gCall P n_bits_place_Err (shI .i64) #[.pointer t4] ww1 fun (t5 : Int) ww2 => R (.returned (.int .i64 t5)) ww2) :
    Calls P n_bits_Reader_Err #[.pointer r0] w R :=
  calls_of hmix (An := ⟨[], []⟩) (fn := f55) func55 rfl rfl (by kernel_rfl) (Eq.mpr (by kernel_rfl) h)
/- valise/rice.Pack -/
theorem of_rice_Pack {l0 : Value} {w : World} {R : Ending → World → Prop} (h : gLen P t_sl_int32 l0 fun (t10 : Nat) => gIf (decide ((t10 : Int) > 1048576)) (R (.returned (.tuple #[.slice none 0 0, .int .i64 5])) w) (gBox P t_rice_packer (.agg #[.slice none 0 0, .int .i64 0]) w fun (t13 : Addr) ww1 => gAlloc P t_pt_rice_packer ww1 fun (p4 : Addr) ww2 => gStore P t_pt_rice_packer (.pointer (some p4)) (.pointer (some t13)) ww2 fun ww3 => gCall P n_slices_Chunk_int32_int32 shV #[l0, .int .i64 64] ww3 fun (t15 : Value) ww4 => gRange P t15 ww4 (fun (part5 : Value) (ww5 : World) (KK : World → Prop) => gCall P n_rice_Best (shI .i64) #[part5] ww5 fun (t18 : Int) ww7 => gLoad P t_pt_rice_packer shP (.pointer (some p4)) ww7 fun (t19 : Option Addr) => gNil t19 fun (t20 : Addr) => gCall P n_bits_Writer_Bits shU #[.pointer (some (Addr.add t20 0)), .int .u32 (u32 t18), .int .i64 5] ww7 fun  ww8 => gLen P t_sl_int32 part5 fun (t26 : Nat) => ∃ (I : Int → World → Prop) (μ : Int → World → Nat), I 0 ww8 ∧ ∀ (_ : Env) (t27 : Int) (ww9 : World), I t27 ww9 → gIf (decide (t27 < (t26 : Int))) (gIdx P t_sl_int32 part5 (.int .i64 t27) fun (t29 : Addr) => gLoad P t_int32 (shI .i32) (.pointer (some t29)) ww9 fun (t30 : Int) => gLoad P t_pt_rice_packer shP (.pointer (some p4)) ww9 fun (t31 : Option Addr) => gCall P n_rice_packer_put shU #[.pointer t31, .int .i32 t30, .int .i64 t18] ww9 fun  ww10 => I (i64 (t27 + 1)) ww10 ∧ μ (i64 (t27 + 1)) ww10 < μ t27 ww9) (KK ww9)) (fun (DD : Nat) (ww6 : World) => gLoad P t_pt_rice_packer shP (.pointer (some p4)) ww6 fun (t36 : Option Addr) => gNil t36 fun (t37 : Addr) => gCall P n_bits_Writer_Bytes shV #[.pointer (some (Addr.add t37 0))] ww6 fun (t39 : Value) ww11 => ww11.heap[DD]? = some (.deferred (some [])) ∧ R (.returned (.tuple #[t39, .int .i64 0])) (ww11.putObj DD (.deferred none))))) :
    Calls P n_rice_Pack #[l0] w R :=
  calls_ofR hmix (An := ⟨[(9, [(27, .int .i64)])], []⟩) (fn := f56) func56 rfl rfl (by kernel_rfl) (Eq.mpr (by kernel_rfl) h)
/- bytes.Equal -/
theorem of_bytes_Equal {a0 : Value} {b1 : Value} {w : World} {R : Ending → World → Prop} (h : gConv P t_sl_uint8 t_string shS a0 w fun (t6 : ByteArray) ww1 => gConv P t_sl_uint8 t_string shS b1 ww1 fun (t8 : ByteArray) ww2 => R (.returned (.bool (t6.toList == t8.toList))) ww2) :
    Calls P n_bytes_Equal #[a0, b1] w R :=
  calls_of hmix (An := ⟨[], []⟩) (fn := f57) func57 rfl rfl (by kernel_rfl) (Eq.mpr (by kernel_rfl) h)
/- valise/lms.Restore -/
theorem of_lms_Restore {l0 : Value} {w : World} {R : Ending → World → Prop} (h : gCall P n_lms_New shP #[] w fun (t7 : Option Addr) ww1 => gLen P t_sl_int32 l0 fun (t9 : Nat) => gMake P t_sl_int32 (.int .i64 (t9 : Int)) (.int .i64 (t9 : Int)) ww1 fun (t10 : Value) ww2 => gLen P t_sl_int32 l0 fun (t12 : Nat) => ∃ (I : Int → World → Prop) (μ : Int → World → Nat), I 0 ww2 ∧ ∀ (_ : Env) (t13 : Int) (ww3 : World), I t13 ww3 → gIf (decide (t13 < (t12 : Int))) (gIdx P t_sl_int32 l0 (.int .i64 t13) fun (t16 : Addr) => gLoad P t_int32 (shI .i32) (.pointer (some t16)) ww3 fun (t17 : Int) => gCall P n_lms_Filter_Guess (shI .i32) #[.pointer t7] ww3 fun (t22 : Int) ww4 => gIdx P t_sl_int32 t10 (.int .i64 t13) fun (t24 : Addr) => gStore P t_int32 (.pointer (some t24)) (.int .i32 (i32 (t17 + t22))) ww4 fun ww5 => gIdx P t_sl_int32 t10 (.int .i64 t13) fun (t28 : Addr) => gLoad P t_int32 (shI .i32) (.pointer (some t28)) ww5 fun (t29 : Int) => gCall P n_lms_Filter_Learn shU #[.pointer t7, .int .i32 t29] ww5 fun  ww6 => I (i64 (t13 + 1)) ww6 ∧ μ (i64 (t13 + 1)) ww6 < μ t13 ww3) (R (.returned (t10)) ww3)) :
    Calls P n_lms_Restore #[l0] w R :=
  calls_of hmix (An := ⟨[(4, [(13, .int .i64)])], []⟩) (fn := f58) func58 rfl rfl (by kernel_rfl) (Eq.mpr (by kernel_rfl) h)
/- valise/fixed.Restore -/
theorem of_fixed_Restore {l0 : Value} {order1 : Int} {w : World} {R : Ending → World → Prop} (h : gLen P t_sl_int32 l0 fun (t9 : Nat) => gMake P t_sl_int32 (.int .i64 (t9 : Int)) (.int .i64 (t9 : Int)) w fun (t10 : Value) ww1 => gLen P t_sl_int32 l0 fun (t12 : Nat) => ∃ (I : Int → World → Prop) (μ : Int → World → Nat), I 0 ww1 ∧ ∀ (_ : Env) (t13 : Int) (ww2 : World), I t13 ww2 → gIf (decide (t13 < (t12 : Int))) (gIdx P t_sl_int32 l0 (.int .i64 t13) fun (t16 : Addr) => gLoad P t_int32 (shI .i32) (.pointer (some t16)) ww2 fun (t17 : Int) => gCall P n_fixed_right (shI .i64) #[.int .i64 order1] ww2 fun (t24 : Int) ww3 => gCall P n_fixed_guess (shI .i32) #[t10, .int .i64 t13, .int .i64 t24] ww3 fun (t25 : Int) ww4 => gIdx P t_sl_int32 t10 (.int .i64 t13) fun (t27 : Addr) => gStore P t_int32 (.pointer (some t27)) (.int .i32 (i32 (t17 + t25))) ww4 fun ww5 => I (i64 (t13 + 1)) ww5 ∧ μ (i64 (t13 + 1)) ww5 < μ t13 ww2) (R (.returned (t10)) ww2)) :
    Calls P n_fixed_Restore #[l0, .int .i64 order1] w R :=
  calls_of hmix (An := ⟨[(3, [(13, .int .i64)])], []⟩) (fn := f59) func59 rfl rfl (by kernel_rfl) (Eq.mpr (by kernel_rfl) h)
/- valise/fixed.Best -/
theorem of_fixed_Best {l0 : Value} {w : World} {R : Ending → World → Prop} (h : gCall P n_fixed_Weight (shI .u64) #[l0] w fun (t8 : Int) ww1 => ∃ (I : Int → Int → Int → World → Prop) (μ : Int → Int → Int → World → Nat), I 0 t8 1 ww1 ∧ ∀ (_ : Env) (best3 : Int) (least4 : Int) (k5 : Int) (ww2 : World), I best3 least4 k5 ww2 → gIf (decide (k5 ≤ 3)) (gCall P n_fixed_Residual shV #[l0, .int .i64 k5] ww2 fun (t15 : Value) ww3 => gCall P n_fixed_Weight (shI .u64) #[t15] ww3 fun (t16 : Int) ww4 => gIf (decide (t16 < least4)) (I k5 t16 (i64 (k5 + 1)) ww4 ∧ μ k5 t16 (i64 (k5 + 1)) ww4 < μ best3 least4 k5 ww2) (I best3 least4 (i64 (k5 + 1)) ww4 ∧ μ best3 least4 (i64 (k5 + 1)) ww4 < μ best3 least4 k5 ww2)) (R (.returned (.int .i64 best3)) ww2)) :
    Calls P n_fixed_Best #[l0] w R :=
  calls_of hmix (An := ⟨[(3, [(3, .int .i64), (4, .int .u64), (5, .int .i64)])], []⟩) (fn := f60) func60 rfl rfl (by kernel_rfl) (Eq.mpr (by kernel_rfl) h)
/- (valise/audio.predictor).residual -/
theorem of_audio_predictor_residual {p0_0 : Int} {l1 : Value} {w : World} {R : Ending → World → Prop} (h : gBox P t_audio_predictor (.agg #[.int .i64 p0_0]) w fun (p2 : Addr) ww1 => gLoad P t_int (shI .i64) (.pointer (some (Addr.add p2 0))) ww1 fun (t6 : Int) => gIf (t6 == 4) (gCall P n_lms_Residual shV #[l1] ww1 fun (t9 : Value) ww2 => R (.returned (t9)) ww2) (gLoad P t_int (shI .i64) (.pointer (some (Addr.add p2 0))) ww1 fun (t12 : Int) => gCall P n_fixed_Residual shV #[l1, .int .i64 t12] ww1 fun (t13 : Value) ww3 => R (.returned (t13)) ww3)) :
    Calls P n_audio_predictor_residual #[.agg #[.int .i64 p0_0], l1] w R :=
  calls_of hmix (An := ⟨[], []⟩) (fn := f61) func61 rfl rfl (by kernel_rfl) (Eq.mpr (by kernel_rfl) h)
/- (*valise/valiseref02.Reader).Raw -/
theorem of_valiseref02_Reader_Raw {r0 : Option Addr} {n1 : Int} {w : World} {R : Ending → World → Prop} (h : gNil r0 fun (t8 : Addr) => gLoad P t_api_Errno (shI .i64) (.pointer (some (Addr.add t8 2))) w fun (t10 : Int) => gIf (t10 != 0) (R (.returned (.slice none 0 0)) w) (gNil r0 fun (t14 : Addr) => gLoadB P t_sl_uint8 shV (.pointer (some (Addr.add t14 0))) (fun w' => w' = w.drew) fun (t16 : Value) => gLen P t_sl_uint8 t16 fun (t17 : Nat) => gNil r0 fun (t19 : Addr) => gLoadB P t_int (shI .i64) (.pointer (some (Addr.add t19 1))) (fun w' => w' = w.drew) fun (t21 : Int) => gIf (decide ((if 0 > n1 then 0 else n1) > (i64 ((t17 : Int) - t21)))) (gNil r0 fun (t25 : Addr) => gStore P t_api_Errno (.pointer (some (Addr.add t25 2))) (.int .i64 3) w.drew fun ww1 => R (.returned (.slice none 0 0)) ww1) (gNil r0 fun (t29 : Addr) => gLoad P t_int (shI .i64) (.pointer (some (Addr.add t29 1))) w.drew fun (t31 : Int) => gNil r0 fun (t34 : Addr) => gStore P t_int (.pointer (some (Addr.add t34 1))) (.int .i64 (i64 (t31 + (if 0 > n1 then 0 else n1)))) w.drew fun ww2 => ∃ B : World → Prop, B ww2.drew ∧ gNil r0 fun (t37 : Addr) => gLoadB P t_sl_uint8 shV (.pointer (some (Addr.add t37 0))) B fun (t39 : Value) => gNil r0 fun (t41 : Addr) => gLoadB P t_int (shI .i64) (.pointer (some (Addr.add t41 1))) B fun (t43 : Int) => gNil r0 fun (t47 : Addr) => gLoadB P t_int (shI .i64) (.pointer (some (Addr.add t47 1))) B fun (t49 : Int) => gSlice P t_sl_uint8 t39 (some (.int .i64 (i64 (t43 - (if 0 > n1 then 0 else n1))))) (some (.int .i64 t49)) none fun (t50 : Value) => gApp P #[t_sl_uint8, t_sl_uint8] t_sl_uint8 #[.slice none 0 0, t50] ww2.drew fun (t51 : Value) ww3 => B ww3 ∧ R (.returned (t51)) ww3))) :
    Calls P n_valiseref02_Reader_Raw #[.pointer r0, .int .i64 n1] w R :=
  calls_of hmix (An := ⟨[], []⟩) (fn := f62) func62 rfl rfl (by kernel_rfl) (Eq.mpr (by kernel_rfl) h)
/- (*valise/num.Reader).look -/
theorem of_num_Reader_look {r0 : Option Addr} {w : World} {R : Ending → World → Prop} (h : ∃ J0 : World → Prop, (∃ (I : Int → Int → World → Prop) (μ : Int → Int → World → Nat), I 0 0 w ∧ ∀ (_ : Env) (v5 : Int) (t8 : Int) (ww1 : World), I v5 t8 ww1 → gIf (decide (t8 < 10)) (gNil r0 fun (t12 : Addr) => gLoadB P t_int (shI .i64) (.pointer (some (Addr.add t12 1))) (fun w' => w' = ww1.drew) fun (t14 : Int) => gNil r0 fun (t18 : Addr) => gLoadB P t_sl_uint8 shV (.pointer (some (Addr.add t18 0))) (fun w' => w' = ww1.drew) fun (t20 : Value) => gLen P t_sl_uint8 t20 fun (t21 : Nat) => gIf (decide ((i64 (t14 + t8)) ≥ (t21 : Int))) (R (.returned (.tuple #[.int .u64 0, .int .i64 0, .int .i64 3])) ww1.drew) (gNil r0 fun (t24 : Addr) => gLoadB P t_sl_uint8 shV (.pointer (some (Addr.add t24 0))) (fun w' => w' = ww1.drew.drew) fun (t26 : Value) => gNil r0 fun (t28 : Addr) => gLoadB P t_int (shI .i64) (.pointer (some (Addr.add t28 1))) (fun w' => w' = ww1.drew.drew) fun (t30 : Int) => gIdx P t_sl_uint8 t26 (.int .i64 (i64 (t30 + t8))) fun (t33 : Addr) => gLoadB P t_uint8 (shI .u8) (.pointer (some t33)) (fun w' => w' = ww1.drew.drew) fun (t34 : Int) => gBin P .shl t_uint64 (shI .u64) (.int .u64 (u64 (iAnd .u8 t34 127))) (.int .i64 (i64 (7 * t8))) fun (t41 : Int) => ∃ J1 : World → Prop, (gIf (t8 == 9) (gIf (decide (t34 > 1)) (J0 ww1.drew.drew) (J1 ww1.drew.drew)) (J1 ww1.drew.drew)) ∧ ∀ (_ : Env)  (ww2 : World), J1 ww2 → gIf (decide (t34 < 128)) (gIf (t34 == 0) (gIf (decide (t8 > 0)) (J0 ww2) (gNil r0 fun (t59 : Addr) => gLoadB P t_int (shI .i64) (.pointer (some (Addr.add t59 1))) (fun w' => w' = ww2.drew) fun (t61 : Int) => R (.returned (.tuple #[.int .u64 (iOr .u64 v5 t41), .int .i64 (i64 ((i64 (t61 + t8)) + 1)), .int .i64 0])) ww2.drew)) (gNil r0 fun (t59 : Addr) => gLoadB P t_int (shI .i64) (.pointer (some (Addr.add t59 1))) (fun w' => w' = ww2.drew) fun (t61 : Int) => R (.returned (.tuple #[.int .u64 (iOr .u64 v5 t41), .int .i64 (i64 ((i64 (t61 + t8)) + 1)), .int .i64 0])) ww2.drew)) (I (iOr .u64 v5 t41) (i64 (t8 + 1)) ww2 ∧ μ (iOr .u64 v5 t41) (i64 (t8 + 1)) ww2 < μ v5 t8 ww1))) (J0 ww1)) ∧ ∀ (_ : Env)  (ww3 : World), J0 ww3 → R (.returned (.tuple #[.int .u64 0, .int .i64 0, .int .i64 4])) ww3) :
    Calls P n_num_Reader_look #[.pointer r0] w R :=
  calls_of hmix (An := ⟨[(3, [(5, .int .u64), (8, .int .i64)])], [(10, []), (14, [])]⟩) (fn := f63) func63 rfl rfl (by kernel_rfl) (Eq.mpr (by kernel_rfl) h)
/- (*valise/bits.Reader).in -/
theorem of_bits_Reader_in {r0 : Option Addr} {w : World} {R : Ending → World → Prop} (h : gEq P .eql t_pt_bits_Reader (.pointer r0) (.pointer none) fun (t4 : Bool) => gIf t4 (R (.returned (.pointer none)) w) (gNil r0 fun (t6 : Addr) => gLoad P t_pt_bits_place shP (.pointer (some (Addr.add t6 0))) w fun (t8 : Option Addr) => R (.returned (.pointer t8)) w)) :
    Calls P n_bits_Reader_in #[.pointer r0] w R :=
  calls_of hmix (An := ⟨[], []⟩) (fn := f64) func64 rfl rfl (by kernel_rfl) (Eq.mpr (by kernel_rfl) h)
/- (*valise/bits.place).has -/
theorem of_bits_place_has {p0 : Option Addr} {n1 : Int} {w : World} {R : Ending → World → Prop} (h : ∃ J0 : World → Prop, (gNil p0 fun (t6 : Addr) => gLoad P t_api_Errno (shI .i64) (.pointer (some (Addr.add t6 2))) w fun (t8 : Int) => gIf (t8 == 0) (gCall P n_bits_place_Left (shI .i64) #[.pointer p0] w fun (t12 : Int) ww1 => gIf (decide (t12 < n1)) (gNil p0 fun (t17 : Addr) => gStore P t_api_Errno (.pointer (some (Addr.add t17 2))) (.int .i64 3) ww1 fun ww2 => J0 ww2) (J0 ww1)) (J0 w)) ∧ ∀ (_ : Env)  (ww3 : World), J0 ww3 → gNil p0 fun (t20 : Addr) => gLoad P t_api_Errno (shI .i64) (.pointer (some (Addr.add t20 2))) ww3 fun (t22 : Int) => R (.returned (.bool (t22 == 0))) ww3) :
    Calls P n_bits_place_has #[.pointer p0, .int .i64 n1] w R :=
  calls_of hmix (An := ⟨[], [(3, [])]⟩) (fn := f65) func65 rfl rfl (by kernel_rfl) (Eq.mpr (by kernel_rfl) h)
/- (*valise/bits.place).step -/
theorem of_bits_place_step {p0 : Option Addr} {w : World} {R : Ending → World → Prop} (h : gNil p0 fun (t5 : Addr) => gLoadB P t_sl_uint8 shV (.pointer (some (Addr.add t5 0))) (fun w' => w' = w.drew) fun (t7 : Value) => gNil p0 fun (t9 : Addr) => gLoadB P t_int (shI .i64) (.pointer (some (Addr.add t9 1))) (fun w' => w' = w.drew) fun (t11 : Int) => gIdx P t_sl_uint8 t7 (.int .i64 (i64 (Int.tdiv t11 8))) fun (t13 : Addr) => gLoadB P t_uint8 (shI .u8) (.pointer (some t13)) (fun w' => w' = w.drew) fun (t14 : Int) => gNil p0 fun (t16 : Addr) => gLoadB P t_int (shI .i64) (.pointer (some (Addr.add t16 1))) (fun w' => w' = w.drew) fun (t18 : Int) => gBin P .shr t_uint8 (shI .u8) (.int .u8 t14) (.int .i64 (i64 (7 - (Int.tmod t18 8)))) fun (t21 : Int) => gNil p0 fun (t25 : Addr) => gLoad P t_int (shI .i64) (.pointer (some (Addr.add t25 1))) w.drew fun (t27 : Int) => gNil p0 fun (t29 : Addr) => gStore P t_int (.pointer (some (Addr.add t29 1))) (.int .i64 (i64 (t27 + 1))) w.drew fun ww1 => R (.returned (.int .i64 (i64 (iAnd .u8 t21 1)))) ww1) :
    Calls P n_bits_place_step #[.pointer p0] w R :=
  calls_of hmix (An := ⟨[], []⟩) (fn := f66) func66 rfl rfl (by kernel_rfl) (Eq.mpr (by kernel_rfl) h)
/- (*valise/bits.Reader).Unary -/
theorem of_bits_Reader_Unary {r0 : Option Addr} {most1 : Int} {w : World} {R : Ending → World → Prop} (h : ∃ J0 : World → Prop, (gCall P n_bits_Reader_in shP #[.pointer r0] w fun (t8 : Option Addr) ww1 => gEq P .eql t_pt_bits_place (.pointer t8) (.pointer none) fun (t9 : Bool) => gIf (!t9) (gNil r0 fun (t12 : Addr) => gLoad P t_pt_bits_place shP (.pointer (some (Addr.add t12 0))) ww1 fun (t14 : Option Addr) => gNil t14 fun (t15 : Addr) => gLoad P t_api_Errno (shI .i64) (.pointer (some (Addr.add t15 2))) ww1 fun (t17 : Int) => gIf (t17 != 0) (R (.returned (.int .i64 0)) ww1) (J0 ww1)) (R (.returned (.int .i64 0)) ww1)) ∧ ∀ (_ : Env)  (ww2 : World), J0 ww2 → gNil r0 fun (t21 : Addr) => gLoad P t_pt_bits_place shP (.pointer (some (Addr.add t21 0))) ww2 fun (t23 : Option Addr) => gNil t23 fun (t24 : Addr) => gLoad P t_int (shI .i64) (.pointer (some (Addr.add t24 1))) ww2 fun (t26 : Int) => ∃ (I : Int → World → Prop) (μ : Int → World → Nat), I 0 ww2 ∧ ∀ (_ : Env) (n6 : Int) (ww3 : World), I n6 ww3 → gIf (decide (n6 ≥ most1)) (R (.returned (.int .i64 n6)) ww3) (gNil r0 fun (t34 : Addr) => gLoad P t_pt_bits_place shP (.pointer (some (Addr.add t34 0))) ww3 fun (t36 : Option Addr) => gCall P n_bits_place_has shB #[.pointer t36, .int .i64 1] ww3 fun (t37 : Bool) ww4 => gIf (!t37) (gNil r0 fun (t40 : Addr) => gLoad P t_pt_bits_place shP (.pointer (some (Addr.add t40 0))) ww4 fun (t42 : Option Addr) => gNil t42 fun (t44 : Addr) => gStore P t_int (.pointer (some (Addr.add t44 1))) (.int .i64 t26) ww4 fun ww5 => R (.returned (.int .i64 0)) ww5) (gNil r0 fun (t47 : Addr) => gLoad P t_pt_bits_place shP (.pointer (some (Addr.add t47 0))) ww4 fun (t49 : Option Addr) => gCall P n_bits_place_step (shI .i64) #[.pointer t49] ww4 fun (t50 : Int) ww6 => gIf (t50 == 0) (R (.returned (.int .i64 n6)) ww6) (I (i64 (n6 + 1)) ww6 ∧ μ (i64 (n6 + 1)) ww6 < μ n6 ww3)))) :
    Calls P n_bits_Reader_Unary #[.pointer r0, .int .i64 most1] w R :=
  calls_of hmix (An := ⟨[(6, [(6, .int .i64)])], [(3, [])]⟩) (fn := f67) func67 rfl rfl (by kernel_rfl) (Eq.mpr (by kernel_rfl) h)
/- valise/num.Unfold -/
theorem of_num_Unfold {u0 : Int} {w : World} {R : Ending → World → Prop} (h : R (.returned (.int .i64 (iXor .i64 (i64 (iShr .u64 u0 1)) (i64 (0 - (i64 (iAnd .u64 u0 1))))))) w) :
    Calls P n_num_Unfold #[.int .u64 u0] w R :=
  calls_of hmix (An := ⟨[], []⟩) (fn := f68) func68 rfl rfl (by kernel_rfl) (Eq.mpr (by kernel_rfl) h)
/- (*valise/bits.place).Err -/
theorem of_bits_place_Err {p0 : Option Addr} {w : World} {R : Ending → World → Prop} (h : gEq P .eql t_pt_bits_place (.pointer p0) (.pointer none) fun (t4 : Bool) => gIf t4 (R (.returned (.int .i64 2)) w) (gNil p0 fun (t6 : Addr) => gLoad P t_api_Errno (shI .i64) (.pointer (some (Addr.add t6 2))) w fun (t8 : Int) => R (.returned (.int .i64 t8)) w)) :
    Calls P n_bits_place_Err #[.pointer p0] w R :=
  calls_of hmix (An := ⟨[], []⟩) (fn := f69) func69 rfl rfl (by kernel_rfl) (Eq.mpr (by kernel_rfl) h)
/- slices.Chunk[[]int32,int32] -/
theorem of_slices_Chunk_int32_int32 {s0 : Value} {n1 : Int} {w : World} {R : Ending → World → Prop} (h : gBox P t_sl_int32 s0 w fun (s2 : Addr) ww1 => gBox P t_int (.int .i64 n1) ww1 fun (n3 : Addr) ww2 => gLoad P t_int (shI .i64) (.pointer (some n3)) ww2 fun (t5 : Int) => gIf (decide (t5 < 1)) (gAny P shV (do pure (Next.value (← Instr.makeInterface 9 (.string (ByteArray.mk #[99, 97, 110, 110, 111, 116, 32, 98, 101, 32, 108, 101, 115, 115, 32, 116, 104, 97, 110, 32, 49]))))) ww2 fun (t7 : Value) ww3 => False) (R (.returned (.func (.func n_slices_Chunk_int32_int32_1) #[] #[.pointer (some s2), .pointer (some n3)])) ww2)) :
    Calls P n_slices_Chunk_int32_int32 #[s0, .int .i64 n1] w R :=
  calls_of hmix (An := ⟨[], []⟩) (fn := f70) func70 rfl rfl (by kernel_rfl) (Eq.mpr (by kernel_rfl) h)
/- valise/rice.Best -/
theorem of_rice_Best {l0 : Value} {w : World} {R : Ending → World → Prop} (h : gCall P n_rice_Cost (shI .i64) #[l0, .int .i64 0] w fun (t8 : Int) ww1 => ∃ (I : Int → Int → Int → World → Prop) (μ : Int → Int → Int → World → Nat), I 0 t8 1 ww1 ∧ ∀ (_ : Env) (best3 : Int) (cost4 : Int) (k5 : Int) (ww2 : World), I best3 cost4 k5 ww2 → gIf (decide (k5 ≤ 24)) (gCall P n_rice_Cost (shI .i64) #[l0, .int .i64 k5] ww2 fun (t15 : Int) ww3 => gIf (decide (t15 < cost4)) (I k5 t15 (i64 (k5 + 1)) ww3 ∧ μ k5 t15 (i64 (k5 + 1)) ww3 < μ best3 cost4 k5 ww2) (I best3 cost4 (i64 (k5 + 1)) ww3 ∧ μ best3 cost4 (i64 (k5 + 1)) ww3 < μ best3 cost4 k5 ww2)) (R (.returned (.int .i64 best3)) ww2)) :
    Calls P n_rice_Best #[l0] w R :=
  calls_of hmix (An := ⟨[(3, [(3, .int .i64), (4, .int .i64), (5, .int .i64)])], []⟩) (fn := f71) func71 rfl rfl (by kernel_rfl) (Eq.mpr (by kernel_rfl) h)
/- (*valise/bits.Writer).Bits -/
theorem of_bits_Writer_Bits {w0 : Option Addr} {v1 : Int} {n2 : Int} {w : World} {R : Ending → World → Prop} (h : ∃ (I : Int → World → Prop) (μ : Int → World → Nat), I (i64 ((if (if 32 < n2 then 32 else n2) > 0 then (if 32 < n2 then 32 else n2) else 0) - 1)) w ∧ ∀ (_ : Env) (k6 : Int) (ww1 : World), I k6 ww1 → gIf (decide (k6 ≥ 0)) (gBin P .shr t_uint32 (shI .u32) (.int .u32 v1) (.int .i64 k6) fun (t18 : Int) => gCall P n_bits_Writer_Bit shU #[.pointer w0, .int .i64 (i64 (iAnd .u32 t18 1))] ww1 fun  ww2 => I (i64 (k6 - 1)) ww2 ∧ μ (i64 (k6 - 1)) ww2 < μ k6 ww1) (R (.returned (.tuple #[])) ww1)) :
    Calls P n_bits_Writer_Bits #[.pointer w0, .int .u32 v1, .int .i64 n2] w R :=
  calls_of hmix (An := ⟨[(1, [(6, .int .i64)])], []⟩) (fn := f72) func72 rfl rfl (by kernel_rfl) (Eq.mpr (by kernel_rfl) h)
/- (*valise/rice.packer).put -/
theorem of_rice_packer_put {p0 : Option Addr} {v1 : Int} {k2 : Int} {w : World} {R : Ending → World → Prop} (h : gCall P n_num_Fold (shI .u64) #[.int .i64 (i64 v1)] w fun (t10 : Int) ww1 => gBin P .shr t_uint32 (shI .u32) (.int .u32 (u32 t10)) (.int .i64 k2) fun (t14 : Int) => gIf (decide (t14 < 24)) (gNil p0 fun (t18 : Addr) => gCall P n_bits_Writer_Unary shU #[.pointer (some (Addr.add t18 0)), .int .i64 (i64 t14)] ww1 fun  ww2 => gNil p0 fun (t24 : Addr) => gCall P n_bits_Writer_Bits shU #[.pointer (some (Addr.add t24 0)), .int .u32 (u32 t10), .int .i64 k2] ww2 fun  ww3 => R (.returned (.tuple #[])) ww3) (∃ (I : Int → World → Prop) (μ : Int → World → Nat), I 0 ww1 ∧ ∀ (_ : Env) (t29 : Int) (ww4 : World), I t29 ww4 → gIf (decide (t29 < 24)) (gNil p0 fun (t32 : Addr) => gCall P n_bits_Writer_Bit shU #[.pointer (some (Addr.add t32 0)), .int .i64 1] ww4 fun  ww5 => I (i64 (t29 + 1)) ww5 ∧ μ (i64 (t29 + 1)) ww5 < μ t29 ww4) (gNil p0 fun (t37 : Addr) => gCall P n_bits_Writer_Bits shU #[.pointer (some (Addr.add t37 0)), .int .u32 (u32 t10), .int .i64 32] ww4 fun  ww6 => R (.returned (.tuple #[])) ww6))) :
    Calls P n_rice_packer_put #[.pointer p0, .int .i32 v1, .int .i64 k2] w R :=
  calls_of hmix (An := ⟨[(6, [(29, .int .i64)])], []⟩) (fn := f73) func73 rfl rfl (by kernel_rfl) (Eq.mpr (by kernel_rfl) h)
/- (*valise/bits.Writer).Bytes -/
theorem of_bits_Writer_Bytes {w0 : Option Addr} {w : World} {R : Ending → World → Prop} (h : gEq P .eql t_pt_bits_Writer (.pointer w0) (.pointer none) fun (t4 : Bool) => gIf t4 (R (.returned (.slice none 0 0)) w) (gNil w0 fun (t6 : Addr) => gLoad P t_sl_uint8 shV (.pointer (some (Addr.add t6 0))) w fun (t8 : Value) => gApp P #[t_sl_uint8, t_sl_uint8] t_sl_uint8 #[.slice none 0 0, t8] w fun (t9 : Value) ww1 => R (.returned (t9)) ww1)) :
    Calls P n_bits_Writer_Bytes #[.pointer w0] w R :=
  calls_of hmix (An := ⟨[], []⟩) (fn := f74) func74 rfl rfl (by kernel_rfl) (Eq.mpr (by kernel_rfl) h)
/- valise/lms.New -/
theorem of_lms_New {w : World} {R : Ending → World → Prop} (h : gBox P t_lms_Filter (.agg #[.int .i64 0, .int .i64 0, .int .i64 0, .int .i64 0, .int .i64 0, .int .i64 0, .int .i64 0, .int .i64 0, .int .i32 0, .int .i32 0, .int .i32 0, .int .i32 0, .int .i32 0, .int .i32 0, .int .i32 0, .int .i32 0]) w fun (t2 : Addr) ww1 => R (.returned (.pointer (some t2))) ww1) :
    Calls P n_lms_New #[] w R :=
  calls_of hmix (An := ⟨[], []⟩) (fn := f75) func75 rfl rfl (by kernel_rfl) (Eq.mpr (by kernel_rfl) h)
/- (*valise/lms.Filter).Guess -/
theorem of_lms_Filter_Guess {f0 : Option Addr} {w : World} {R : Ending → World → Prop} (h : gEq P .eql t_pt_lms_Filter (.pointer f0) (.pointer none) fun (t7 : Bool) => gIf t7 (R (.returned (.int .i32 0)) w) (gNil f0 fun (t9 : Addr) => gLoad P t_ar8_int64 (.part (.agg [.int .i64, .int .i64, .int .i64, .int .i64, .int .i64, .int .i64, .int .i64, .int .i64])) (.pointer (some (Addr.add (Addr.add t9 0) 0))) w fun (t12_1 : Int) (t12_2 : Int) (t12_3 : Int) (t12_4 : Int) (t12_5 : Int) (t12_6 : Int) (t12_7 : Int) (t12_8 : Int) => ∃ (I : Int → Int → World → Prop) (μ : Int → Int → World → Nat), I 0 0 w ∧ ∀ (_ : Env) (sum3 : Int) (t13 : Int) (ww1 : World), I sum3 t13 ww1 → gIf (decide (t13 < 8)) (gIndex P t_ar8_int64 (shI .i64) (.agg #[.int .i64 t12_1, .int .i64 t12_2, .int .i64 t12_3, .int .i64 t12_4, .int .i64 t12_5, .int .i64 t12_6, .int .i64 t12_7, .int .i64 t12_8]) (.int .i64 t13) fun (t16 : Int) => gNil f0 fun (t21 : Addr) => gIdx P t_ar8_int32 (.pointer (some (Addr.add (Addr.add t21 0) 8))) (.int .i64 t13) fun (t24 : Addr) => gLoad P t_int32 (shI .i32) (.pointer (some t24)) ww1 fun (t25 : Int) => I (i64 (sum3 + (i64 (t16 * (i64 t25))))) (i64 (t13 + 1)) ww1 ∧ μ (i64 (sum3 + (i64 (t16 * (i64 t25))))) (i64 (t13 + 1)) ww1 < μ sum3 t13 ww1) (R (.returned (.int .i32 (i32 (iShr .i64 sum3 8)))) ww1))) :
    Calls P n_lms_Filter_Guess #[.pointer f0] w R :=
  calls_of hmix (An := ⟨[(5, [(3, .int .i64), (13, .int .i64)])], []⟩) (fn := f76) func76 rfl rfl (by kernel_rfl) (Eq.mpr (by kernel_rfl) h)
/- (*valise/lms.Filter).Learn -/
theorem of_lms_Filter_Learn {f0 : Option Addr} {v1 : Int} {w : World} {R : Ending → World → Prop} (h : gEq P .eql t_pt_lms_Filter (.pointer f0) (.pointer none) fun (t8 : Bool) => gIf t8 (R (.returned (.tuple #[])) w) (gCall P n_lms_Filter_Guess (shI .i32) #[.pointer f0] w fun (t11 : Int) ww1 => gCall P n_lms_sign (shI .i64) #[.int .i32 (i32 (v1 - t11))] ww1 fun (t13 : Int) ww2 => gNil f0 fun (t15 : Addr) => gLoad P t_ar8_int32 (.part (.agg [.int .i32, .int .i32, .int .i32, .int .i32, .int .i32, .int .i32, .int .i32, .int .i32])) (.pointer (some (Addr.add (Addr.add t15 0) 8))) ww2 fun (t18_1 : Int) (t18_2 : Int) (t18_3 : Int) (t18_4 : Int) (t18_5 : Int) (t18_6 : Int) (t18_7 : Int) (t18_8 : Int) => ∃ (I : Int → World → Prop) (μ : Int → World → Nat), I 0 ww2 ∧ ∀ (_ : Env) (t19 : Int) (ww3 : World), I t19 ww3 → gIf (decide (t19 < 8)) (gIndex P t_ar8_int32 (shI .i32) (.agg #[.int .i32 t18_1, .int .i32 t18_2, .int .i32 t18_3, .int .i32 t18_4, .int .i32 t18_5, .int .i32 t18_6, .int .i32 t18_7, .int .i32 t18_8]) (.int .i64 t19) fun (t22 : Int) => ∃ B : World → Prop, B ww3.drew ∧ gNil f0 fun (t25 : Addr) => gIdx P t_ar8_int64 (.pointer (some (Addr.add (Addr.add t25 0) 0))) (.int .i64 t19) fun (t28 : Addr) => gNil f0 fun (t35 : Addr) => (gLoad P t_int64 (shI .i64) (.pointer (some t28)) ww3.drew fun (t29 : Int) => B ww3.drew ∧ gCall P n_lms_sign (shI .i64) #[.int .i32 t22] ww3.drew fun (t32 : Int) ww4 => B ww4 ∧ gIdx P t_ar8_int64 (.pointer (some (Addr.add (Addr.add t35 0) 0))) (.int .i64 t19) fun (t38 : Addr) => gStore P t_int64 (.pointer (some t38)) (.int .i64 (i64 (t29 + (i64 (t13 * t32))))) ww4 fun ww5 => B ww5 ∧ I (i64 (t19 + 1)) ww5 ∧ μ (i64 (t19 + 1)) ww5 < μ t19 ww3) ∧ (gCall P n_lms_sign (shI .i64) #[.int .i32 t22] ww3.drew fun (t32 : Int) ww6 => B ww6 ∧ gLoad P t_int64 (shI .i64) (.pointer (some t28)) ww6 fun (t29 : Int) => B ww6 ∧ gIdx P t_ar8_int64 (.pointer (some (Addr.add (Addr.add t35 0) 0))) (.int .i64 t19) fun (t38 : Addr) => gStore P t_int64 (.pointer (some t38)) (.int .i64 (i64 (t29 + (i64 (t13 * t32))))) ww6 fun ww7 => B ww7 ∧ I (i64 (t19 + 1)) ww7 ∧ μ (i64 (t19 + 1)) ww7 < μ t19 ww3)) (∃ B1 : World → Prop, B1 ww3.drew ∧ gNil f0 fun (t41 : Addr) => gSlice P t_ar8_int32 (.pointer (some (Addr.add (Addr.add t41 0) 8))) (some (.int .i64 1)) none none fun (t44 : Value) => gNil f0 fun (t46 : Addr) => gSlice P t_ar8_int32 (.pointer (some (Addr.add (Addr.add t46 0) 8))) none none none fun (t49 : Value) => gCopy P #[t_sl_int32, t_sl_int32] t_int #[t44, t49] ww3.drew fun (t50 : Int) ww8 => B1 ww8 ∧ gNil f0 fun (t53 : Addr) => gIdx P t_ar8_int32 (.pointer (some (Addr.add (Addr.add t53 0) 8))) (.int .i64 0) fun (t56 : Addr) => gStore P t_int32 (.pointer (some t56)) (.int .i32 v1) ww8 fun ww9 => R (.returned (.tuple #[])) ww9))) :
    Calls P n_lms_Filter_Learn #[.pointer f0, .int .i32 v1] w R :=
  calls_of hmix (An := ⟨[(3, [(19, .int .i64)])], []⟩) (fn := f77) func77 rfl rfl (by kernel_rfl) (Eq.mpr (by kernel_rfl) h)
/- valise/fixed.guess -/
theorem of_fixed_guess {l0 : Value} {i1 : Int} {order2 : Int} {w : World} {R : Ending → World → Prop} (h : gBox P t_sl_int32 l0 w fun (l3 : Addr) ww1 => gBox P t_int (.int .i64 i1) ww1 fun (i4 : Addr) ww2 => gIf (order2 == 1) (gCallV P (.func (.func n_fixed_guess_1) #[] #[.pointer (some i4), .pointer (some l3)]) (shI .i32) #[.int .i64 1] ww2 fun (t13 : Int) ww3 => R (.returned (.int .i32 t13)) ww3) (gIf (order2 == 2) (gCallV P (.func (.func n_fixed_guess_1) #[] #[.pointer (some i4), .pointer (some l3)]) (shI .i32) #[.int .i64 1] ww2 fun (t17 : Int) ww4 => gCallV P (.func (.func n_fixed_guess_1) #[] #[.pointer (some i4), .pointer (some l3)]) (shI .i32) #[.int .i64 2] ww4 fun (t20 : Int) ww5 => R (.returned (.int .i32 (i32 ((i32 (2 * t17)) - t20)))) ww5) (gIf (order2 == 3) (gCallV P (.func (.func n_fixed_guess_1) #[] #[.pointer (some i4), .pointer (some l3)]) (shI .i32) #[.int .i64 1] ww2 fun (t25 : Int) ww6 => gCallV P (.func (.func n_fixed_guess_1) #[] #[.pointer (some i4), .pointer (some l3)]) (shI .i32) #[.int .i64 2] ww6 fun (t28 : Int) ww7 => gCallV P (.func (.func n_fixed_guess_1) #[] #[.pointer (some i4), .pointer (some l3)]) (shI .i32) #[.int .i64 3] ww7 fun (t32 : Int) ww8 => R (.returned (.int .i32 (i32 ((i32 ((i32 (3 * t25)) - (i32 (3 * t28)))) + t32)))) ww8) (R (.returned (.int .i32 0)) ww2)))) :
    Calls P n_fixed_guess #[l0, .int .i64 i1, .int .i64 order2] w R :=
  calls_of hmix (An := ⟨[], []⟩) (fn := f78) func78 rfl rfl (by kernel_rfl) (Eq.mpr (by kernel_rfl) h)
/- valise/fixed.right -/
theorem of_fixed_right {order0 : Int} {w : World} {R : Ending → World → Prop} (h : R (.returned (.int .i64 (if (if 3 < order0 then 3 else order0) > 0 then (if 3 < order0 then 3 else order0) else 0))) w) :
    Calls P n_fixed_right #[.int .i64 order0] w R :=
  calls_of hmix (An := ⟨[], []⟩) (fn := f79) func79 rfl rfl (by kernel_rfl) (Eq.mpr (by kernel_rfl) h)
/- valise/fixed.Weight -/
theorem of_fixed_Weight {l0 : Value} {w : World} {R : Ending → World → Prop} (h : gLen P t_sl_int32 l0 fun (t8 : Nat) => ∃ (I : Int → Int → World → Prop) (μ : Int → Int → World → Nat), I 0 0 w ∧ ∀ (_ : Env) (n3 : Int) (t9 : Int) (ww1 : World), I n3 t9 ww1 → gIf (decide (t9 < (t8 : Int))) (gIdx P t_sl_int32 l0 (.int .i64 t9) fun (t11 : Addr) => gLoad P t_int32 (shI .i32) (.pointer (some t11)) ww1 fun (t12 : Int) => I (u64 (n3 + (u64 (if (i64 (0 - (i64 t12))) > (i64 t12) then (i64 (0 - (i64 t12))) else (i64 t12))))) (i64 (t9 + 1)) ww1 ∧ μ (u64 (n3 + (u64 (if (i64 (0 - (i64 t12))) > (i64 t12) then (i64 (0 - (i64 t12))) else (i64 t12))))) (i64 (t9 + 1)) ww1 < μ n3 t9 ww1) (R (.returned (.int .u64 n3)) ww1)) :
    Calls P n_fixed_Weight #[l0] w R :=
  calls_of hmix (An := ⟨[(3, [(3, .int .u64), (9, .int .i64)])], []⟩) (fn := f80) func80 rfl rfl (by kernel_rfl) (Eq.mpr (by kernel_rfl) h)
/- valise/fixed.Residual -/
theorem of_fixed_Residual {l0 : Value} {order1 : Int} {w : World} {R : Ending → World → Prop} (h : gLen P t_sl_int32 l0 fun (t9 : Nat) => gMake P t_sl_int32 (.int .i64 (t9 : Int)) (.int .i64 (t9 : Int)) w fun (t10 : Value) ww1 => gLen P t_sl_int32 l0 fun (t12 : Nat) => ∃ (I : Int → World → Prop) (μ : Int → World → Nat), I 0 ww1 ∧ ∀ (_ : Env) (t13 : Int) (ww2 : World), I t13 ww2 → gIf (decide (t13 < (t12 : Int))) (gIdx P t_sl_int32 l0 (.int .i64 t13) fun (t16 : Addr) => gLoad P t_int32 (shI .i32) (.pointer (some t16)) ww2 fun (t17 : Int) => gCall P n_fixed_right (shI .i64) #[.int .i64 order1] ww2 fun (t24 : Int) ww3 => gCall P n_fixed_guess (shI .i32) #[l0, .int .i64 t13, .int .i64 t24] ww3 fun (t25 : Int) ww4 => gIdx P t_sl_int32 t10 (.int .i64 t13) fun (t27 : Addr) => gStore P t_int32 (.pointer (some t27)) (.int .i32 (i32 (t17 - t25))) ww4 fun ww5 => I (i64 (t13 + 1)) ww5 ∧ μ (i64 (t13 + 1)) ww5 < μ t13 ww2) (R (.returned (t10)) ww2)) :
    Calls P n_fixed_Residual #[l0, .int .i64 order1] w R :=
  calls_of hmix (An := ⟨[(3, [(13, .int .i64)])], []⟩) (fn := f81) func81 rfl rfl (by kernel_rfl) (Eq.mpr (by kernel_rfl) h)
/- valise/lms.Residual -/
theorem of_lms_Residual {l0 : Value} {w : World} {R : Ending → World → Prop} (h : gCall P n_lms_New shP #[] w fun (t7 : Option Addr) ww1 => gLen P t_sl_int32 l0 fun (t9 : Nat) => gMake P t_sl_int32 (.int .i64 (t9 : Int)) (.int .i64 (t9 : Int)) ww1 fun (t10 : Value) ww2 => gLen P t_sl_int32 l0 fun (t12 : Nat) => ∃ (I : Int → World → Prop) (μ : Int → World → Nat), I 0 ww2 ∧ ∀ (_ : Env) (t13 : Int) (ww3 : World), I t13 ww3 → gIf (decide (t13 < (t12 : Int))) (gIdx P t_sl_int32 l0 (.int .i64 t13) fun (t16 : Addr) => gLoad P t_int32 (shI .i32) (.pointer (some t16)) ww3 fun (t17 : Int) => gCall P n_lms_Filter_Guess (shI .i32) #[.pointer t7] ww3 fun (t22 : Int) ww4 => gIdx P t_sl_int32 t10 (.int .i64 t13) fun (t24 : Addr) => gStore P t_int32 (.pointer (some t24)) (.int .i32 (i32 (t17 - t22))) ww4 fun ww5 => gCall P n_lms_Filter_Learn shU #[.pointer t7, .int .i32 t17] ww5 fun  ww6 => I (i64 (t13 + 1)) ww6 ∧ μ (i64 (t13 + 1)) ww6 < μ t13 ww3) (R (.returned (t10)) ww3)) :
    Calls P n_lms_Residual #[l0] w R :=
  calls_of hmix (An := ⟨[(4, [(13, .int .i64)])], []⟩) (fn := f82) func82 rfl rfl (by kernel_rfl) (Eq.mpr (by kernel_rfl) h)
/- (*valise/bits.place).Left -/
theorem of_bits_place_Left {p0 : Option Addr} {w : World} {R : Ending → World → Prop} (h : gEq P .eql t_pt_bits_place (.pointer p0) (.pointer none) fun (t4 : Bool) => gIf t4 (R (.returned (.int .i64 0)) w) (gNil p0 fun (t6 : Addr) => gLoadB P t_sl_uint8 shV (.pointer (some (Addr.add t6 0))) (fun w' => w' = w.drew) fun (t8 : Value) => gLen P t_sl_uint8 t8 fun (t9 : Nat) => gNil p0 fun (t12 : Addr) => gLoadB P t_int (shI .i64) (.pointer (some (Addr.add t12 1))) (fun w' => w' = w.drew) fun (t14 : Int) => R (.returned (.int .i64 (i64 ((i64 (8 * (t9 : Int))) - t14)))) w.drew)) :
    Calls P n_bits_place_Left #[.pointer p0] w R :=
  calls_of hmix (An := ⟨[], []⟩) (fn := f83) func83 rfl rfl (by kernel_rfl) (Eq.mpr (by kernel_rfl) h)
/- slices.Chunk[[]int32,int32]$1 -/
theorem of_slices_Chunk_int32_int32_1 {yield0 : Value} {t1 : Value} {t2 : Value} {w : World} {R : Ending → World → Prop} (h : ∃ (I : Int → World → Prop) (μ : Int → World → Nat), I 0 w ∧ ∀ (_ : Env) (i4 : Int) (ww1 : World), I i4 ww1 → gLoad P t_sl_int32 shV t1 ww1 fun (t7 : Value) => gLen P t_sl_int32 t7 fun (t8 : Nat) => gIf (decide (i4 < (t8 : Int))) (gLoadB P t_int (shI .i64) t2 (fun w' => w' = ww1.drew) fun (t13 : Int) => gLoadB P t_sl_int32 shV t1 (fun w' => w' = ww1.drew) fun (t14 : Value) => gSlice P t_sl_int32 t14 (some (.int .i64 i4)) none none fun (t16 : Value) => gLen P t_sl_int32 t16 fun (t17 : Nat) => gLoad P t_sl_int32 shV t1 ww1.drew fun (t20 : Value) => gSlice P t_sl_int32 t20 (some (.int .i64 i4)) (some (.int .i64 (i64 (i4 + (if (t17 : Int) < t13 then (t17 : Int) else t13))))) (some (.int .i64 (i64 (i4 + (if (t17 : Int) < t13 then (t17 : Int) else t13))))) fun (t28 : Value) => gCallY P yield0 shB #[t28] ww1.drew fun (t29 : Bool) ww2 => gIf (!t29) (R (.returned (.tuple #[])) ww2) (gLoad P t_int (shI .i64) t2 ww2 fun (t11 : Int) => I (i64 (i4 + t11)) ww2 ∧ μ (i64 (i4 + t11)) ww2 < μ i4 ww1)) (R (.returned (.tuple #[])) ww1)) :
    Calls P n_slices_Chunk_int32_int32_1 #[yield0, t1, t2] w R :=
  calls_ofY hmix (An := ⟨[(1, [(4, .int .i64)])], []⟩) (fn := f84) func84 rfl rfl (by kernel_rfl) (Eq.mpr (by kernel_rfl) h)
/- valise/rice.Cost -/
theorem of_rice_Cost {l0 : Value} {k1 : Int} {w : World} {R : Ending → World → Prop} (h : gLen P t_sl_int32 l0 fun (t13 : Nat) => ∃ (I : Int → Int → World → Prop) (μ : Int → Int → World → Nat), I 0 0 w ∧ ∀ (_ : Env) (n5 : Int) (t14 : Int) (ww1 : World), I n5 t14 ww1 → gIf (decide (t14 < (t13 : Int))) (gIdx P t_sl_int32 l0 (.int .i64 t14) fun (t16 : Addr) => gLoad P t_int32 (shI .i32) (.pointer (some t16)) ww1 fun (t17 : Int) => gCall P n_num_Fold (shI .u64) #[.int .i64 (i64 t17)] ww1 fun (t20 : Int) ww2 => gBin P .shr t_uint32 (shI .u32) (.int .u32 (u32 t20)) (.int .i64 (if (if 24 < k1 then 24 else k1) > 0 then (if 24 < k1 then 24 else k1) else 0)) fun (t23 : Int) => gIf (decide (t23 < 24)) (I (i64 (n5 + (i64 ((i64 ((i64 t23) + 1)) + (if (if 24 < k1 then 24 else k1) > 0 then (if 24 < k1 then 24 else k1) else 0))))) (i64 (t14 + 1)) ww2 ∧ μ (i64 (n5 + (i64 ((i64 ((i64 t23) + 1)) + (if (if 24 < k1 then 24 else k1) > 0 then (if 24 < k1 then 24 else k1) else 0))))) (i64 (t14 + 1)) ww2 < μ n5 t14 ww1) (I (i64 (n5 + 56)) (i64 (t14 + 1)) ww2 ∧ μ (i64 (n5 + 56)) (i64 (t14 + 1)) ww2 < μ n5 t14 ww1)) (R (.returned (.int .i64 n5)) ww1)) :
    Calls P n_rice_Cost #[l0, .int .i64 k1] w R :=
  calls_of hmix (An := ⟨[(4, [(5, .int .i64), (14, .int .i64)])], []⟩) (fn := f85) func85 rfl rfl (by kernel_rfl) (Eq.mpr (by kernel_rfl) h)
/- (*valise/bits.Writer).Bit -/
theorem of_bits_Writer_Bit {w0 : Option Addr} {v1 : Int} {w : World} {R : Ending → World → Prop} (h : gEq P .eql t_pt_bits_Writer (.pointer w0) (.pointer none) fun (t5 : Bool) => gIf t5 (R (.returned (.tuple #[])) w) (∃ J0 : World → Prop, (gNil w0 fun (t7 : Addr) => gLoad P t_int (shI .i64) (.pointer (some (Addr.add t7 1))) w fun (t9 : Int) => gIf ((Int.tmod t9 8) == 0) (gNil w0 fun (t14 : Addr) => gLoad P t_sl_uint8 shV (.pointer (some (Addr.add t14 0))) w fun (t16 : Value) => gLit P t_sl_uint8 1 #[(0, .int .u8 0)] w fun (t17 : Value) ww1 => gApp P #[t_sl_uint8, t_sl_uint8] t_sl_uint8 #[t16, t17] ww1 fun (t18 : Value) ww2 => gNil w0 fun (t19 : Addr) => gStore P t_sl_uint8 (.pointer (some (Addr.add t19 0))) t18 ww2 fun ww3 => J0 ww3) (J0 w)) ∧ ∀ (_ : Env)  (ww4 : World), J0 ww4 → gIf (v1 != 0) (∃ B : World → Prop, B ww4.drew ∧ gNil w0 fun (t24 : Addr) => gLoadB P t_sl_uint8 shV (.pointer (some (Addr.add t24 0))) B fun (t26 : Value) => gNil w0 fun (t28 : Addr) => gLoadB P t_int (shI .i64) (.pointer (some (Addr.add t28 1))) B fun (t30 : Int) => gIdx P t_sl_uint8 t26 (.int .i64 (i64 (Int.tdiv t30 8))) fun (t32 : Addr) => gNil w0 fun (t35 : Addr) => gLoadB P t_int (shI .i64) (.pointer (some (Addr.add t35 1))) B fun (t37 : Int) => gBin P .shr t_uint8 (shI .u8) (.int .u8 128) (.int .i64 (Int.tmod t37 8)) fun (t39 : Int) => gLoad P t_uint8 (shI .u8) (.pointer (some t32)) ww4.drew fun (t33 : Int) => B ww4.drew ∧ gIdx P t_sl_uint8 t26 (.int .i64 (i64 (Int.tdiv t30 8))) fun (t41 : Addr) => gStore P t_uint8 (.pointer (some t41)) (.int .u8 (iOr .u8 t33 t39)) ww4.drew fun ww5 => B ww5 ∧ gNil w0 fun (t43 : Addr) => gLoad P t_int (shI .i64) (.pointer (some (Addr.add t43 1))) ww5 fun (t45 : Int) => gNil w0 fun (t47 : Addr) => gStore P t_int (.pointer (some (Addr.add t47 1))) (.int .i64 (i64 (t45 + 1))) ww5 fun ww6 => R (.returned (.tuple #[])) ww6) (gNil w0 fun (t43 : Addr) => gLoad P t_int (shI .i64) (.pointer (some (Addr.add t43 1))) ww4 fun (t45 : Int) => gNil w0 fun (t47 : Addr) => gStore P t_int (.pointer (some (Addr.add t47 1))) (.int .i64 (i64 (t45 + 1))) ww4 fun ww7 => R (.returned (.tuple #[])) ww7))) :
    Calls P n_bits_Writer_Bit #[.pointer w0, .int .i64 v1] w R :=
  calls_of hmix (An := ⟨[], [(3, [])]⟩) (fn := f86) func86 rfl rfl (by kernel_rfl) (Eq.mpr (by kernel_rfl) h)
/- valise/num.Fold -/
theorem of_num_Fold {v0 : Int} {w : World} {R : Ending → World → Prop} (h : R (.returned (.int .u64 (iXor .u64 (iShl .u64 (u64 v0) 1) (u64 (iShr .i64 v0 63))))) w) :
    Calls P n_num_Fold #[.int .i64 v0] w R :=
  calls_of hmix (An := ⟨[], []⟩) (fn := f87) func87 rfl rfl (by kernel_rfl) (Eq.mpr (by kernel_rfl) h)
/- (*valise/bits.Writer).Unary -/
theorem of_bits_Writer_Unary {w0 : Option Addr} {n1 : Int} {w : World} {R : Ending → World → Prop} (h : ∃ (I : Int → World → Prop) (μ : Int → World → Nat), I 0 w ∧ ∀ (_ : Env) (t7 : Int) (ww1 : World), I t7 ww1 → gIf (decide (t7 < (if 0 > (if 4096 < n1 then 4096 else n1) then 0 else (if 4096 < n1 then 4096 else n1)))) (gCall P n_bits_Writer_Bit shU #[.pointer w0, .int .i64 1] ww1 fun  ww2 => I (i64 (t7 + 1)) ww2 ∧ μ (i64 (t7 + 1)) ww2 < μ t7 ww1) (gCall P n_bits_Writer_Bit shU #[.pointer w0, .int .i64 0] ww1 fun  ww3 => R (.returned (.tuple #[])) ww3)) :
    Calls P n_bits_Writer_Unary #[.pointer w0, .int .i64 n1] w R :=
  calls_of hmix (An := ⟨[(1, [(7, .int .i64)])], []⟩) (fn := f88) func88 rfl rfl (by kernel_rfl) (Eq.mpr (by kernel_rfl) h)
/- valise/lms.sign -/
theorem of_lms_sign {v0 : Int} {w : World} {R : Ending → World → Prop} (h : gIf (decide (v0 > 0)) (R (.returned (.int .i64 1)) w) (gIf (decide (v0 < 0)) (R (.returned (.int .i64 (-1))) w) (R (.returned (.int .i64 0)) w))) :
    Calls P n_lms_sign #[.int .i32 v0] w R :=
  calls_of hmix (An := ⟨[], []⟩) (fn := f89) func89 rfl rfl (by kernel_rfl) (Eq.mpr (by kernel_rfl) h)
/- valise/fixed.guess$1 -/
theorem of_fixed_guess_1 {k0 : Int} {t1 : Value} {t2 : Value} {w : World} {R : Ending → World → Prop} (h : gLoad P t_int (shI .i64) t1 w fun (t5 : Int) => gIf (decide (t5 < k0)) (R (.returned (.int .i32 0)) w) (gLoad P t_sl_int32 shV t2 w fun (t8 : Value) => gLoad P t_int (shI .i64) t1 w fun (t9 : Int) => gIdx P t_sl_int32 t8 (.int .i64 (i64 (t9 - k0))) fun (t12 : Addr) => gLoad P t_int32 (shI .i32) (.pointer (some t12)) w fun (t13 : Int) => R (.returned (.int .i32 t13)) w)) :
    Calls P n_fixed_guess_1 #[.int .i64 k0, t1, t2] w R :=
  calls_of hmix (An := ⟨[], []⟩) (fn := f90) func90 rfl rfl (by kernel_rfl) (Eq.mpr (by kernel_rfl) h)
end Go.Proofs.YtjmdoflcmipejaaV

/- All functions in their shallow form. -/

/- Small things that all texts of functions share. -/
namespace Go.Proofs.YtjmdoflcmipejaaV
open Go Go.RowKit
/-- The element type of []byte. -/
noncomputable abbrev eB : TypeId := elOf P t_sl_uint8
theorem u8i {x : Int} (h : 0 ≤ x ∧ x < 256) : IntKind.u8.min ≤ x ∧ x ≤ IntKind.u8.max := by simp [IntKind.min, IntKind.max, IntKind.signed, IntKind.bits]; omega
theorem u8_rng {a : Int} (h : IntKind.u8.min ≤ a ∧ a ≤ IntKind.u8.max) : 0 ≤ a ∧ a < 256 := by simp [IntKind.min, IntKind.max, IntKind.signed, IntKind.bits] at h; omega
theorem u32_rng {a : Int} (h : IntKind.u32.min ≤ a ∧ a ≤ IntKind.u32.max) : 0 ≤ a ∧ a < 4294967296 := by simp [IntKind.min, IntKind.max, IntKind.signed, IntKind.bits] at h; omega
theorem i32_rng {a : Int} (h : IntKind.i32.min ≤ a ∧ a ≤ IntKind.i32.max) : -2147483648 ≤ a ∧ a ≤ 2147483647 := by simp [IntKind.min, IntKind.max, IntKind.signed, IntKind.bits] at h; omega
theorem u64_rng {a : Int} (h : IntKind.u64.min ≤ a ∧ a ≤ IntKind.u64.max) : 0 ≤ a ∧ a < 18446744073709551616 := by simp [IntKind.min, IntKind.max, IntKind.signed, IntKind.bits] at h; omega
theorem i64_rng {a : Int} (h : IntKind.i64.min ≤ a ∧ a ≤ IntKind.i64.max) : -9223372036854775808 ≤ a ∧ a ≤ 9223372036854775807 := by simp [IntKind.min, IntKind.max, IntKind.signed, IntKind.bits] at h; omega
/-- Bytes in new memory. -/
def NewB (w : World) (xs : List Int) (e : Ending) (w' : World) : Prop := ∃ v, e = .returned v ∧ Ev w w' ∧ ON .u8 eB w' w.heap.size v xs
/-- Bytes in new memory, or none, and an error. -/
def TupE (w : World) (r : List Int × Int) (e : Ending) (w' : World) : Prop := ∃ v, e = .returned (.tuple #[v, .int .i64 r.2]) ∧ Ev w w' ∧ ON .u8 eB w' w.heap.size v r.1
section
variable {P : Program} {w : World} {f : FuncId} {args : Array Value}
theorem gCall_v0 {v : Value} {K : Value → World → Prop} (h : Calls P f args w fun e w' => e = .returned v ∧ w' = w) (hk : K v w) : gCall P f shV args w K :=
  gCall_of h fun _ w' ⟨h1, h2⟩ => ⟨v, h1, by subst h2; exact hk⟩
theorem gCall_u0 {K : World → Prop} (h : Calls P f args w fun e w' => e = .returned (.tuple #[]) ∧ w' = w) (hk : K w) : gCall P f shU args w K :=
  gCall_of h fun _ w' ⟨h1, h2⟩ => ⟨h1, by subst h2; exact hk⟩
theorem gCall_p0 {p : Option Addr} {K : Option Addr → World → Prop} (h : Calls P f args w fun e w' => e = .returned (.pointer p) ∧ w' = w) (hk : K p w) : gCall P f shP args w K :=
  gCall_of h fun _ w' ⟨h1, h2⟩ => ⟨p, h1, by subst h2; exact hk⟩
end
theorem gCall_tup {f : FuncId} {args : Array Value} {w : World} {r : List Int × Int} {K : Value → Int → World → Prop} (h : Calls P f args w (TupE w r)) (hk : ∀ v w', Ev w w' → ON .u8 eB w' w.heap.size v r.1 → K v r.2 w') : gCall P f (.tup [.one .val, .one (.int .i64)]) args w K :=
  gCall_of h fun _ w' ⟨v, h1, h2, h3⟩ => ⟨v, r.2, h1, hk v w' h2 h3⟩
end Go.Proofs.YtjmdoflcmipejaaV

/- Things of one's own, all told at once: what a call has made so far, apart from each other and from all that is old. -/
namespace Go.Proofs.YtjmdoflcmipejaaV
open Go Go.RowKit
/-- A thing: the blocks that it stands on, and what is told of it. -/
structure It where
  ft : Nat → Prop
  ok : World → Prop
  ce : ∀ (w : World) (k : Nat), ok w → ft k → ∃ c e f, w.heap[k]? = some (Obj.cells c e f)
  st : ∀ (w w' : World) S, ok w → Ch S w w' → (∀ k i, ft k → ¬ S k i) → ok w'
  gr : ∀ w w' : World, ok w → w.heap.size ≤ w'.heap.size → (∀ (k : Nat) c e f, w.heap[k]? = some (Obj.cells c e f) → w'.heap[k]? = w.heap[k]?) → ok w'
theorem It.lt (it : It) (w : World) (k : Nat) (h : it.ok w) (hk : it.ft k) : k < w.heap.size := let ⟨_, _, _, hc⟩ := it.ce w k h hk; hlt hc
def Fr (w0 w : World) : List It → Prop
  | [] => Ev w0 w
  | it :: F => it.ok w ∧ (∀ k, it.ft k → w0.heap.size ≤ k) ∧ (∀ jt ∈ F, ∀ k, it.ft k → ¬ jt.ft k) ∧ Fr w0 w F
section
variable {w0 w w' : World} {F : List It}
theorem Fr.old : ∀ {F : List It}, Fr w0 w F → Ev w0 w
  | [], h => h
  | _ :: _, h => Fr.old h.2.2.2
theorem Fr.start (w : World) : Fr w w [] := Ch.refl _ w
theorem Fr.mem : ∀ {F : List It} {it : It}, Fr w0 w F → it ∈ F → it.ok w ∧ ∀ k, it.ft k → w0.heap.size ≤ k
  | _ :: _, _, h, hm => by
    rcases List.mem_cons.1 hm with rfl | hm
    · exact ⟨h.1, h.2.1⟩
    · exact Fr.mem h.2.2.2 hm
theorem Fr.get {it : It} (h : Fr w0 w F) (i : Nat) (hi : F[i]? = some it) : it.ok w := (h.mem (List.mem_of_getElem? hi)).1
theorem Fr.ft {it : It} (h : Fr w0 w F) (i : Nat) (hi : F[i]? = some it) {k : Nat} (hk : it.ft k) : w0.heap.size ≤ k ∧ k < w.heap.size :=
  ⟨(h.mem (List.mem_of_getElem? hi)).2 k hk, it.lt w k (h.get i hi) hk⟩
/-- A change of what is apart from all of them, and of no old thing. -/
theorem Fr.ch {S : SS} : ∀ {F : List It}, Fr w0 w F → Ch S w w' → (∀ k i, S k i → w0.heap.size ≤ k) → (∀ it ∈ F, ∀ k i, it.ft k → ¬ S k i) → Fr w0 w' F
  | [], h, hc, h0, _ => Ev.new h hc h0
  | it :: F, h, hc, h0, hs => ⟨it.st w w' S h.1 hc (hs it (by simp)), h.2.1, h.2.2.1, Fr.ch h.2.2.2 hc h0 fun jt hj => hs jt (by simp [hj])⟩
theorem Fr.ev (h : Fr w0 w F) (he : Ev w w') : Fr w0 w' F := h.ch he (fun _ _ h => h.elim) fun _ _ _ _ _ h => h
theorem Fr.drew (h : Fr w0 w F) : Fr w0 w.drew F := h.ev (Ev.drew0 w)
/-- A new thing. -/
theorem Fr.new {jt : It} (h : Fr w0 w F) (he : Ev w w') (ok : jt.ok w') (hf : ∀ k, jt.ft k → w.heap.size ≤ k) : Fr w0 w' (jt :: F) :=
  ⟨ok, fun k hk => Nat.le_trans h.old.size (hf k hk), fun it hi k hk hik => by
    have := hf k hk
    have := it.lt w k (h.mem hi).1 hik
    omega, h.ev he⟩
theorem Fr.set_apart {it jt : It} : ∀ {F : List It} {i : Nat}, Fr w0 w F → F[i]? = some it → (∀ k, jt.ft k → it.ft k ∨ w.heap.size ≤ k) → ∀ {S : SS}, Ch S w w' → (∀ k i, S k i → it.ft k ∨ w.heap.size ≤ k) → jt.ok w' → Fr w0 w' (F.set i jt)
  | it' :: F, 0, h, hi, hf, S, hc, hS, ok => by
    simp only [List.getElem?_cons_zero, Option.some.injEq] at hi
    subst hi
    have ho := h.2.2.2.old.size
    refine ⟨ok, fun k hk => ?_, fun jt' hj k hk hjk => ?_, h.2.2.2.ch hc (fun k i hs => ?_) fun jt' hj k i hjk hs => ?_⟩
    · rcases hf k hk with h1 | h1
      · exact h.2.1 k h1
      · omega
    · rcases hf k hk with h1 | h1
      · exact h.2.2.1 jt' hj k h1 hjk
      · have := jt'.lt w k (h.2.2.2.mem hj).1 hjk; omega
    · rcases hS k i hs with h1 | h1
      · exact h.2.1 k h1
      · omega
    · rcases hS k i hs with h1 | h1
      · exact h.2.2.1 jt' hj k h1 hjk
      · have := jt'.lt w k (h.2.2.2.mem hj).1 hjk; omega
  | it' :: F, i + 1, h, hi, hf, S, hc, hS, ok => by
    simp only [List.getElem?_cons_succ] at hi
    have hm := List.mem_of_getElem? hi
    refine ⟨it'.st w w' S h.1 hc fun k i hk hs => ?_, h.2.1, fun jt' hj k hk hjk => ?_, Fr.set_apart h.2.2.2 hi hf hc hS ok⟩
    · rcases hS k i hs with h1 | h1
      · exact h.2.2.1 it hm k hk h1
      · have := it'.lt w k h.1 hk; omega
    · rcases List.mem_or_eq_of_mem_set hj with hj | rfl
      · exact h.2.2.1 jt' hj k hk hjk
      · rcases hf k hjk with h1 | h1
        · exact h.2.2.1 it hm k hk h1
        · have := it'.lt w k h.1 hk; omega
/-- A thing that changes. -/
theorem Fr.upd {it jt : It} {S : SS} (h : Fr w0 w F) (i : Nat) (hi : F[i]? = some it) (hc : Ch S w w') (hS : ∀ k i, S k i → it.ft k ∨ w.heap.size ≤ k) (ok : jt.ok w') (hf : ∀ k, jt.ft k → it.ft k ∨ w.heap.size ≤ k) : Fr w0 w' (F.set i jt) :=
  h.set_apart hi hf hc hS ok
theorem Fr.apart {it jt : It} : ∀ {F : List It} {i j : Nat}, Fr w0 w F → F[i]? = some it → F[j]? = some jt → i ≠ j → ∀ k, it.ft k → ¬ jt.ft k
  | _ :: _, 0, 0, _, _, _, hn, _, _ => absurd rfl hn
  | a :: F, 0, j + 1, h, hi, hj, _, k, hk => by
    simp only [List.getElem?_cons_zero, Option.some.injEq] at hi
    subst hi
    exact h.2.2.1 jt (List.mem_of_getElem? (by simpa using hj)) k hk
  | a :: F, i + 1, 0, h, hi, hj, _, k, hk => by
    simp only [List.getElem?_cons_zero, Option.some.injEq] at hj
    subst hj
    exact fun hk2 => h.2.2.1 it (List.mem_of_getElem? (by simpa using hi)) k hk2 hk
  | a :: F, i + 1, j + 1, h, hi, hj, hn, k, hk => Fr.apart h.2.2.2 (by simpa using hi) (by simpa using hj) (by omega) k hk
/-- Blocks that are no cells, and no old ones, may turn. -/
theorem Fr.gr : ∀ {F : List It}, Fr w0 w F → w.heap.size ≤ w'.heap.size → w'.os = w.os → w'.tape = w.tape → w'.output = w.output → (∀ k : Nat, k < w0.heap.size → w'.heap[k]? = w.heap[k]?) → (∀ (k : Nat) c e f, w.heap[k]? = some (Obj.cells c e f) → w'.heap[k]? = w.heap[k]?) → Fr w0 w' F
  | [], h, hs, h1, h2, h3, hb, hc => ⟨h1.trans h.os, h2.trans h.tape, h3.trans h.output, Nat.le_trans h.size hs, fun k hk _ => (hb k hk).trans (h.blk k hk fun _ h => h),
      fun k c e f hk => ⟨c, by rw [hb k (hlt hk), h.blk k (hlt hk) fun _ h => h]; exact hk, rfl, fun _ _ => rfl⟩, fun k o hk _ => by rw [hb k (hlt hk), h.blk k (hlt hk) fun _ h => h]; exact hk⟩
  | it :: F, h, hs, h1, h2, h3, hb, hc => ⟨it.gr w w' h.1 hs hc, h.2.1, h.2.2.1, Fr.gr h.2.2.2 hs h1 h2 h3 hb hc⟩
theorem Fr.eraseM : ∀ {F : List It} {i : Nat}, Fr w0 w F → Fr w0 w (F.eraseIdx i)
  | [], _, h => by simpa using h
  | _ :: _, 0, h => h.2.2.2
  | it :: F, i + 1, h => ⟨h.1, h.2.1, fun jt hj => h.2.2.1 jt (List.mem_of_mem_eraseIdx hj), Fr.eraseM h.2.2.2⟩
/-- A thing that is let go. -/
theorem Fr.drop (h : Fr w0 w F) (i : Nat) : Fr w0 w (F.eraseIdx i) := h.eraseM
end
theorem gIf_nndec {p : Prop} [Decidable p] {A B : Prop} (ha : p → A) (hb : ¬ p → B) : gIf (!(!decide p)) A B := gIf_of (fun h => ha (by simpa using h)) (fun h => hb (by simpa using h))
theorem gIf_b {b : Bool} {A B : Prop} (ha : b = true → A) (hb : b = false → B) : gIf b A B := gIf_of ha hb
theorem gIf_nb {b : Bool} {A B : Prop} (ha : b = false → A) (hb : b = true → B) : gIf (!b) A B := by cases b; exact ha rfl; exact hb rfl
/-! ### Things -/
theorem St.gr {w w' : World} {ad : Addr} {cs : List Value} (h : St w ad cs) (hc : ∀ (k : Nat) c e f, w.heap[k]? = some (Obj.cells c e f) → w'.heap[k]? = w.heap[k]?) : St w' ad cs := by
  obtain ⟨h0, c, e, h1, h2⟩ := h; exact ⟨h0, c, e, by rw [hc _ _ _ _ h1]; exact h1, h2⟩
theorem ON.gr {k : IntKind} {e : TypeId} {w w' : World} {B : Nat} {v : Value} {xs : List Int} (h : ON k e w B v xs) (hc : ∀ (k : Nat) c e f, w.heap[k]? = some (Obj.cells c e f) → w'.heap[k]? = w.heap[k]?) : ON k e w' B v xs := by
  refine ⟨⟨h.1.1, ?_⟩, h.2⟩
  rcases h.1.2 with hn | ⟨g, cap, cur, rfl, hb, hg, r⟩
  · exact .inl hn
  · exact .inr ⟨g, cap, cur, rfl, hb, by rw [hc _ _ _ _ hg]; exact hg, r⟩
theorem ON.ce {k : IntKind} {e : TypeId} {w : World} {B : Nat} {v : Value} {xs : List Int} (h : ON k e w B v xs) {g : Nat} (hg : v.ownBlock = some g) : ∃ c e f, w.heap[g]? = some (Obj.cells c e f) := by
  rcases h.1.2 with ⟨rfl, _⟩ | ⟨g', cap, cur, rfl, hb, hh, r⟩
  · cases hg
  · simp [Value.ownBlock] at hg; subst hg; exact ⟨_, _, _, hh⟩
theorem St.ce {w : World} {ad : Addr} {cs : List Value} (h : St w ad cs) : ∃ c e f, w.heap[ad.block]? = some (Obj.cells c e f) := let ⟨_, c, e, h1, _⟩ := h; ⟨c, e, _, h1⟩
def sIt (ad : Addr) (cs : List Value) : It := ⟨fun k => k = ad.block, fun w => St w ad cs, fun _ _ h hk => by rw [hk]; exact h.ce, fun _ _ _ h hc hs => h.ch hc fun j _ => hs _ _ rfl, fun _ _ h _ hc => h.gr hc⟩
def oIt (k : IntKind) (e : TypeId) (v : Value) (xs : List Int) : It := ⟨fun b => v.ownBlock = some b, fun w => ON k e w 0 v xs, fun _ _ h hk => h.ce hk, fun _ _ _ h hc hs => h.ch hc hs, fun _ _ h _ hc => h.gr hc⟩
def wIt (e : TypeId) (ad : Addr) (v : Value) (xs : List Int) : It := ⟨fun k => k = ad.block ∨ v.ownBlock = some k, fun w => Wr e w ad v xs, fun _ _ h hk => by rcases hk with hk | hk; (rw [hk]; exact h.1.ce); exact h.2.1.ce hk, fun _ _ _ h hc hs => h.ch hc fun k i hk => hs k i hk, fun _ _ h _ hc => ⟨h.1.gr hc, h.2.1.gr hc, h.2.2⟩⟩
section
variable {P : Program} {w0 w : World} {F : List It}
theorem Fr.cell {ad : Addr} {cs : List Value} (h : Fr w0 w F) (i : Nat) (j : Nat) {u : Value} (hi : F[i]? = some (sIt ad cs)) (hj : cs[j]? = some u) : w.cell? (ad.add j) = some u := St.cell (h.get i hi) hj
theorem fAlloc {t : TypeId} {z : Value} {K : Addr → World → Prop} (h : Fr w0 w F) (hz : (P.info? t).bind (·.zero) = some z) (hk : ∀ ad w', Fr w0 w' (sIt ad z.cells.toList :: F) → K ad w') : gAlloc P t w K :=
  gAlloc_of hz fun ad w' he ha _ hS => hk ad w' (h.new he hS fun k hk => by have hk : k = ad.block := hk; subst ha; dsimp only at hk; omega)
theorem fBox {t : TypeId} {v : Value} {K : Addr → World → Prop} (h : Fr w0 w F) (hk : ∀ ad w', Fr w0 w' (sIt ad v.cells.toList :: F) → K ad w') : gBox P t v w K :=
  gBox_of fun ad w' he ha _ hS => hk ad w' (h.new he hS fun k hk => by have hk : k = ad.block := hk; subst ha; dsimp only at hk; omega)
theorem fStore {t : TypeId} {ad : Addr} {cs : List Value} {u : Value} {K : World → Prop} (h : Fr w0 w F) (i j : Nat) (hi : F[i]? = some (sIt ad cs)) (hk : ∀ w', Fr w0 w' (F.set i (sIt ad (cs.set j u))) → K w') (hj : j < cs.length := by exact Nat.le_of_ble_eq_true rfl) (hu : u.oneCell' = true := by rfl) (hcl : u.cells = #[u] := by rfl) (ht : flat1 P t = true := by kernel_rfl) :
    gStore P t (.pointer (some (ad.add j))) u w K :=
  gStore_st (h.get i hi) hj hu hcl (fun w' hc _ hS => hk w' (h.upd i hi hc (fun k _ hh => .inl (by
    have h0 : ad.spot = none := (show St w ad cs from h.get i hi).1
    have h1 := hh.1
    rw [Addr.add_none h0] at h1; exact h1)) hS fun k hk => .inl hk)) ht
theorem fStoreA {t : TypeId} {ad : Addr} {cs : List Value} {ds : Array Value} {K : World → Prop} (h : Fr w0 w F) (i : Nat) (hi : F[i]? = some (sIt ad cs)) (hk : ∀ w', Fr w0 w' (F.set i (sIt ad ds.toList)) → K w') (hj : ds.size = cs.length := by rfl) (h1 : ∀ u ∈ ds.toList, u.oneCell' = true := by simp [Value.oneCell']) (ht : sizeIs P t ds.size = true := by kernel_rfl) :
    gStore P t (.pointer (some ad)) (.agg ds) w K :=
  gStore_agg0 (h.get i hi) (by omega) h1 (fun w' hc _ hS => hk w' (h.upd i hi hc (fun k _ hh => .inl hh.1) (by
    have : cs.drop ds.size = [] := List.drop_of_length_le (by omega)
    rw [this, List.append_nil] at hS; exact hS) fun k hk => .inl hk)) ht
theorem fLoadA {t : TypeId} {cks : List Ck} {ad : Addr} {K : TF cks Prop} {cs : List Value} (h : Fr w0 w F) (i : Nat) (hi : F[i]? = some (sIt ad cs)) (hk : tapp False cks K cs) (hl : cs.length = cks.length := by rfl) (ht : aggB P t cs.length = true := by kernel_rfl) : gLoad P t (.part (.agg cks)) (.pointer (some ad)) w K :=
  gLoad_agg cs (fun j u hj => h.cell i j hi hj) hk hl ht
theorem fLoad_i {t : TypeId} {k : IntKind} {n : Int} {ad : Addr} {cs : List Value} {K : Int → Prop} (h : Fr w0 w F) (i j : Nat) (hi : F[i]? = some (sIt ad cs)) (hj : cs[j]? = some (.int k n)) (hk : K n) (ht : flat P t = true := by kernel_rfl) : gLoad P t (shI k) (.pointer (some (ad.add j))) w K := gLoad_i (h.cell i j hi hj) hk ht
theorem fLoad_v {t : TypeId} {v : Value} {ad : Addr} {cs : List Value} {K : Value → Prop} (h : Fr w0 w F) (i j : Nat) (hi : F[i]? = some (sIt ad cs)) (hj : cs[j]? = some v) (hk : K v) (ht : flat P t = true := by kernel_rfl) : gLoad P t shV (.pointer (some (ad.add j))) w K := gLoad_v (h.cell i j hi hj) hk ht
theorem fLoad_p {t : TypeId} {v : Option Addr} {ad : Addr} {cs : List Value} {K : Option Addr → Prop} (h : Fr w0 w F) (i j : Nat) (hi : F[i]? = some (sIt ad cs)) (hj : cs[j]? = some (.pointer v)) (hk : K v) (ht : flat P t = true := by kernel_rfl) : gLoad P t shP (.pointer (some (ad.add j))) w K := gLoad_p (h.cell i j hi hj) hk ht
theorem fLoad_b {t : TypeId} {v : Bool} {ad : Addr} {cs : List Value} {K : Bool → Prop} (h : Fr w0 w F) (i j : Nat) (hi : F[i]? = some (sIt ad cs)) (hj : cs[j]? = some (.bool v)) (hk : K v) (ht : flat P t = true := by kernel_rfl) : gLoad P t shB (.pointer (some (ad.add j))) w K := gLoad_b (h.cell i j hi hj) hk ht
theorem fLit_n {t : TypeId} {n : Nat} {k : IntKind} {parts : Array (Nat × Value)} {K : Value → World → Prop} (xs : List Int) (h : Fr w0 w F) (hp : parts.toList = enumV 0 (xs.map (.int k))) (hn : xs.length = n) (hr : inR k xs)
    (hk : ∀ v w', Fr w0 w' (oIt k (elOf P t) v xs :: F) → K v w') (hm : n ≤ 1000000 := by decide) (ht : sl1 P t = true := by kernel_rfl) : gLit P t n parts w K :=
  gLit_n xs hp hn hm hr (fun v w' he ho => hk v w' (h.new he (ho.low (Nat.zero_le _)) fun k hk => (ho.base hk).1)) ht
/-- Appending to a slice of one's own: it is another one. -/
theorem fApp {t ty : TypeId} {k : IntKind} {v y : Value} {xs ys : List Int} {K : Value → World → Prop} (h : Fr w0 w F) (i : Nat) (hi : F[i]? = some (oIt k (elOf P t) v xs)) (hy : Nm k w y ys) (hb : (xs.length + ys.length) * 8 ≤ 140737488355328)
    (hk : ∀ v' w', Fr w0 w' (F.set i (oIt k (elOf P t) v' (xs ++ ys))) → K v' w') (ht : slInt P t k = true := by kernel_rfl) : gApp P #[t, t] ty #[v, y] w K :=
  gApp_on (h.get i hi) hy hb (Nat.zero_le _) (fun v' w' ho hc hm => hk v' w' (h.upd i hi hc (fun k _ hh => .inl hh) ho fun k hk => by
    rcases hm with hm | hm
    · exact .inl (by have hk : v'.ownBlock = some k := hk; rw [hm] at hk; exact hk)
    · exact .inr (hm k hk))) ht
/-- Appending to nothing. -/
theorem fApp0 {t ty : TypeId} {k : IntKind} {y : Value} {ys : List Int} {K : Value → World → Prop} (h : Fr w0 w F) (hy : Nm k w y ys) (hb : ys.length * 8 ≤ 140737488355328)
    (hk : ∀ v' w', Fr w0 w' (oIt k (elOf P t) v' ys :: F) → K v' w') (ht : slInt P t k = true := by kernel_rfl) : gApp P #[t, t] ty #[.slice none 0 0, y] w K :=
  gApp_on (ON.nil k (elOf P t) w w.heap.size) hy (by simpa using hb) (Nat.le_refl _) (fun v' w' ho hc hm => hk v' w' (h.new (hc.mono fun _ _ _ hh => by cases hh) (by rw [List.nil_append] at ho; exact ho.low (Nat.zero_le _)) fun k hk => (ho.base hk).1)) ht
theorem on_new {k : IntKind} {e : TypeId} {B : Nat} {v : Value} {xs : List Int} (ho : ON k e w 0 v xs) (hb : ∀ g, v.ownBlock = some g → B ≤ g) : ON k e w B v xs := by
  refine ⟨⟨ho.1.1, ?_⟩, ho.2⟩
  rcases ho.1.2 with hn | ⟨g, cap, cur, rfl, _, r⟩
  · exact .inl hn
  · exact .inr ⟨g, cap, cur, rfl, hb g rfl, r⟩
theorem Fr.on {k : IntKind} {e : TypeId} {v : Value} {xs : List Int} (h : Fr w0 w F) (i : Nat) (hi : F[i]? = some (oIt k e v xs)) : ON k e w w0.heap.size v xs := by
  have ho : ON k e w 0 v xs := h.get i hi
  refine ⟨⟨ho.1.1, ?_⟩, ho.2⟩
  rcases ho.1.2 with hn | ⟨g, cap, cur, rfl, hb, r⟩
  · exact .inl hn
  · exact .inr ⟨g, cap, cur, rfl, (h.ft i hi (k := g) rfl).1, r⟩
theorem Fr.nm {k : IntKind} {e : TypeId} {v : Value} {xs : List Int} (h : Fr w0 w F) (i : Nat) (hi : F[i]? = some (oIt k e v xs)) : Nm k w v xs := (h.on i hi).nm
theorem Fr.nil0 (h : Fr w0 w F) (k : IntKind) (e : TypeId) : Fr w0 w (oIt k e (.slice none 0 0) [] :: F) :=
  h.new (Ch.refl _ w) (ON.nil k e w 0) fun _ hk => by cases hk
/-- A new slice that a call hands back. -/
theorem Fr.newO {k : IntKind} {e : TypeId} {w' : World} {v : Value} {xs : List Int} (h : Fr w0 w F) (he : Ev w w') (ho : ON k e w' w.heap.size v xs) : Fr w0 w' (oIt k e v xs :: F) :=
  h.new he (ho.low (Nat.zero_le _)) fun _ hk => (ho.base hk).1

/-! ### Structs of numbers, held against each other -/
def intSt (P : Program) (t : TypeId) (n : Nat) : Bool := match P.underlying t with
  | some (.struct fs) => Nat.beq fs.size n && (List.range n).all (fun i => match fs[i]? with
      | some f => Nat.beq f.offset i && (f.name != "_") && (match P.underlying f.type with | some (.int .i64) => true | _ => false)
      | none => false) && !P.stoodInHeld t && !P.eqGuardType P.depth t
  | _ => false
theorem run_eqFields_ints {d : Nat} {xs ys : List Int} (hl : xs.length = ys.length) : ∀ (fs : List Field) (i : Nat), (∀ j f, fs[j]? = some f → f.offset = i + j ∧ f.name ≠ "_" ∧ P.underlying f.type = some (.int .i64)) → i + fs.length = xs.length →
    (Op.eqFields (d + 1) (xs.map (Value.int .i64)).toArray (ys.map (Value.int .i64)).toArray fs).run P w = .ok (decide (xs.drop i = ys.drop i)) w
  | [], i, _, h => by
    have h1 : xs.drop i = [] := List.drop_of_length_le (by simp at h; omega)
    have h2 : ys.drop i = [] := List.drop_of_length_le (by simp at h; omega)
    simp [Op.eqFields, h1, h2]
  | f :: fs, i, hf, h => by
    obtain ⟨h1, h2, h3⟩ := hf 0 f rfl
    simp only [List.length_cons] at h
    have hx : i < xs.length := by omega
    have hy : i < ys.length := by omega
    have ih := run_eqFields_ints (d := d) hl fs (i + 1) (fun j f hj => by have := hf (j + 1) f (by simpa using hj); rw [show i + 1 + j = i + (j + 1) by omega]; exact this) (by omega)
    have pt : ∀ {zs : List Int} (hz : i < zs.length), (part f.type (zs.map (Value.int .i64)).toArray f.offset).run P w = .ok (.int .i64 zs[i]) w := fun {zs} hz => by
      rw [h1]; unfold part
      simp [isAgg, run_underlying h3, hz]
    unfold Op.eqFields
    rw [if_pos h2]
    simp only [Sem.run_bind, pt hx, pt hy, Result.andThen_ok, run_equalIn_int w d _ _ _ _ _ h3, Sem.run_ite]
    rw [List.drop_eq_getElem_cons hx, List.drop_eq_getElem_cons hy]
    by_cases e : xs[i] = ys[i]
    · rw [show (xs[i] == ys[i]) = true by simpa using e]
      simp only [Bool.not_true, Bool.false_eq_true, if_false, ih, e, List.cons.injEq, true_and]
    · rw [show (xs[i] == ys[i]) = false by simpa using e]
      simp only [Bool.not_false, if_true, Sem.run_pure]
      rw [decide_eq_false]
      intro hc; injection hc with hc _; exact e hc
theorem gEq_ints {t : TypeId} {cs bs : Array Value} {K : Bool → Prop} (xs ys : List Int) (ha : cs = (xs.map (Value.int .i64)).toArray) (hb : bs = (ys.map (Value.int .i64)).toArray) (hl : xs.length = ys.length) (hk : K (decide (xs = ys))) (ht : intSt P t xs.length = true := by kernel_rfl) : gEq P .eql t (.agg cs) (.agg bs) K := by
  subst ha; subst hb
  unfold intSt at ht
  split at ht
  · rename_i fs hu
    simp only [Bool.and_eq_true, List.all_eq_true, List.mem_range, Bool.not_eq_true'] at ht
    obtain ⟨⟨⟨h1, h2⟩, h3⟩, h4⟩ := ht
    have h1 := Nat.eq_of_beq_eq_true h1
    have hfo : P.fieldsOf t = fs := by unfold Program.fieldsOf; rw [hu]
    have hu' : P.underlying t = some (.struct (P.fieldsOf t)) := by rw [hfo]; exact hu
    refine ⟨decide (xs = ys), fun cx cy w => ⟨run_eqGuard_agg w .eql t cx cy _ _ h4, ?_⟩, hk⟩
    rw [run_eql_struct, show (10000 : Nat) = 9998 + 1 + 1 from rfl, run_equalIn_struct w (9998 + 1) t _ _ hu' h3, hfo]
    rw [run_eqFields_ints hl fs.toList 0 (fun j f hj => ?_) (by simp [h1])]
    · simp
    · rw [Array.getElem?_toList] at hj
      have hlt : j < xs.length := by rw [← h1]; exact (Array.getElem?_eq_some_iff.1 hj).1
      have := h2 j hlt
      rw [hj] at this
      simp only [Bool.and_eq_true] at this
      obtain ⟨⟨e1, e2⟩, e3⟩ := this
      refine ⟨by rw [Nat.zero_add]; exact Nat.eq_of_beq_eq_true e1, by simpa using e2, ?_⟩
      split at e3
      · rename_i he; exact he
      · cases e3
  · cases ht
theorem gEq_bool {t : TypeId} {a b : Bool} {K : Bool → Prop} (hk : K (a == b)) (ht : (match P.underlying t with | some .bool => true | _ => false) = true := by kernel_rfl) : gEq P .eql t (.bool a) (.bool b) K := by
  have hu : P.underlying t = some .bool := by
    split at ht
    · rename_i h; exact h
    · cases ht
  refine ⟨a == b, fun cx cy w => ⟨rfl, ?_⟩, hk⟩
  have hb : binOp .eql t (.bool a) (.bool b) = (do pure (.bool (← Op.equal t (.bool a) (.bool b)))) := rfl
  rw [hb]; simp only [Sem.run_bind, run_equal_bool w t a b hu, Result.andThen_ok, Sem.run_pure]
theorem gNe_bool {t : TypeId} {a b : Bool} {K : Bool → Prop} (hk : K (!(a == b))) (ht : (match P.underlying t with | some .bool => true | _ => false) = true := by kernel_rfl) : gEq P .neq t (.bool a) (.bool b) K := by
  have hu : P.underlying t = some .bool := by
    split at ht
    · rename_i h; exact h
    · cases ht
  refine ⟨!(a == b), fun cx cy w => ⟨rfl, ?_⟩, hk⟩
  have hb : binOp .neq t (.bool a) (.bool b) = (do pure (.bool (!(← Op.equal t (.bool a) (.bool b))))) := rfl
  rw [hb]; simp only [Sem.run_bind, run_equal_bool w t a b hu, Result.andThen_ok, Sem.run_pure]
end
end Go.Proofs.YtjmdoflcmipejaaV

/- Nodes, sixth part: literals of structs, places of arrays, []byte of constant texts, appending texts. -/
namespace Go.Proofs.YtjmdoflcmipejaaV
open Go Go.RowKit
theorem getD_app_l {α : Type} {l r : List α} {i : Nat} {d : α} (h : i < l.length) : (l ++ r).getD i d = l.getD i d := by simp [List.getD_eq_getElem?_getD, List.getElem?_append_left h]
theorem getD_app_r {α : Type} {l r : List α} {i : Nat} {d : α} (h : l.length ≤ i) : (l ++ r).getD i d = r.getD (i - l.length) d := by simp [List.getD_eq_getElem?_getD, List.getElem?_append_right h]
section
variable {P : Program} {w0 w : World} {F : List It}
/-! ### Literals of structs -/
theorem setAll_size (vs : List Value) : ∀ (c : Array Value) (a : Nat), (setAll c a vs).size = c.size := by
  induction vs with
  | nil => intros; rfl
  | cons v r ih => intro c a; simp only [setAll]; rw [ih]; simp
theorem setAll_app (xs ys : List Value) : ∀ (c : Array Value) (a : Nat), setAll c a (xs ++ ys) = setAll (setAll c a xs) (a + xs.length) ys := by
  induction xs with
  | nil => intros; rfl
  | cons v r ih => intro c a; simp only [List.cons_append, setAll]; rw [ih]; simp only [List.length_cons]; rw [Nat.add_right_comm, Nat.add_assoc]
def enumA : Nat → List (List Value) → List (Nat × Value)
  | _, [] => []
  | i, v :: r => (i, .agg v.toArray) :: enumA (i + 1) r
theorem fill_enumA (sz : Nat) (vss : List (List Value)) (h1 : ∀ v ∈ vss, v.length = sz) : ∀ (j : Nat) (cells : Array Value), (j + vss.length) * sz ≤ cells.size → Instr.fill (fun i => some (i * sz, sz)) cells (enumA j vss) = some (setAll cells (j * sz) vss.flatten) := by
  induction vss with
  | nil => intros; rfl
  | cons v r ih =>
    intro j cells h
    have hv := h1 v (by simp)
    have hle : j * sz + sz ≤ cells.size := by
      have : (j + 1) * sz ≤ (j + (v :: r).length) * sz := Nat.mul_le_mul_right _ (by simp)
      rw [Nat.succ_mul] at this; omega
    simp only [enumA, Instr.fill]
    rw [if_neg (by simp [Value.cells]; omega), fill_step, ih (fun v hv => h1 v (by simp [hv])) (j + 1) _ (by rw [setAll_size]; simp only [List.length_cons] at h; rwa [show j + 1 + r.length = j + (r.length + 1) by omega])]
    rw [List.flatten_cons, setAll_app, hv, Nat.succ_mul]; rfl
theorem fLit_sz {t : TypeId} {n : Nat} {parts : Array (Nat × Value)} {K : Value → World → Prop} (sz : Nat) (vss : List (List Value)) (h : Fr w0 w F) (hp : parts.toList = enumA 0 vss) (hn : vss.length = n) (h1 : ∀ v ∈ vss, v.length = sz)
    (hk : ∀ ad w', Fr w0 w' (sIt ad vss.flatten :: F) → K (.slice (some ad) n n) w') (hm : n * sz ≤ 1000000 := by decide) (ht : slSz P t sz = true := by kernel_rfl) (hz : (P.info? (elOf P t)).bind (·.zero) ≠ none := by decide) : gLit P t n parts w K := by
  obtain ⟨hu, i, hi, hsz⟩ := slSz_ok ht
  have hz' : ∃ z, i.zero = some z := by
    rw [hi] at hz; simp only [Option.bind_some] at hz
    cases hh : i.zero with
    | none => exact absurd hh hz
    | some z => exact ⟨z, rfl⟩
  obtain ⟨z, hz⟩ := hz'
  have hfl : vss.flatten.length = n * sz := by
    subst hn; clear hp hk hm
    induction vss with
    | nil => simp
    | cons v r ih => simp only [List.flatten_cons, List.length_append, h1 v (by simp), ih (fun v hv => h1 v (by simp [hv])), List.length_cons, Nat.succ_mul]; omega
  obtain ⟨c0, hc0, hrun⟩ : ∃ c0 : Array Value, c0.size = n * sz ∧ (Instr.buildSlice t n parts).run P w = .ok (.slice (some ⟨w.heap.size, 0, none⟩) n n) (w.alloc (.cells (setAll c0 0 vss.flatten) (elOf P t))) := by
    simp only [Instr.buildSlice, Sem.run_bind, run_underlying hu, Result.andThen_ok, sizeOf, typeInfo, run_program, hi, Sem.run_pure, hsz]
    rw [if_neg (by omega)]
    by_cases h0 : n * sz = 0
    · refine ⟨#[], by simp [h0], ?_⟩
      have he : ∀ f : Nat → Value, Array.map f (Array.range 0) = #[] := fun f => Array.eq_empty_of_size_eq_zero (by simp)
      rw [hp, h0]
      simp only [if_true, Sem.run_bind, Sem.run_pure, Result.andThen_ok, he]
      rw [fill_enumA sz vss h1 0 #[] (by rw [Nat.zero_add, hn, h0]; exact Nat.zero_le _)]
      simp [newRow]
    · refine ⟨(Array.range (n * sz)).map (z.cells[· % z.cells.size]!), by simp, ?_⟩
      rw [if_neg h0]
      simp only [Sem.run_bind, zeroValue, typeInfo, run_program, Result.andThen_ok, hi, hz, Sem.run_pure]
      rw [hp, fill_enumA sz vss h1 0 _ (by simp [hn])]
      simp [newRow]
  have hl := setAll_list vss.flatten 0 c0 (by omega)
  simp only [List.take_zero, List.nil_append] at hl
  refine ⟨_, _, hrun, hk _ _ (h.new (jt := sIt ⟨w.heap.size, 0, none⟩ vss.flatten) (Ev.alloc w _) ?_ fun k hk => by have hk : k = w.heap.size := hk; omega)⟩
  have := St.alloc w (setAll c0 0 vss.flatten) (elOf P t)
  rwa [hl] at this
/-- The place of an element, as an address. -/
theorem gIdx_lit {t : TypeId} {ki : IntKind} {sz n c : Nat} {ad : Addr} {i : Int} {K : Addr → Prop} (j : Nat) (hij : i = (j : Int)) (h1 : j < n) (hk : K (ad.add (j * sz))) (ht : slSz P t sz = true := by kernel_rfl) : gIdx P t (.slice (some ad) n c) (.int ki i) K := by
  obtain ⟨hu, ii, hi, hsz⟩ := slSz_ok ht
  subst hij
  refine ⟨ad.add (j * sz), fun w => ?_, hk⟩
  simp only [Instr.indexAt, asIntOf, Sem.run_bind, Sem.run_pure, Result.andThen_ok, run_underlying hu]
  rw [if_pos ⟨by omega, by omega⟩]
  simp [sizeOf, typeInfo, hi, hsz]
def arSz (P : Program) (t : TypeId) (n sz : Nat) : Bool := match P.underlying t with
  | some (.array m e) => Nat.beq m n && (match P.info? e with | some i => Nat.beq i.size sz | none => false)
  | _ => false
theorem gIdx_ar {t : TypeId} {ki : IntKind} {sz : Nat} {ad : Addr} {i : Int} {K : Addr → Prop} (n j : Nat) (hij : i = (j : Int)) (h1 : j < n) (hk : K (ad.add (j * sz))) (ht : arSz P t n sz = true := by kernel_rfl) : gIdx P t (.pointer (some ad)) (.int ki i) K := by
  unfold arSz at ht
  split at ht
  · rename_i m e hu
    simp only [Bool.and_eq_true] at ht
    have hm := Nat.eq_of_beq_eq_true ht.1
    subst hm; subst hij
    replace ht := ht.2
    split at ht
    · rename_i ii hi
      refine ⟨ad.add (j * sz), fun w => ?_, hk⟩
      simp only [Instr.indexAt, asIntOf, Sem.run_bind, Sem.run_pure, Result.andThen_ok, run_underlying hu, Instr.sureAddr]
      rw [if_pos ⟨by omega, by omega⟩]
      simp [sizeOf, typeInfo, hi, Nat.eq_of_beq_eq_true ht]
    · cases ht
  · cases ht
theorem gIdx_ar1 {t : TypeId} {ki : IntKind} {ad : Addr} {i : Int} {K : Addr → Prop} (n j : Nat) (hij : i = (j : Int)) (h1 : j < n) (hk : K (ad.add j)) (ht : arSz P t n 1 = true := by kernel_rfl) : gIdx P t (.pointer (some ad)) (.int ki i) K :=
  gIdx_ar (sz := 1) n j hij h1 (by rwa [Nat.mul_one]) ht
/-! ### []byte of a constant text -/
/-- Its row is marked as one that stands for a text: it has no room. -/
def Cn (e : TypeId) (w : World) (v : Value) (xs : List Int) : Prop := ∃ g, v = .slice (some ⟨g, 0, none⟩) xs.length xs.length ∧ w.heap[g]? = some (.cells (xs.map (Value.int .u8)).toArray e (xs.length, xs.length + 1)) ∧ inR .u8 xs
theorem Cn.ch {e : TypeId} {S : SS} {w' : World} {v : Value} {xs : List Int} (h : Cn e w v xs) (hc : Ch S w w') (hs : ∀ k i, v.ownBlock = some k → ¬ S k i) : Cn e w' v xs := by
  obtain ⟨g, rfl, h1, h2⟩ := h
  exact ⟨g, rfl, by rw [hc.blk g (hlt h1) fun i => hs g i rfl]; exact h1, h2⟩
theorem Cn.lt {e : TypeId} {v : Value} {xs : List Int} (h : Cn e w v xs) {k : Nat} (hk : v.ownBlock = some k) : k < w.heap.size := by
  obtain ⟨g, rfl, h1, h2⟩ := h
  have : g = k := by simpa [Value.ownBlock] using hk
  subst this; exact hlt h1
theorem Cn.nm {e : TypeId} {v : Value} {xs : List Int} (h : Cn e w v xs) : Nm .u8 w v xs := by
  obtain ⟨g, rfl, h1, h2⟩ := h
  refine ⟨⟨some ⟨g, 0, none⟩, xs.length, rfl, Nat.le_refl _, by simp, fun ad ha j u hj => ?_, fun h => by cases h⟩, h2⟩
  injection ha with ha; subst ha
  rw [Addr.add_lit]
  simp [World.cell?, h1, hj]
def cIt (e : TypeId) (v : Value) (xs : List Int) : It := ⟨fun b => v.ownBlock = some b, fun w => Cn e w v xs, fun _ _ h hk => by
    obtain ⟨g, rfl, h1, _⟩ := h
    simp [Value.ownBlock] at hk; subst hk; exact ⟨_, _, _, h1⟩, fun _ _ _ h hc hs => h.ch hc hs, fun _ _ h _ hc => by
    obtain ⟨g, rfl, h1, h2⟩ := h; exact ⟨g, rfl, by rw [hc _ _ _ _ h1]; exact h1, h2⟩⟩
def slU8 (P : Program) (t : TypeId) : Bool := match P.underlying t with
  | some (.slice e) => (match P.underlying e with | some (.int .u8) => true | _ => false) && (match P.info? e with | some i => Nat.beq i.size 1 && i.zero.isSome | none => false)
  | _ => false
theorem slU8_ok {t : TypeId} (h : slU8 P t = true) : P.underlying t = some (.slice (elOf P t)) ∧ P.underlying (elOf P t) = some (.int .u8) ∧ ∃ i z, P.info? (elOf P t) = some i ∧ i.size = 1 ∧ i.zero = some z := by
  unfold slU8 at h
  split at h
  · rename_i e he
    have hel : elOf P t = e := by unfold elOf; rw [he]
    rw [hel]
    simp only [Bool.and_eq_true] at h
    obtain ⟨h1, h2⟩ := h
    split at h1
    · rename_i hu
      split at h2
      · rename_i i hi
        simp only [Bool.and_eq_true] at h2
        obtain ⟨z, hz⟩ := Option.isSome_iff_exists.1 h2.2
        exact ⟨he, hu, i, z, hi, Nat.eq_of_beq_eq_true h2.1, hz⟩
      · cases h2
    · cases h1
  · cases h
theorem fLitC {t : TypeId} {n : Nat} {parts : Array (Nat × Value)} {K : Value → World → Prop} (xs : List Int) (h : Fr w0 w F) (hp : parts.toList = enumV 0 (xs.map (.int .u8))) (hn : xs.length = n) (hr : inR .u8 xs)
    (hk : ∀ v w', Fr w0 w' (cIt (elOf P t) v xs :: F) → K v w') (hm : n ≤ 1000000 := by decide) (ht : slU8 P t = true := by kernel_rfl) : gLit P t n parts w fun v w1 => gConv P t t shV v w1 K := by
  obtain ⟨hu, hue, i, z, hi, hsz, hz⟩ := slU8_ok ht
  obtain ⟨c0, hc0, hrun⟩ : ∃ c0 : Array Value, c0.size = n ∧ (Instr.buildSlice t n parts).run P w = .ok (.slice (some ⟨w.heap.size, 0, none⟩) n n) (w.alloc (.cells (setAll c0 0 (xs.map (.int .u8))) (elOf P t))) := by
    simp only [Instr.buildSlice, Sem.run_bind, run_underlying hu, Result.andThen_ok, sizeOf, typeInfo, run_program, hi, Sem.run_pure, hsz, Nat.mul_one]
    rw [if_neg (by omega)]
    by_cases h0 : n = 0
    · subst h0
      have : xs = [] := List.eq_nil_of_length_eq_zero hn
      subst this
      refine ⟨#[], rfl, ?_⟩
      have he : ∀ f : Nat → Value, Array.map f (Array.range 0) = #[] := fun f => Array.eq_empty_of_size_eq_zero (by simp)
      rw [hp]
      simp [enumV, Instr.fill, newRow, setAll, he]
    · refine ⟨(Array.range n).map (z.cells[· % z.cells.size]!), by simp, ?_⟩
      rw [if_neg h0]
      simp only [Sem.run_bind, zeroValue, typeInfo, run_program, Result.andThen_ok, hi, hz, Sem.run_pure]
      rw [hp, show (fun i => some (i, 1)) = (fun i => some (i * 1, 1)) by funext i; rw [Nat.mul_one], fill_enum _ (fun v hv => by obtain ⟨x, _, rfl⟩ := List.mem_map.1 hv; rfl) 0 _ (by simp; omega)]
      simp [newRow]
  have hl := setAll_list (xs.map (.int .u8)) 0 c0 (by simp; omega)
  simp only [List.take_zero, List.nil_append] at hl
  have hc : setAll c0 0 (xs.map (.int .u8)) = (xs.map (Value.int .u8)).toArray := by have := congrArg List.toArray hl; simpa using this
  rw [hc] at hrun
  have hconv := Go.Lib.run_convert_bytes_const (P := P) w t (elOf P t) (xs.map (Value.int .u8)).toArray n n hu hue
  have hs : (xs.map (Value.int .u8)).toArray.size = xs.length := by simp
  rw [hs] at hconv
  refine ⟨_, _, hrun, _, _, hconv, hk _ _ (h.new (Ev.alloc w _) ⟨w.heap.size, by rw [hn], heap_alloc_new w _, hr⟩ fun k hk => ?_)⟩
  have : w.heap.size = k := by simpa [cIt, Value.ownBlock] using hk
  omega
/-- What is put behind it goes into new memory. -/
theorem fAppC {t ty : TypeId} {v y : Value} {xs ys : List Int} {K : Value → World → Prop} (h : Fr w0 w F) (i : Nat) (hi : F[i]? = some (cIt (elOf P t) v xs)) (hy : Nm .u8 w y ys) (h0 : ys ≠ []) (hb : (xs.length + ys.length) * 8 ≤ 140737488355328)
    (hk : ∀ v' w', Fr w0 w' (oIt .u8 (elOf P t) v' (xs ++ ys) :: F) → K v' w') (ht : slInt P t .u8 = true := by kernel_rfl) : gApp P #[t, t] ty #[v, y] w K := by
  obtain ⟨hu, ii, hii, hsz, hby, hby1, hz⟩ := slInt_ok ht
  have hC : Cn (elOf P t) w v xs := h.get i hi
  have hN := hC.nm
  obtain ⟨g, rfl, hg, hr⟩ := hC
  obtain ⟨⟨a, c, rfl, hyc, hl, hcells, hnil⟩, hry⟩ := hy
  have hlen : ys.length ≠ 0 := fun e => h0 (List.eq_nil_of_length_eq_zero e)
  cases a with
  | none => exact absurd (hnil rfl) hlen
  | some ad =>
    have holds : ∀ j u, (xs.map (Value.int .u8))[j]? = some u → w.cell? ((⟨g, 0, none⟩ : Addr).add j) = some u := by
      obtain ⟨⟨a, c, hv, _, _, h3, _⟩, _⟩ := hN
      injection hv with hv _ _; subst hv
      exact h3 _ rfl
    have hbb : (xs.length + ys.length) * ii.bytes ≤ 140737488355328 := Nat.le_trans (Nat.mul_le_mul_left _ hby) hb
    have hrun := run_append_grow (P := P) w t ty (elOf P t) ii (.int .u8 0) hu hii hz ⟨g, 0, none⟩ xs.length xs.length (xs.map (.int .u8)) (by simp [hsz]) holds ad ys.length c (ys.map (.int .u8)) (by simp [hsz]) (hcells ad rfl) (by omega) (by omega) (growslice_fits (by omega) hbb)
    have hge := grownCap_ge w (xs.length + ys.length) xs.length (elOf P t)
    have hcm : grownCap w (xs.length + ys.length) xs.length (elOf P t) ≤ maxLen := grownCap_le_maxLen w _ _ _ (by unfold maxLen; omega)
    refine ⟨_, _, hrun, hk _ _ (h.new (Ev.trans (Ev.drew0 w) (Ev.alloc w.drew _)) ⟨⟨by simp, .inr ⟨w.heap.size, _, _, by simp, Nat.zero_le _, heap_alloc_new w.drew _, by simpa using hge, hcm, ?_, ?_⟩⟩, hr.append hry⟩ fun k hk => ?_)⟩
    · simp [Builtin.zeroCells, Value.cells]; omega
    · simp only [Array.toList_append, List.append_assoc, List.length_append, Nat.mul_one, List.map_append]
      rw [← List.append_assoc, List.take_left' (by simp)]
    · have : w.heap.size = k := by simpa [oIt, Value.ownBlock] using hk
      omega
/-- One of its places is written. -/
theorem fSetC {t te : TypeId} {ki : IntKind} {v : Value} {xs : List Int} {i x : Int} {K : World → Prop} (h : Fr w0 w F) (q : Nat) (hq : F[q]? = some (cIt (elOf P t) v xs)) (j : Nat) (hij : i = (j : Int)) (hj : j < xs.length) (hx : IntKind.u8.min ≤ x ∧ x ≤ IntKind.u8.max)
    (hk : ∀ w', Fr w0 w' (F.set q (cIt (elOf P t) v (xs.set j x))) → K w') (ht : slSz P t 1 = true := by kernel_rfl) (hte : flat1 P te = true := by kernel_rfl) : gIdx P t v (.int ki i) fun ad => gStore P te (.pointer (some ad)) (.int .u8 x) w K := by
  have hC : Cn (elOf P t) w v xs := h.get q hq
  obtain ⟨g, rfl, hg, hr⟩ := hC
  refine gIdx_lit (sz := 1) j hij hj ?_ ht
  rw [Nat.mul_one, Addr.add_lit, Nat.zero_add]
  have hc : w.cell? ⟨g, j, none⟩ = some (.int .u8 xs[j]) := by simp [World.cell?, hg, hj]
  have hf : w.frozen? ⟨g, j, none⟩ = false := by simp [World.frozen?, hg]; omega
  refine ⟨w.setCell ⟨g, j, none⟩ (.int .u8 x), run_storeAt hc hf rfl rfl hte, hk _ (h.upd q hq (setCell_ch w ⟨g, j, none⟩ (.int .u8 x)) (fun k i hh => .inl (by show some g = some k; rw [hh.1])) ⟨g, by simp, ?_, fun y hy => ?_⟩ fun k hk => .inl hk)⟩
  · simp only [World.setCell, Array.getElem?_modify, if_true, hg, Option.map_some, List.length_set]
    simp
  · rcases List.mem_or_eq_of_mem_set hy with hy | rfl
    · exact hr y hy
    · exact hx
/-! ### Texts put behind bytes -/
/-- A text's bytes. -/
def sOf (s : ByteArray) : List Int := s.data.toList.map fun b => (b.toNat : Int)
theorem sOf_len (s : ByteArray) : (sOf s).length = s.size := by unfold sOf; rw [List.length_map, Array.length_toList]; rfl
theorem sOf_u8 (s : ByteArray) : inR .u8 (sOf s) := fun x hx => by
  obtain ⟨b, _, rfl⟩ := List.mem_map.1 hx
  have := b.toNat_lt
  simp [IntKind.min, IntKind.max, IntKind.signed, IntKind.bits]; omega
theorem sOf_cells (s : ByteArray) : Go.Lib.strCells s = (sOf s).map (Value.int .u8) := by unfold Go.Lib.strCells sOf; rw [List.map_map]; rfl
theorem sOf_bsOf {xs : List Int} (h : inR .u8 xs) : sOf (bsOf xs) = xs := by
  unfold sOf bsOf
  simp only [List.map_map]
  conv => rhs; rw [← List.map_id xs]
  refine List.map_congr_left fun x hx => ?_
  have := h.u8 hx
  simp only [Function.comp_apply, id_eq, UInt8.toNat_ofNat']
  omega
theorem bsOf_sOf (s : ByteArray) : bsOf (sOf s) = s := by
  obtain ⟨⟨l⟩⟩ := s
  unfold sOf bsOf
  simp [Function.comp_def]
def strB (P : Program) (t : TypeId) : Bool := match P.underlying t with
  | some .string => true
  | _ => false
theorem strB_ok {t : TypeId} (h : strB P t = true) : P.underlying t = some .string := by
  unfold strB at h; split at h
  · rename_i hh; exact hh
  · cases h
theorem gIndex_s {t : TypeId} {k : IntKind} {s : ByteArray} {j : Nat} {i : Int} {K : Int → Prop} (hij : i = (j : Int)) (hj : j < s.size) (hk : K (rd (sOf s) i)) (ht : strB P t = true := by kernel_rfl) : gIndex P t (shI .u8) (.string s) (.int k i) K := by
  subst hij
  have hu := strB_ok ht
  refine ⟨rd (sOf s) (j : Int), fun w => ?_, hk⟩
  have hg : s[j]? = some s[j] := by simp [hj]
  simp only [Instr.index, asIntOf, Sem.run_bind, Sem.run_pure, Result.andThen_ok, run_underlying hu]
  rw [if_pos (by omega), Int.toNat_natCast, hg]
  show Result.ok (Value.int .u8 (s[j].toNat : Int)) w = .ok (Value.int .u8 (rd (sOf s) (j : Int))) w
  have : rd (sOf s) (j : Int) = (s[j].toNat : Int) := by
    rw [rd_nat _ _ (by rw [sOf_len]; exact hj)]
    simp [sOf]; rfl
  rw [this]
theorem gApp_s {t u ty : TypeId} {B : Nat} {v : Value} {xs : List Int} {s : ByteArray} {K : Value → World → Prop} (h : ON .u8 (elOf P t) w B v xs) (hb : (xs.length + s.size) * 8 ≤ 140737488355328) (hB : B ≤ w.heap.size)
    (hk : ∀ v' w', ON .u8 (elOf P t) w' B v' (xs ++ sOf s) → Ch (Ob v) w w' → Moved w v v' → K v' w') (ht : slInt P t .u8 = true := by kernel_rfl) (hus : strB P u = true := by kernel_rfl) : gApp P #[t, u] ty #[v, .string s] w K := by
  obtain ⟨hu, i, hi, hsz, hby, hby1, hz⟩ := slInt_ok ht
  have hus := strB_ok hus
  have hbb : (xs.length + s.size) * i.bytes ≤ 140737488355328 := Nat.le_trans (Nat.mul_le_mul_left _ hby) hb
  have hc8 := sOf_cells s
  have hR := h.2.append (sOf_u8 s)
  have evd : ∀ c e, Ev w (w.drew.alloc (.cells c e)) := fun c e => Ev.trans (Ev.drew0 w) (Ev.alloc w.drew _)
  have grown : ∀ (old : Nat), old < xs.length + s.size → ON .u8 (elOf P t) (w.drew.alloc (.cells ((xs.map (Value.int .u8)).toArray ++ (Go.Lib.strCells s).toArray ++ Builtin.zeroCells (Value.int .u8 0).cells (grownCap w (xs.length + s.size) old (elOf P t) - (xs.length + s.size))) (elOf P t))) B
      (.slice (some ⟨w.heap.size, 0, none⟩) (xs.length + s.size) (grownCap w (xs.length + s.size) old (elOf P t))) (xs ++ sOf s) := fun old ho => by
    have hge := grownCap_ge w (xs.length + s.size) old (elOf P t)
    have hcm : grownCap w (xs.length + s.size) old (elOf P t) ≤ maxLen := grownCap_le_maxLen w _ _ _ (by unfold maxLen; omega)
    have hsl := sOf_len s
    refine ⟨⟨by simp, .inr ⟨w.heap.size, _, _, by simp [hsl], hB, heap_alloc_new w.drew _, by simpa [hsl] using hge, hcm, ?_, ?_⟩⟩, hR⟩
    · simp [Builtin.zeroCells, Value.cells, Go.Lib.strCells_length]; omega
    · simp only [Array.toList_append, List.append_assoc, List.length_append, Nat.mul_one, List.map_append, hc8]
      rw [← List.append_assoc, List.take_left' (by simp)]
  rcases h.1.2 with ⟨rfl, hn0⟩ | ⟨g, cap, cur, rfl, hbg, hgg, hn, hm', hcs, htk⟩
  · have hx : xs = [] := List.eq_nil_of_length_eq_zero hn0
    subst hx
    by_cases h0 : 0 < s.size
    · have hr2 := run_append_nil_string (P := P) w t u ty _ i _ hu hus hi hz s h0 (by omega) (Nat.le_trans (Nat.mul_le_mul_right _ (Nat.le_add_left _ _)) (Nat.le_trans hbb (by decide)))
      have hg2 := grown 0 (by omega)
      simp only [List.length_nil, Nat.zero_add, List.map_nil, Array.empty_append] at hg2
      have e1 : (Go.Lib.strCells s).toArray = s.data.map (fun b => Value.int .u8 b.toNat) := by apply Array.ext'; simp [Go.Lib.strCells]
      rw [e1] at hg2
      simp only [List.nil_append] at hg2 hk
      refine ⟨_, _, hr2, hk _ _ (by simpa using hg2) ((evd _ _).mono fun _ _ _ hh => hh.elim) (.inr fun g' hg' => ?_)⟩
      have : w.heap.size = g' := by simpa [Value.ownBlock] using hg'
      omega
    · have hs0 : s.size = 0 := by omega
      have hso : sOf s = [] := List.eq_nil_of_length_eq_zero (by rw [sOf_len, hs0])
      refine ⟨.slice none 0 0, w, ?_, hk _ _ (by rw [hso]; exact h) (Ch.refl _ w) (.inl rfl)⟩
      simp [Builtin.append_, run_underlying hu, run_underlying hus, sizeOf, typeInfo, hi, Builtin.lenOf, Builtin.firstCells, hs0]
  · by_cases hroom : xs.length + s.size ≤ cap
    · have hr2 := Go.Lib.run_append_room_string (P := P) w t u ty _ i hu hus hi hsz g xs.length cap cur hgg s hroom (by omega)
      refine ⟨_, _, hr2, hk _ _ ⟨⟨by simp, .inr ⟨g, cap, _, by simp [sOf_len], hbg, setRow_heap w g cur _ _ _ hgg, by simpa [sOf_len] using hroom, hm', ?_, ?_⟩⟩, hR⟩ ?_ (.inl rfl)⟩
      · simp [Go.Lib.strCells_length]; omega
      · simp only [List.length_append, Nat.mul_one, List.map_append, ← hc8]
        rw [List.take_left' (by simp [Go.Lib.strCells_length, sOf_len]; omega)]
        rw [Nat.mul_one] at htk; rw [htk]
      · refine ⟨rfl, rfl, rfl, by simp, fun k hk hn => setRow_other w g k _ fun e => hn 0 (by rw [e]; rfl), fun k c' e' f hkk => ?_, fun k o hk ho => by rw [setRow_other w g k _ (ne_cells hgg hk ho)]; exact hk⟩
        by_cases hkg : k = g
        · subst hkg
          rw [hgg] at hkk
          injection hkk with hkk; injection hkk with h1 h2 h3
          subst h1; subst h2; subst h3
          exact ⟨_, setRow_heap w k cur _ _ _ hgg, by simp [Go.Lib.strCells_length]; omega, fun i hi => absurd rfl hi⟩
        · exact ⟨c', by rw [setRow_other w g k _ hkg]; exact hkk, rfl, fun _ _ => rfl⟩
    · have holds : ∀ j u, (xs.map (Value.int .u8))[j]? = some u → w.cell? ((⟨g, 0, none⟩ : Addr).add j) = some u := h.1.cells (g := g) rfl
      have hr2 := Go.Lib.run_append_grow_string (P := P) w t u ty _ i _ hu hus hi hz ⟨g, 0, none⟩ xs.length cap (xs.map (.int .u8)) (by simp [hsz]) holds s (by omega) (by omega) (growslice_fits (by omega) hbb)
      refine ⟨_, _, hr2, hk _ _ (grown cap (by omega)) ((evd _ _).mono fun _ _ _ hh => hh.elim) (.inr fun g' hg' => ?_)⟩
      have : w.heap.size = g' := by simpa [Value.ownBlock] using hg'
      omega
theorem fAppS {t u ty : TypeId} {v : Value} {xs : List Int} {s : ByteArray} {K : Value → World → Prop} (h : Fr w0 w F) (i : Nat) (hi : F[i]? = some (oIt .u8 (elOf P t) v xs)) (hb : (xs.length + s.size) * 8 ≤ 140737488355328)
    (hk : ∀ v' w', Fr w0 w' (F.set i (oIt .u8 (elOf P t) v' (xs ++ sOf s))) → K v' w') (ht : slInt P t .u8 = true := by kernel_rfl) (hus : strB P u = true := by kernel_rfl) : gApp P #[t, u] ty #[v, .string s] w K :=
  gApp_s (h.get i hi) hb (Nat.zero_le _) (fun v' w' ho hc hm => hk v' w' (h.upd i hi hc (fun k _ hh => .inl hh) ho fun k hk => by
    rcases hm with hm | hm
    · exact .inl (by have hk : v'.ownBlock = some k := hk; rw [hm] at hk; exact hk)
    · exact .inr (hm k hk))) ht hus
end
end Go.Proofs.YtjmdoflcmipejaaV
