import Derived.Test.YtiimlfgjnapgjaaGreatDoorVPart4
set_option linter.unusedVariables false
set_option linter.unusedSimpArgs false
/- Functions in their shallow form: what is shown of it holds of a call. -/
namespace Go.Proofs.YtiimlfgjnapgjaaGreatDoorV
open Go Go.Proofs.Tryz
set_option linter.unusedVariables false
set_option maxRecDepth 100000
/- (*valise/box.writer).items -/
theorem of_box_writer_items {w0 : Option Addr} {l1 : Value} {w : World} {R : Ending → World → Prop} (h : gNil w0 fun (t7 : Addr) => gLen P t_sl_api_Item l1 fun (t10 : Nat) => gCall P n_num_Writer_Num shU #[.pointer (some (Addr.add t7 0)), .int .u64 (u64 (t10 : Int))] w fun  ww1 => gLen P t_sl_api_Item l1 fun (t14 : Nat) => ∃ (I : Int → World → Prop) (μ : Int → World → Nat), I 0 ww1 ∧ ∀ (_ : Env) (t15 : Int) (ww2 : World), I t15 ww2 → gIf (decide (t15 < (t14 : Int))) (gIdx P t_sl_api_Item l1 (.int .i64 t15) fun (t17 : Addr) => gLoad P t_api_Item (.part (.agg [.str, .int .i64, .int .u32, .val, .int .i64])) (.pointer (some t17)) ww2 fun (t18_1 : ByteArray) (t18_2 : Int) (t18_3 : Int) (t18_4 : Value) (t18_5 : Int) => gAlloc P t_api_Item ww2 fun (x5 : Addr) ww3 => gStore P t_api_Item (.pointer (some x5)) (.agg #[.string t18_1, .int .i64 t18_2, .int .u32 t18_3, t18_4, .int .i64 t18_5]) ww3 fun ww4 => ∃ B : World → Prop, B ww4.drew ∧ gNil w0 fun (t20 : Addr) => gLoadB P t_string shS (.pointer (some (Addr.add x5 0))) B fun (t23 : ByteArray) => gConv P t_string t_sl_uint8 shV (.string t23) ww4.drew fun (t24 : Value) ww5 => B ww5 ∧ gCall P n_num_Writer_Text shU #[.pointer (some (Addr.add t20 0)), t24] ww5 fun  ww6 => B ww6 ∧ ∃ B1 : World → Prop, B1 ww6.drew ∧ gNil w0 fun (t27 : Addr) => gLoadB P t_int (shI .i64) (.pointer (some (Addr.add x5 1))) B1 fun (t30 : Int) => gCall P n_num_Writer_Num shU #[.pointer (some (Addr.add t27 0)), .int .u64 (u64 t30)] ww6.drew fun  ww7 => B1 ww7 ∧ ∃ B2 : World → Prop, B2 ww7.drew ∧ gNil w0 fun (t34 : Addr) => gLoadB P t_uint32 (shI .u32) (.pointer (some (Addr.add x5 2))) B2 fun (t37 : Int) => gCall P n_num_Writer_Little shU #[.pointer (some (Addr.add t34 0)), .int .u64 (u64 t37), .int .i64 4] ww7.drew fun  ww8 => B2 ww8 ∧ gLoad P t_sl_int shV (.pointer (some (Addr.add x5 3))) ww8 fun (t42 : Value) => gCall P n_box_writer_tags shU #[.pointer w0, t42] ww8 fun  ww9 => ∃ B3 : World → Prop, B3 ww9.drew ∧ gNil w0 fun (t45 : Addr) => gLoadB P t_int (shI .i64) (.pointer (some (Addr.add x5 4))) B3 fun (t48 : Int) => gCall P n_num_Writer_Num shU #[.pointer (some (Addr.add t45 0)), .int .u64 (u64 t48)] ww9.drew fun  ww10 => B3 ww10 ∧ I (i64 (t15 + 1)) ww10 ∧ μ (i64 (t15 + 1)) ww10 < μ t15 ww2) (R (.returned (.tuple #[])) ww2)) :
    Calls P n_box_writer_items #[.pointer w0, l1] w R :=
  calls_of hmix (An := ⟨[(2, [(15, .int .i64)])], []⟩) (fn := f66) func66 rfl rfl (by kernel_rfl) (Eq.mpr (by kernel_rfl) h)
/- slices.Chunk[[]byte,byte] -/
theorem of_slices_Chunk_byte_byte {s0 : Value} {n1 : Int} {w : World} {R : Ending → World → Prop} (h : gBox P t_sl_uint8 s0 w fun (s2 : Addr) ww1 => gBox P t_int (.int .i64 n1) ww1 fun (n3 : Addr) ww2 => gLoad P t_int (shI .i64) (.pointer (some n3)) ww2 fun (t5 : Int) => gIf (decide (t5 < 1)) (gAny P shV (do pure (Next.value (← Instr.makeInterface 9 (.string (ByteArray.mk #[99, 97, 110, 110, 111, 116, 32, 98, 101, 32, 108, 101, 115, 115, 32, 116, 104, 97, 110, 32, 49]))))) ww2 fun (t7 : Value) ww3 => False) (R (.returned (.func (.func n_slices_Chunk_byte_byte_1) #[] #[.pointer (some s2), .pointer (some n3)])) ww2)) :
    Calls P n_slices_Chunk_byte_byte #[s0, .int .i64 n1] w R :=
  calls_of hmix (An := ⟨[], []⟩) (fn := f67) func67 rfl rfl (by kernel_rfl) (Eq.mpr (by kernel_rfl) h)
/- (*valise/box.writer).block -/
/- (*valise/num.Writer).Bytes -/
theorem of_num_Writer_Bytes {w0 : Option Addr} {w : World} {R : Ending → World → Prop} (h : gEq P .eql t_pt_num_Writer (.pointer w0) (.pointer none) fun (t4 : Bool) => gIf t4 (R (.returned (.slice none 0 0)) w) (gNil w0 fun (t6 : Addr) => gLoad P t_sl_uint8 shV (.pointer (some (Addr.add (Addr.add t6 0) 0))) w fun (t9 : Value) => gApp P #[t_sl_uint8, t_sl_uint8] t_sl_uint8 #[.slice none 0 0, t9] w fun (t10 : Value) ww1 => R (.returned (t10)) ww1)) :
    Calls P n_num_Writer_Bytes #[.pointer w0] w R :=
  calls_of hmix (An := ⟨[], []⟩) (fn := f69) func69 rfl rfl (by kernel_rfl) (Eq.mpr (by kernel_rfl) h)
/- (*valise/num.Writer).Raw -/
theorem of_num_Writer_Raw {w0 : Option Addr} {parts1 : Value} {w : World} {R : Ending → World → Prop} (h : gEq P .neq t_pt_num_Writer (.pointer w0) (.pointer none) fun (t5 : Bool) => gIf t5 (gNil w0 fun (t7 : Addr) => gCall P n_num_buffer_put shU #[.pointer (some (Addr.add t7 0)), parts1] w fun  ww1 => R (.returned (.tuple #[])) ww1) (R (.returned (.tuple #[])) w)) :
    Calls P n_num_Writer_Raw #[.pointer w0, parts1] w R :=
  calls_of hmix (An := ⟨[], []⟩) (fn := f70) func70 rfl rfl (by kernel_rfl) (Eq.mpr (by kernel_rfl) h)
/- (*valise/num.Writer).Little -/
theorem of_num_Writer_Little {w0 : Option Addr} {v1 : Int} {n2 : Int} {w : World} {R : Ending → World → Prop} (h : ∃ (I : Int → World → Prop) (μ : Int → World → Nat), I 0 w ∧ ∀ (_ : Env) (t10 : Int) (ww1 : World), I t10 ww1 → gIf (decide (t10 < (if 0 > (if 8 < n2 then 8 else n2) then 0 else (if 8 < n2 then 8 else n2)))) (gBin P .shr t_uint64 (shI .u64) (.int .u64 v1) (.int .i64 (i64 (8 * t10))) fun (t17 : Int) => gLit P t_sl_uint8 1 #[(0, .int .u8 (u8 t17))] ww1 fun (t19 : Value) ww2 => gLit P t_sl_sl_uint8 1 #[(0, t19)] ww2 fun (t20 : Value) ww3 => gCall P n_num_Writer_Raw shU #[.pointer w0, t20] ww3 fun  ww4 => I (i64 (t10 + 1)) ww4 ∧ μ (i64 (t10 + 1)) ww4 < μ t10 ww1) (R (.returned (.tuple #[])) ww1)) :
    Calls P n_num_Writer_Little #[.pointer w0, .int .u64 v1, .int .i64 n2] w R :=
  calls_of hmix (An := ⟨[(1, [(10, .int .i64)])], []⟩) (fn := f71) func71 rfl rfl (by kernel_rfl) (Eq.mpr (by kernel_rfl) h)
/- valise/crc.Sum -/
theorem of_crc_Sum {b0 : Value} {w : World} {R : Ending → World → Prop} (h : gCall P n_crc_Add (shI .u32) #[.int .u32 0, b0] w fun (t4 : Int) ww1 => R (.returned (.int .u32 t4)) ww1) :
    Calls P n_crc_Sum #[b0] w R :=
  calls_of hmix (An := ⟨[], []⟩) (fn := f72) func72 rfl rfl (by kernel_rfl) (Eq.mpr (by kernel_rfl) h)
/- valise/seal.Keys -/
/- (*valise/seal.sealer).segment -/
/- (valise/archive.inside).Options -/
/- slices.Clone[[]valise/api.Entry,valise/api.Entry] -/
theorem of_slices_Clone_api_Entry_api_Entry {s0 : Value} {w : World} {R : Ending → World → Prop} (h : gEq P .eql t_sl_api_Entry s0 (.slice none 0 0) fun (t4 : Bool) => gIf t4 (R (.returned (.slice none 0 0)) w) (gLit P t_sl_api_Entry 0 #[] w fun (t5 : Value) ww1 => gApp P #[t_sl_api_Entry, t_sl_api_Entry] t_sl_api_Entry #[t5, s0] ww1 fun (t7 : Value) ww2 => R (.returned (t7)) ww2)) :
    Calls P n_slices_Clone_api_Entry_api_Entry #[s0] w R :=
  calls_of hmix (An := ⟨[], []⟩) (fn := f77) func77 rfl rfl (by kernel_rfl) (Eq.mpr (by kernel_rfl) h)
/- slices.BinarySearchFunc[[]valise/api.Entry,valise/api.Entry,valise/api.Entry] -/
/- valise/names.byName -/
theorem of_names_byName {a0_0 : ByteArray} {a0_1 : Value} {b1_0 : ByteArray} {b1_1 : Value} {w : World} {R : Ending → World → Prop} (h : gBox P t_api_Entry (.agg #[.string a0_0, a0_1]) w fun (a2 : Addr) ww1 => gBox P t_api_Entry (.agg #[.string b1_0, b1_1]) ww1 fun (b3 : Addr) ww2 => gLoad P t_string shS (.pointer (some (Addr.add a2 0))) ww2 fun (t6 : ByteArray) => gLoad P t_string shS (.pointer (some (Addr.add b3 0))) ww2 fun (t8 : ByteArray) => gCall P n_strings_Compare (shI .i64) #[.string t6, .string t8] ww2 fun (t9 : Int) ww3 => R (.returned (.int .i64 t9)) ww3) :
    Calls P n_names_byName #[.agg #[.string a0_0, a0_1], .agg #[.string b1_0, b1_1]] w R :=
  calls_of hmix (An := ⟨[], []⟩) (fn := f79) func79 rfl rfl (by kernel_rfl) (Eq.mpr (by kernel_rfl) h)
/- slices.Insert[[]valise/api.Entry,valise/api.Entry] -/
/- valise/names.much -/
theorem of_names_much {l0 : Value} {w : World} {R : Ending → World → Prop} (h : gLen P t_sl_api_Entry l0 fun (t8 : Nat) => ∃ (I : Int → Int → Int → World → Prop) (μ : Int → Int → Int → World → Nat), I 0 0 0 w ∧ ∀ (_ : Env) (data3 : Int) (called4 : Int) (t9 : Int) (ww1 : World), I data3 called4 t9 ww1 → gIf (decide (t9 < (t8 : Int))) (gIdx P t_sl_api_Entry l0 (.int .i64 t9) fun (t11 : Addr) => gLoad P t_api_Entry (.part (.agg [.str, .val])) (.pointer (some t11)) ww1 fun (t12_1 : ByteArray) (t12_2 : Value) => gAlloc P t_api_Entry ww1 fun (x6 : Addr) ww2 => gStore P t_api_Entry (.pointer (some x6)) (.agg #[.string t12_1, t12_2]) ww2 fun ww3 => gLoad P t_sl_uint8 shV (.pointer (some (Addr.add x6 1))) ww3 fun (t15 : Value) => gLen P t_sl_uint8 t15 fun (t16 : Nat) => gLoad P t_string shS (.pointer (some (Addr.add x6 0))) ww3 fun (t20 : ByteArray) => gIf (!(decide ((i64 (data3 + (t16 : Int))) > 1048576))) (gIf (decide ((i64 (called4 + (t20.size : Int))) > 1048576)) (R (.returned (.bool true)) ww3) (I (i64 (data3 + (t16 : Int))) (i64 (called4 + (t20.size : Int))) (i64 (t9 + 1)) ww3 ∧ μ (i64 (data3 + (t16 : Int))) (i64 (called4 + (t20.size : Int))) (i64 (t9 + 1)) ww3 < μ data3 called4 t9 ww1)) (R (.returned (.bool true)) ww3)) (gLen P t_sl_api_Entry l0 fun (t31 : Nat) => R (.returned (.bool (decide ((t31 : Int) > 4096)))) ww1)) :
    Calls P n_names_much #[l0] w R :=
  calls_of hmix (An := ⟨[(3, [(3, .int .i64), (4, .int .i64), (9, .int .i64)])], []⟩) (fn := f81) func81 rfl rfl (by kernel_rfl) (Eq.mpr (by kernel_rfl) h)
/- valise/names.own -/
theorem of_names_own {l0 : Value} {w : World} {R : Ending → World → Prop} (h : gLen P t_sl_api_Entry l0 fun (t7 : Nat) => ∃ (I : Value → Int → World → Prop) (μ : Value → Int → World → Nat), I (.slice none 0 0) 0 w ∧ ∀ (_ : Env) (out3 : Value) (t8 : Int) (ww1 : World), I out3 t8 ww1 → gIf (decide (t8 < (t7 : Int))) (gIdx P t_sl_api_Entry l0 (.int .i64 t8) fun (t10 : Addr) => gLoad P t_api_Entry (.part (.agg [.str, .val])) (.pointer (some t10)) ww1 fun (t11_1 : ByteArray) (t11_2 : Value) => gAlloc P t_api_Entry ww1 fun (x5 : Addr) ww2 => gStore P t_api_Entry (.pointer (some x5)) (.agg #[.string t11_1, t11_2]) ww2 fun ww3 => ∃ B : World → Prop, B ww3.drew ∧ gLoadB P t_string shS (.pointer (some (Addr.add x5 0))) B fun (t14 : ByteArray) => gLoadB P t_sl_uint8 shV (.pointer (some (Addr.add x5 1))) B fun (t16 : Value) => gApp P #[t_sl_uint8, t_sl_uint8] t_sl_uint8 #[.slice none 0 0, t16] ww3.drew fun (t17 : Value) ww4 => B ww4 ∧ gOne t17 (gLit P t_sl_api_Entry 1 #[(0, .agg #[.string t14, t17])] ww4 fun (t19 : Value) ww5 => B ww5 ∧ gApp P #[t_sl_api_Entry, t_sl_api_Entry] t_sl_api_Entry #[out3, t19] ww5 fun (t20 : Value) ww6 => B ww6 ∧ I t20 (i64 (t8 + 1)) ww6 ∧ μ t20 (i64 (t8 + 1)) ww6 < μ out3 t8 ww1)) (R (.returned (out3)) ww1)) :
    Calls P n_names_own #[l0] w R :=
  calls_of hmix (An := ⟨[(3, [(3, .val), (8, .int .i64)])], []⟩) (fn := f82) func82 rfl rfl (by kernel_rfl) (Eq.mpr (by kernel_rfl) h)
/- valise/names.Find -/
/- slices.Delete[[]valise/api.Entry,valise/api.Entry] -/
/- valise/seal.Sealed -/
/- valise/seal.Open -/
/- valise/seal.Head -/
/- valise/box.List -/
/- valise/box.All -/
/- valise/box.One -/
/- valise/valisehelp.Same[int] -/
theorem of_valisehelp_Same_int {a0 : Value} {b1 : Value} {one2 : Value} {w : World} {R : Ending → World → Prop} (h : gLen P t_sl_int a0 fun (t9 : Nat) => gLen P t_sl_int b1 fun (t11 : Nat) => gIf ((t9 : Int) != (t11 : Int)) (R (.returned (.bool false)) w) (∃ (I : Int → World → Prop) (μ : Int → World → Nat), I 0 w ∧ ∀ (_ : Env) (i7 : Int) (ww1 : World), I i7 ww1 → gLen P t_sl_int a0 fun (t15 : Nat) => gIf (decide (i7 < (t15 : Int))) (∃ B : World → Prop, B ww1.drew ∧ gIdx P t_sl_int a0 (.int .i64 i7) fun (t22 : Addr) => gLoadB P t_int (shI .i64) (.pointer (some t22)) B fun (t23 : Int) => gIdx P t_sl_int b1 (.int .i64 i7) fun (t26 : Addr) => gLoadB P t_int (shI .i64) (.pointer (some t26)) B fun (t27 : Int) => gCallV P one2 shB #[.int .i64 t23, .int .i64 t27] ww1.drew fun (t28 : Bool) ww2 => B ww2 ∧ gIf (!t28) (R (.returned (.bool false)) ww2) (I (i64 (i7 + 1)) ww2 ∧ μ (i64 (i7 + 1)) ww2 < μ i7 ww1)) (R (.returned (.bool true)) ww1))) :
    Calls P n_valisehelp_Same_int #[a0, b1, one2] w R :=
  calls_of hmix (An := ⟨[(4, [(7, .int .i64)])], []⟩) (fn := f91) func91 rfl rfl (by kernel_rfl) (Eq.mpr (by kernel_rfl) h)
/- valise/valisehelp.Plain[int]$1 -/
theorem of_valisehelp_Plain_int_1 {x0 : Int} {y1 : Int} {w : World} {R : Ending → World → Prop} (h : R (.returned (.bool (x0 == y1))) w) :
    Calls P n_valisehelp_Plain_int_1 #[.int .i64 x0, .int .i64 y1] w R :=
  calls_of hmix (An := ⟨[], []⟩) (fn := f92) func92 rfl rfl (by kernel_rfl) (Eq.mpr (by kernel_rfl) h)
/- (*valise/num.Reader).Num -/
theorem of_num_Reader_Num {r0 : Option Addr} {w : World} {R : Ending → World → Prop} (h : gCall P n_num_Reader_num (shI .u64) #[.pointer r0, .int .u64 18446744073709551615] w fun (t4 : Int) ww1 => R (.returned (.int .u64 t4)) ww1) :
    Calls P n_num_Reader_Num #[.pointer r0] w R :=
  calls_of hmix (An := ⟨[], []⟩) (fn := f93) func93 rfl rfl (by kernel_rfl) (Eq.mpr (by kernel_rfl) h)
/- (*valise/num.Reader).Text -/
theorem of_num_Reader_Text {r0 : Option Addr} {most1 : Int} {w : World} {R : Ending → World → Prop} (h : ∃ J0 : World → Prop, (gEq P .eql t_pt_num_Reader (.pointer r0) (.pointer none) fun (t9 : Bool) => gIf (!t9) (gNil r0 fun (t12 : Addr) => gLoad P t_api_Errno (shI .i64) (.pointer (some (Addr.add t12 2))) w fun (t14 : Int) => gIf (t14 != 0) (R (.returned (.slice none 0 0)) w) (J0 w)) (R (.returned (.slice none 0 0)) w)) ∧ ∀ (_ : Env)  (ww1 : World), J0 ww1 → gNil r0 fun (t18 : Addr) => gLoad P t_int (shI .i64) (.pointer (some (Addr.add t18 1))) ww1 fun (t20 : Int) => gCall P n_num_Reader_num (shI .u64) #[.pointer r0, .int .u64 (u64 (if 0 > most1 then 0 else most1))] ww1 fun (t25 : Int) ww2 => gCall P n_num_Reader_Raw shV #[.pointer r0, .int .i64 (i64 t25)] ww2 fun (t29 : Value) ww3 => gNil r0 fun (t31 : Addr) => gLoad P t_api_Errno (shI .i64) (.pointer (some (Addr.add t31 2))) ww3 fun (t33 : Int) => gIf (t33 != 0) (gNil r0 fun (t37 : Addr) => gStore P t_int (.pointer (some (Addr.add t37 1))) (.int .i64 t20) ww3 fun ww4 => R (.returned (.slice none 0 0)) ww4) (R (.returned (t29)) ww3)) :
    Calls P n_num_Reader_Text #[.pointer r0, .int .i64 most1] w R :=
  calls_of hmix (An := ⟨[], [(3, [])]⟩) (fn := f94) func94 rfl rfl (by kernel_rfl) (Eq.mpr (by kernel_rfl) h)
/- valise/chain.Right -/
theorem of_chain_Right {tags0 : Value} {w : World} {R : Ending → World → Prop} (h : gLen P t_sl_int tags0 fun (t8 : Nat) => ∃ (I : Int → World → Prop) (μ : Int → World → Nat), I 0 w ∧ ∀ (_ : Env) (t9 : Int) (ww1 : World), I t9 ww1 → gIf (decide (t9 < (t8 : Int))) (gIdx P t_sl_int tags0 (.int .i64 t9) fun (t12 : Addr) => gLoad P t_int (shI .i64) (.pointer (some t12)) ww1 fun (t13 : Int) => gCall P n_chain_of (.tup [.agg [.val, .val], .one .bool]) #[.int .i64 t13] ww1 fun (t16_1 : Value) (t16_2 : Value) (t16_3 : Bool) ww2 => gAlloc P t_chain_transform ww2 fun (t5 : Addr) ww3 => gStore P t_chain_transform (.pointer (some t5)) (.agg #[t16_1, t16_2]) ww3 fun ww4 => gIf (!(!t16_3)) (gSlice P t_sl_int tags0 none (some (.int .i64 t9)) none fun (t24 : Value) => gCall P n_slices_Contains_int_int shB #[t24, .int .i64 t13] ww4 fun (t26 : Bool) ww5 => gIf t26 (R (.returned (.bool false)) ww5) (I (i64 (t9 + 1)) ww5 ∧ μ (i64 (t9 + 1)) ww5 < μ t9 ww1)) (R (.returned (.bool false)) ww4)) (gLen P t_sl_int tags0 fun (t30 : Nat) => R (.returned (.bool (decide ((t30 : Int) ≤ 4)))) ww1)) :
    Calls P n_chain_Right #[tags0] w R :=
  calls_of hmix (An := ⟨[(2, [(9, .int .i64)])], []⟩) (fn := f95) func95 rfl rfl (by kernel_rfl) (Eq.mpr (by kernel_rfl) h)
/- slices.ContainsFunc[[]valise/api.Entry,valise/api.Entry] -/
theorem of_slices_ContainsFunc_api_Entry_api_Entry {s0 : Value} {f1 : Value} {w : World} {R : Ending → World → Prop} (h : gCall P n_slices_IndexFunc_api_Entry_api_Entry (shI .i64) #[s0, f1] w fun (t7 : Int) ww1 => R (.returned (.bool (decide (t7 ≥ 0)))) ww1) :
    Calls P n_slices_ContainsFunc_api_Entry_api_Entry #[s0, f1] w R :=
  calls_of hmix (An := ⟨[], []⟩) (fn := f96) func96 rfl rfl (by kernel_rfl) (Eq.mpr (by kernel_rfl) h)
/- valise/names.Sort$1 -/
theorem of_names_Sort_1 {x0_0 : ByteArray} {x0_1 : Value} {w : World} {R : Ending → World → Prop} (h : gBox P t_api_Entry (.agg #[.string x0_0, x0_1]) w fun (x1 : Addr) ww1 => gLoad P t_string shS (.pointer (some (Addr.add x1 0))) ww1 fun (t4 : ByteArray) => gCall P n_names_Right shB #[.string t4] ww1 fun (t5 : Bool) ww2 => R (.returned (.bool (!t5))) ww2) :
    Calls P n_names_Sort_1 #[.agg #[.string x0_0, x0_1]] w R :=
  calls_of hmix (An := ⟨[], []⟩) (fn := f97) func97 rfl rfl (by kernel_rfl) (Eq.mpr (by kernel_rfl) h)
/- valise/names.Right -/
theorem of_names_Right {name0 : ByteArray} {w : World} {R : Ending → World → Prop} (h : gIf (!(decide ((name0.size : Int) > 4096))) (gCall P n_strings_Contains shB #[.string name0, .string (ByteArray.mk #[0])] w fun (t8 : Bool) ww1 => gIf t8 (R (.returned (.bool false)) ww1) (gCall P n_strings_Split shV #[.string name0, .string (ByteArray.mk #[47])] ww1 fun (t11 : Value) ww2 => gCall P n_slices_ContainsFunc_string_string shB #[t11, .func (.func n_names_Right_1) #[] #[]] ww2 fun (t12 : Bool) ww3 => R (.returned (.bool (!t12))) ww3)) (R (.returned (.bool false)) w)) :
    Calls P n_names_Right #[.string name0] w R :=
  calls_of hmix (An := ⟨[], []⟩) (fn := f98) func98 rfl rfl (by kernel_rfl) (Eq.mpr (by kernel_rfl) h)
/- slices.SortStableFunc[[]valise/api.Entry,valise/api.Entry] -/
theorem of_slices_SortStableFunc_api_Entry_api_Entry {x0 : Value} {cmp1 : Value} {w : World} {R : Ending → World → Prop} (h : gLen P t_sl_api_Entry x0 fun (t6 : Nat) => gCall P n_slices_stableCmpFunc_api_Entry shU #[x0, .int .i64 (t6 : Int), cmp1] w fun  ww1 => R (.returned (.tuple #[])) ww1) :
    Calls P n_slices_SortStableFunc_api_Entry_api_Entry #[x0, cmp1] w R :=
  calls_of hmix (An := ⟨[], []⟩) (fn := f99) func99 rfl rfl (by kernel_rfl) (Eq.mpr (by kernel_rfl) h)
/- valise/chain.Detect -/
/- valise/chain.Choose -/
theorem of_chain_Choose {b0 : Value} {tags1 : Value} {w : World} {R : Ending → World → Prop} (h : gCall P n_chain_Forward (.tup [.one .val, .one .val]) #[b0, tags1] w fun (t13_1 : Value) (t13_2 : Value) ww1 => gLen P t_sl_uint8 b0 fun (t19 : Nat) => gCall P n_chain_Inverse (.tup [.one .val, .one (.int .i64)]) #[t13_1, .int .i64 (t19 : Int), t13_2] ww1 fun (t21_1 : Value) (t21_2 : Int) ww2 => gIf (!(t21_2 != 0)) (gCall P n_bytes_Equal shB #[t21_1, b0] ww2 fun (t29 : Bool) ww3 => gIf (!t29) (gCall P n_bytes_Clone shV #[b0] ww3 fun (t33 : Value) ww4 => R (.returned (.tuple #[t33, .slice none 0 0])) ww4) (R (.returned (.tuple #[t13_1, t13_2])) ww3)) (gCall P n_bytes_Clone shV #[b0] ww2 fun (t33 : Value) ww5 => R (.returned (.tuple #[t33, .slice none 0 0])) ww5)) :
    Calls P n_chain_Choose #[b0, tags1] w R :=
  calls_of hmix (An := ⟨[], []⟩) (fn := f101) func101 rfl rfl (by kernel_rfl) (Eq.mpr (by kernel_rfl) h)
/- valise/box.grown -/
theorem of_box_grown {n0 : Int} {w : World} {R : Ending → World → Prop} (h : R (.returned (.int .i64 (i64 ((i64 (n0 + (i64 (Int.tdiv n0 256)))) + 8)))) w) :
    Calls P n_box_grown #[.int .i64 n0] w R :=
  calls_of hmix (An := ⟨[], []⟩) (fn := f102) func102 rfl rfl (by kernel_rfl) (Eq.mpr (by kernel_rfl) h)
/- (*valise/num.Writer).Text -/
theorem of_num_Writer_Text {w0 : Option Addr} {b1 : Value} {w : World} {R : Ending → World → Prop} (h : gLen P t_sl_uint8 b1 fun (t6 : Nat) => gCall P n_num_Writer_Num shU #[.pointer w0, .int .u64 (u64 (t6 : Int))] w fun  ww1 => gLit P t_sl_sl_uint8 1 #[(0, b1)] ww1 fun (t11 : Value) ww2 => gCall P n_num_Writer_Raw shU #[.pointer w0, t11] ww2 fun  ww3 => R (.returned (.tuple #[])) ww3) :
    Calls P n_num_Writer_Text #[.pointer w0, b1] w R :=
  calls_of hmix (An := ⟨[], []⟩) (fn := f103) func103 rfl rfl (by kernel_rfl) (Eq.mpr (by kernel_rfl) h)
/- slices.Chunk[[]byte,byte]$1 -/
theorem of_slices_Chunk_byte_byte_1 {yield0 : Value} {t1 : Value} {t2 : Value} {w : World} {R : Ending → World → Prop} (h : ∃ (I : Int → World → Prop) (μ : Int → World → Nat), I 0 w ∧ ∀ (_ : Env) (i4 : Int) (ww1 : World), I i4 ww1 → gLoad P t_sl_uint8 shV t1 ww1 fun (t7 : Value) => gLen P t_sl_uint8 t7 fun (t8 : Nat) => gIf (decide (i4 < (t8 : Int))) (gLoadB P t_int (shI .i64) t2 (fun w' => w' = ww1.drew) fun (t13 : Int) => gLoadB P t_sl_uint8 shV t1 (fun w' => w' = ww1.drew) fun (t14 : Value) => gSlice P t_sl_uint8 t14 (some (.int .i64 i4)) none none fun (t16 : Value) => gLen P t_sl_uint8 t16 fun (t17 : Nat) => gLoad P t_sl_uint8 shV t1 ww1.drew fun (t20 : Value) => gSlice P t_sl_uint8 t20 (some (.int .i64 i4)) (some (.int .i64 (i64 (i4 + (if (t17 : Int) < t13 then (t17 : Int) else t13))))) (some (.int .i64 (i64 (i4 + (if (t17 : Int) < t13 then (t17 : Int) else t13))))) fun (t28 : Value) => gCallY P yield0 shB #[t28] ww1.drew fun (t29 : Bool) ww2 => gIf (!t29) (R (.returned (.tuple #[])) ww2) (gLoad P t_int (shI .i64) t2 ww2 fun (t11 : Int) => I (i64 (i4 + t11)) ww2 ∧ μ (i64 (i4 + t11)) ww2 < μ i4 ww1)) (R (.returned (.tuple #[])) ww1)) :
    Calls P n_slices_Chunk_byte_byte_1 #[yield0, t1, t2] w R :=
  calls_ofY hmix (An := ⟨[(1, [(4, .int .i64)])], []⟩) (fn := f104) func104 rfl rfl (by kernel_rfl) (Eq.mpr (by kernel_rfl) h)
/- valise/stream.Pack -/
/- (*valise/num.buffer).put -/
theorem of_num_buffer_put {x0 : Option Addr} {parts1 : Value} {w : World} {R : Ending → World → Prop} (h : gLen P t_sl_sl_uint8 parts1 fun (t7 : Nat) => ∃ (I : Int → World → Prop) (μ : Int → World → Nat), I 0 w ∧ ∀ (_ : Env) (t8 : Int) (ww1 : World), I t8 ww1 → gIf (decide (t8 < (t7 : Int))) (gIdx P t_sl_sl_uint8 parts1 (.int .i64 t8) fun (t10 : Addr) => gLoad P t_sl_uint8 shV (.pointer (some t10)) ww1 fun (t11 : Value) => gNil x0 fun (t14 : Addr) => gLoad P t_sl_uint8 shV (.pointer (some (Addr.add t14 0))) ww1 fun (t16 : Value) => gApp P #[t_sl_uint8, t_sl_uint8] t_sl_uint8 #[t16, t11] ww1 fun (t18 : Value) ww2 => gNil x0 fun (t19 : Addr) => gStore P t_sl_uint8 (.pointer (some (Addr.add t19 0))) t18 ww2 fun ww3 => I (i64 (t8 + 1)) ww3 ∧ μ (i64 (t8 + 1)) ww3 < μ t8 ww1) (R (.returned (.tuple #[])) ww1)) :
    Calls P n_num_buffer_put #[.pointer x0, parts1] w R :=
  calls_of hmix (An := ⟨[(1, [(8, .int .i64)])], []⟩) (fn := f106) func106 rfl rfl (by kernel_rfl) (Eq.mpr (by kernel_rfl) h)
/- valise/crc.Add -/
theorem of_crc_Add {sum0 : Int} {b1 : Value} {w : World} {R : Ending → World → Prop} (h : gCall P n_crc_Table shA #[] w fun (t9 : Array Value) ww1 => gAlloc P t_ar256_uint32 ww1 fun (t5 : Addr) ww2 => gStore P t_ar256_uint32 (.pointer (some t5)) (.agg t9) ww2 fun ww3 => gLen P t_sl_uint8 b1 fun (t13 : Nat) => ∃ (I : Int → Int → World → Prop) (μ : Int → Int → World → Nat), I (iXor .u32 sum0 4294967295) 0 ww3 ∧ ∀ (_ : Env) (v6 : Int) (t14 : Int) (ww4 : World), I v6 t14 ww4 → gIf (decide (t14 < (t13 : Int))) (gIdx P t_sl_uint8 b1 (.int .i64 t14) fun (t16 : Addr) => gLoad P t_uint8 (shI .u8) (.pointer (some t16)) ww4 fun (t17 : Int) => gIdx P t_ar256_uint32 (.pointer (some t5)) (.int .u8 (iXor .u8 (u8 v6) t17)) fun (t24 : Addr) => gLoad P t_uint32 (shI .u32) (.pointer (some t24)) ww4 fun (t25 : Int) => I (iXor .u32 (iShr .u32 v6 8) t25) (i64 (t14 + 1)) ww4 ∧ μ (iXor .u32 (iShr .u32 v6 8) t25) (i64 (t14 + 1)) ww4 < μ v6 t14 ww4) (R (.returned (.int .u32 (iXor .u32 v6 4294967295))) ww4)) :
    Calls P n_crc_Add #[.int .u32 sum0, b1] w R :=
  calls_of hmix (An := ⟨[(4, [(6, .int .u32), (14, .int .i64)])], []⟩) (fn := f107) func107 rfl rfl (by kernel_rfl) (Eq.mpr (by kernel_rfl) h)
/- valise/mac.Derive -/
/- valise/chacha.Xor -/
/- valise/mac.Tag -/
/- valise/seal.input -/
/- valise/box.Options -/
/- strings.Compare -/
theorem of_strings_Compare {a0 : ByteArray} {b1 : ByteArray} {w : World} {R : Ending → World → Prop} (h : gCall P n_internal_bytealg_CompareString (shI .i64) #[.string a0, .string b1] w fun (t7 : Int) ww1 => R (.returned (.int .i64 t7)) ww1) :
    Calls P n_strings_Compare #[.string a0, .string b1] w R :=
  calls_of hmix (An := ⟨[], []⟩) (fn := f113) func113 rfl rfl (by kernel_rfl) (Eq.mpr (by kernel_rfl) h)
/- slices.rotateRight[valise/api.Entry] -/
/- valise/seal.segments -/
/- (*valise/num.Reader).Raw -/
theorem of_num_Reader_Raw {r0 : Option Addr} {n1 : Int} {w : World} {R : Ending → World → Prop} (h : ∃ J0 : World → Prop, (gEq P .eql t_pt_num_Reader (.pointer r0) (.pointer none) fun (t6 : Bool) => gIf (!t6) (gNil r0 fun (t9 : Addr) => gLoad P t_api_Errno (shI .i64) (.pointer (some (Addr.add t9 2))) w fun (t11 : Int) => gIf (!(t11 != 0)) (gIf (decide (n1 ≤ 0)) (R (.returned (.slice none 0 0)) w) (J0 w)) (R (.returned (.slice none 0 0)) w)) (R (.returned (.slice none 0 0)) w)) ∧ ∀ (_ : Env)  (ww1 : World), J0 ww1 → gNil r0 fun (t20 : Addr) => gLoadB P t_sl_uint8 shV (.pointer (some (Addr.add t20 0))) (fun w' => w' = ww1.drew) fun (t22 : Value) => gLen P t_sl_uint8 t22 fun (t23 : Nat) => gNil r0 fun (t25 : Addr) => gLoadB P t_int (shI .i64) (.pointer (some (Addr.add t25 1))) (fun w' => w' = ww1.drew) fun (t27 : Int) => gIf (decide (n1 > (i64 ((t23 : Int) - t27)))) (gNil r0 fun (t31 : Addr) => gStore P t_api_Errno (.pointer (some (Addr.add t31 2))) (.int .i64 3) ww1.drew fun ww2 => R (.returned (.slice none 0 0)) ww2) (gNil r0 fun (t34 : Addr) => gLoad P t_int (shI .i64) (.pointer (some (Addr.add t34 1))) ww1.drew fun (t36 : Int) => gNil r0 fun (t39 : Addr) => gStore P t_int (.pointer (some (Addr.add t39 1))) (.int .i64 (i64 (t36 + n1))) ww1.drew fun ww3 => ∃ B : World → Prop, B ww3.drew ∧ gNil r0 fun (t42 : Addr) => gLoadB P t_sl_uint8 shV (.pointer (some (Addr.add t42 0))) B fun (t44 : Value) => gNil r0 fun (t46 : Addr) => gLoadB P t_int (shI .i64) (.pointer (some (Addr.add t46 1))) B fun (t48 : Int) => gNil r0 fun (t52 : Addr) => gLoadB P t_int (shI .i64) (.pointer (some (Addr.add t52 1))) B fun (t54 : Int) => gSlice P t_sl_uint8 t44 (some (.int .i64 (i64 (t48 - n1)))) (some (.int .i64 t54)) none fun (t55 : Value) => gApp P #[t_sl_uint8, t_sl_uint8] t_sl_uint8 #[.slice none 0 0, t55] ww3.drew fun (t56 : Value) ww4 => B ww4 ∧ R (.returned (t56)) ww4)) :
    Calls P n_num_Reader_Raw #[.pointer r0, .int .i64 n1] w R :=
  calls_of hmix (An := ⟨[], [(3, [])]⟩) (fn := f117) func117 rfl rfl (by kernel_rfl) (Eq.mpr (by kernel_rfl) h)
/- (*valise/num.Reader).Little -/
/- valise/mac.Same -/
/- valise/box.open -/
/- (*valise/box.opened).all -/
/- valise/box.entry -/
/- (*valise/num.Reader).num -/
theorem of_num_Reader_num {r0 : Option Addr} {most1 : Int} {w : World} {R : Ending → World → Prop} (h : ∃ J0 : World → Prop, (gEq P .eql t_pt_num_Reader (.pointer r0) (.pointer none) fun (t9 : Bool) => gIf (!t9) (gNil r0 fun (t12 : Addr) => gLoad P t_api_Errno (shI .i64) (.pointer (some (Addr.add t12 2))) w fun (t14 : Int) => gIf (t14 != 0) (R (.returned (.int .u64 0)) w) (J0 w)) (R (.returned (.int .u64 0)) w)) ∧ ∀ (_ : Env)  (ww1 : World), J0 ww1 → gCall P n_num_Reader_look (.tup [.one (.int .u64), .one (.int .i64), .one (.int .i64)]) #[.pointer r0] ww1 fun (t19_1 : Int) (t19_2 : Int) (t19_3 : Int) ww2 => ∃ J1 : Int → World → Prop, (gIf (t19_3 == 0) (gIf (decide (t19_1 > most1)) (J1 4 ww2) (J1 t19_3 ww2)) (J1 t19_3 ww2)) ∧ ∀ (_ : Env) (e7 : Int) (ww3 : World), J1 e7 ww3 → gIf (e7 != 0) (gNil r0 fun (t34 : Addr) => gStore P t_api_Errno (.pointer (some (Addr.add t34 2))) (.int .i64 e7) ww3 fun ww4 => R (.returned (.int .u64 0)) ww4) (gNil r0 fun (t38 : Addr) => gStore P t_int (.pointer (some (Addr.add t38 1))) (.int .i64 t19_2) ww3 fun ww5 => R (.returned (.int .u64 t19_1)) ww5)) :
    Calls P n_num_Reader_num #[.pointer r0, .int .u64 most1] w R :=
  calls_of hmix (An := ⟨[], [(3, []), (6, [(7, .int .i64)])]⟩) (fn := f123) func123 rfl rfl (by kernel_rfl) (Eq.mpr (by kernel_rfl) h)
/- valise/chain.of -/
theorem of_chain_of {tag0 : Int} {w : World} {R : Ending → World → Prop} (h : gAlloc P t_chain_transform w fun (t2 : Addr) ww1 => gIf (tag0 == 1) (gOne (.func (.func n_audio_Pack) #[] #[]) (gOne (.func (.func n_audio_Unpack) #[] #[]) (gStore P t_chain_transform (.pointer (some t2)) (.agg #[.func (.func n_audio_Pack) #[] #[], .func (.func n_audio_Unpack) #[] #[]]) ww1 fun ww2 => gLoad P t_chain_transform (.part (.agg [.val, .val])) (.pointer (some t2)) ww2 fun (r0_0 : Value) (r0_1 : Value) => R (.returned (.tuple #[.agg #[r0_0, r0_1], .bool true])) ww2))) (gIf (tag0 == 2) (gOne (.func (.func n_image_Pack) #[] #[]) (gOne (.func (.func n_image_Unpack) #[] #[]) (gStore P t_chain_transform (.pointer (some t2)) (.agg #[.func (.func n_image_Pack) #[] #[], .func (.func n_image_Unpack) #[] #[]]) ww1 fun ww3 => gLoad P t_chain_transform (.part (.agg [.val, .val])) (.pointer (some t2)) ww3 fun (r0_0 : Value) (r0_1 : Value) => R (.returned (.tuple #[.agg #[r0_0, r0_1], .bool true])) ww3))) (gIf (tag0 == 3) (gOne (.func (.func n_table_Pack) #[] #[]) (gOne (.func (.func n_table_Unpack) #[] #[]) (gStore P t_chain_transform (.pointer (some t2)) (.agg #[.func (.func n_table_Pack) #[] #[], .func (.func n_table_Unpack) #[] #[]]) ww1 fun ww4 => gLoad P t_chain_transform (.part (.agg [.val, .val])) (.pointer (some t2)) ww4 fun (r0_0 : Value) (r0_1 : Value) => R (.returned (.tuple #[.agg #[r0_0, r0_1], .bool true])) ww4))) (gIf (tag0 == 4) (gOne (.func (.func n_words_Pack) #[] #[]) (gOne (.func (.func n_words_Unpack) #[] #[]) (gStore P t_chain_transform (.pointer (some t2)) (.agg #[.func (.func n_words_Pack) #[] #[], .func (.func n_words_Unpack) #[] #[]]) ww1 fun ww5 => gLoad P t_chain_transform (.part (.agg [.val, .val])) (.pointer (some t2)) ww5 fun (r0_0 : Value) (r0_1 : Value) => R (.returned (.tuple #[.agg #[r0_0, r0_1], .bool true])) ww5))) (gIf (tag0 == 5) (gOne (.func (.func n_text_Lines) #[] #[]) (gOne (.func (.func n_text_Unlines) #[] #[]) (gStore P t_chain_transform (.pointer (some t2)) (.agg #[.func (.func n_text_Lines) #[] #[], .func (.func n_text_Unlines) #[] #[]]) ww1 fun ww6 => gLoad P t_chain_transform (.part (.agg [.val, .val])) (.pointer (some t2)) ww6 fun (r0_0 : Value) (r0_1 : Value) => R (.returned (.tuple #[.agg #[r0_0, r0_1], .bool true])) ww6))) (gIf (tag0 == 6) (gOne (.func (.func n_text_Caps) #[] #[]) (gOne (.func (.func n_text_Uncaps) #[] #[]) (gStore P t_chain_transform (.pointer (some t2)) (.agg #[.func (.func n_text_Caps) #[] #[], .func (.func n_text_Uncaps) #[] #[]]) ww1 fun ww7 => gLoad P t_chain_transform (.part (.agg [.val, .val])) (.pointer (some t2)) ww7 fun (r0_0 : Value) (r0_1 : Value) => R (.returned (.tuple #[.agg #[r0_0, r0_1], .bool true])) ww7))) (gStore P t_chain_transform (.pointer (some t2)) (.agg #[Value.nilFunc, Value.nilFunc]) ww1 fun ww8 => gLoad P t_chain_transform (.part (.agg [.val, .val])) (.pointer (some t2)) ww8 fun (r0_0 : Value) (r0_1 : Value) => R (.returned (.tuple #[.agg #[r0_0, r0_1], .bool false])) ww8))))))) :
    Calls P n_chain_of #[.int .i64 tag0] w R :=
  calls_of hmix (An := ⟨[], []⟩) (fn := f124) func124 rfl rfl (by kernel_rfl) (Eq.mpr (by kernel_rfl) h)
/- slices.Contains[[]int,int] -/
theorem of_slices_Contains_int_int {s0 : Value} {v1 : Int} {w : World} {R : Ending → World → Prop} (h : gCall P n_slices_Index_int_int (shI .i64) #[s0, .int .i64 v1] w fun (t7 : Int) ww1 => R (.returned (.bool (decide (t7 ≥ 0)))) ww1) :
    Calls P n_slices_Contains_int_int #[s0, .int .i64 v1] w R :=
  calls_of hmix (An := ⟨[], []⟩) (fn := f125) func125 rfl rfl (by kernel_rfl) (Eq.mpr (by kernel_rfl) h)
/- slices.IndexFunc[[]valise/api.Entry,valise/api.Entry] -/
theorem of_slices_IndexFunc_api_Entry_api_Entry {s0 : Value} {f1 : Value} {w : World} {R : Ending → World → Prop} (h : gLen P t_sl_api_Entry s0 fun (t7 : Nat) => ∃ (I : Int → World → Prop) (μ : Int → World → Nat), I 0 w ∧ ∀ (_ : Env) (t8 : Int) (ww1 : World), I t8 ww1 → gIf (decide (t8 < (t7 : Int))) (gIdx P t_sl_api_Entry s0 (.int .i64 t8) fun (t14 : Addr) => gLoad P t_api_Entry (.part (.agg [.str, .val])) (.pointer (some t14)) ww1 fun (t15_1 : ByteArray) (t15_2 : Value) => gCallV P f1 shB #[.agg #[.string t15_1, t15_2]] ww1 fun (t16 : Bool) ww2 => gIf t16 (R (.returned (.int .i64 t8)) ww2) (I (i64 (t8 + 1)) ww2 ∧ μ (i64 (t8 + 1)) ww2 < μ t8 ww1)) (R (.returned (.int .i64 (-1))) ww1)) :
    Calls P n_slices_IndexFunc_api_Entry_api_Entry #[s0, f1] w R :=
  calls_of hmix (An := ⟨[(2, [(8, .int .i64)])], []⟩) (fn := f126) func126 rfl rfl (by kernel_rfl) (Eq.mpr (by kernel_rfl) h)
/- strings.Contains -/
theorem of_strings_Contains {s0 : ByteArray} {substr1 : ByteArray} {w : World} {R : Ending → World → Prop} (h : gCall P n_strings_Index (shI .i64) #[.string s0, .string substr1] w fun (t7 : Int) ww1 => R (.returned (.bool (decide (t7 ≥ 0)))) ww1) :
    Calls P n_strings_Contains #[.string s0, .string substr1] w R :=
  calls_of hmix (An := ⟨[], []⟩) (fn := f127) func127 rfl rfl (by kernel_rfl) (Eq.mpr (by kernel_rfl) h)
/- slices.ContainsFunc[[]string,string] -/
theorem of_slices_ContainsFunc_string_string {s0 : Value} {f1 : Value} {w : World} {R : Ending → World → Prop} (h : gCall P n_slices_IndexFunc_string_string (shI .i64) #[s0, f1] w fun (t7 : Int) ww1 => R (.returned (.bool (decide (t7 ≥ 0)))) ww1) :
    Calls P n_slices_ContainsFunc_string_string #[s0, f1] w R :=
  calls_of hmix (An := ⟨[], []⟩) (fn := f128) func128 rfl rfl (by kernel_rfl) (Eq.mpr (by kernel_rfl) h)
/- strings.Split -/
theorem of_strings_Split {s0 : ByteArray} {sep1 : ByteArray} {w : World} {R : Ending → World → Prop} (h : gCall P n_strings_genSplit shV #[.string s0, .string sep1, .int .i64 0, .int .i64 (-1)] w fun (t7 : Value) ww1 => R (.returned (t7)) ww1) :
    Calls P n_strings_Split #[.string s0, .string sep1] w R :=
  calls_of hmix (An := ⟨[], []⟩) (fn := f129) func129 rfl rfl (by kernel_rfl) (Eq.mpr (by kernel_rfl) h)
/- valise/names.Right$1 -/
theorem of_names_Right_1 {s0 : ByteArray} {w : World} {R : Ending → World → Prop} (h : gIf (!(s0.toList == (ByteArray.mk #[]).toList)) (gIf (!(s0.toList == (ByteArray.mk #[46]).toList)) (R (.returned (.bool (s0.toList == (ByteArray.mk #[46, 46]).toList))) w) (R (.returned (.bool true)) w)) (R (.returned (.bool true)) w)) :
    Calls P n_names_Right_1 #[.string s0] w R :=
  calls_of hmix (An := ⟨[], []⟩) (fn := f130) func130 rfl rfl (by kernel_rfl) (Eq.mpr (by kernel_rfl) h)
/- slices.stableCmpFunc[valise/api.Entry] -/
theorem of_slices_stableCmpFunc_api_Entry {data0 : Value} {n1 : Int} {cmp2 : Value} {w : World} {R : Ending → World → Prop} (h : ∃ (I : Int → Int → World → Prop) (μ : Int → Int → World → Nat), I 0 20 w ∧ ∀ (_ : Env) (a7 : Int) (b8 : Int) (ww1 : World), I a7 b8 ww1 → gIf (decide (b8 ≤ n1)) (gCall P n_slices_insertionSortCmpFunc_api_Entry shU #[data0, .int .i64 a7, .int .i64 b8, cmp2] ww1 fun  ww2 => I b8 (i64 (b8 + 20)) ww2 ∧ μ b8 (i64 (b8 + 20)) ww2 < μ a7 b8 ww1) (gCall P n_slices_insertionSortCmpFunc_api_Entry shU #[data0, .int .i64 a7, .int .i64 n1, cmp2] ww1 fun  ww3 => ∃ (I1 : Int → World → Prop) (μ1 : Int → World → Nat), I1 20 ww3 ∧ ∀ (_ : Env) (blockSize6 : Int) (ww4 : World), I1 blockSize6 ww4 → gIf (decide (blockSize6 < n1)) (∃ (I2 : Int → Int → World → Prop) (μ2 : Int → Int → World → Nat), I2 0 (i64 (2 * blockSize6)) ww4 ∧ ∀ (_ : Env) (a7_1 : Int) (b8_1 : Int) (ww5 : World), I2 a7_1 b8_1 ww5 → gIf (decide (b8_1 ≤ n1)) (gCall P n_slices_symMergeCmpFunc_api_Entry shU #[data0, .int .i64 a7_1, .int .i64 (i64 (a7_1 + blockSize6)), .int .i64 b8_1, cmp2] ww5 fun  ww6 => I2 b8_1 (i64 (b8_1 + (i64 (2 * blockSize6)))) ww6 ∧ μ2 b8_1 (i64 (b8_1 + (i64 (2 * blockSize6)))) ww6 < μ2 a7_1 b8_1 ww5) (gIf (decide ((i64 (a7_1 + blockSize6)) < n1)) (gCall P n_slices_symMergeCmpFunc_api_Entry shU #[data0, .int .i64 a7_1, .int .i64 (i64 (a7_1 + blockSize6)), .int .i64 n1, cmp2] ww5 fun  ww7 => I1 (i64 (blockSize6 * 2)) ww7 ∧ μ1 (i64 (blockSize6 * 2)) ww7 < μ1 blockSize6 ww4) (I1 (i64 (blockSize6 * 2)) ww5 ∧ μ1 (i64 (blockSize6 * 2)) ww5 < μ1 blockSize6 ww4))) (R (.returned (.tuple #[])) ww4))) :
    Calls P n_slices_stableCmpFunc_api_Entry #[data0, .int .i64 n1, cmp2] w R :=
  calls_of hmix (An := ⟨[(2, [(7, .int .i64), (8, .int .i64)]), (7, [(6, .int .i64)]), (9, [(7, .int .i64), (8, .int .i64)])], []⟩) (fn := f131) func131 rfl rfl (by kernel_rfl) (Eq.mpr (by kernel_rfl) h)
/- valise/wav.Parse -/
/- valise/picture.Parse -/
/- valise/chain.texty -/
/- valise/table.Width -/
/- valise/chain.Forward -/
theorem of_chain_Forward {b0 : Value} {tags1 : Value} {w : World} {R : Ending → World → Prop} (h : gCall P n_bytes_Clone shV #[b0] w fun (t15 : Value) ww1 => gCall P n_chain_Right shB #[tags1] ww1 fun (t17 : Bool) ww2 => gIf (!t17) (R (.returned (.tuple #[t15, .slice none 0 0])) ww2) (gLen P t_sl_int tags1 fun (t21 : Nat) => ∃ (I : Value → Value → Int → World → Prop) (μ : Value → Value → Int → World → Nat), I t15 (.slice none 0 0) 0 ww2 ∧ ∀ (_ : Env) (out6 : Value) (did7 : Value) (t22 : Int) (ww3 : World), I out6 did7 t22 ww3 → gIf (decide (t22 < (t21 : Int))) (gIdx P t_sl_int tags1 (.int .i64 t22) fun (t24 : Addr) => gLoad P t_int (shI .i64) (.pointer (some t24)) ww3 fun (t25 : Int) => gCall P n_chain_of (.tup [.agg [.val, .val], .one .bool]) #[.int .i64 t25] ww3 fun (t28_1 : Value) (t28_2 : Value) (t28_3 : Bool) ww4 => gAlloc P t_chain_transform ww4 fun (x10 : Addr) ww5 => gStore P t_chain_transform (.pointer (some x10)) (.agg #[t28_1, t28_2]) ww5 fun ww6 => gLoad P t_func_sl_uint8_sl_uint8_bool_204 shV (.pointer (some (Addr.add x10 0))) ww6 fun (t33 : Value) => gCallV P t33 (.tup [.one .val, .one .bool]) #[out6] ww6 fun (t35_1 : Value) (t35_2 : Bool) ww7 => gIf t35_2 (gLen P t_sl_uint8 t35_1 fun (t41 : Nat) => gIf (decide ((t41 : Int) ≤ 1048576)) (gLit P t_sl_int 1 #[(0, .int .i64 t25)] ww7 fun (t47 : Value) ww8 => gApp P #[t_sl_int, t_sl_int] t_sl_int #[did7, t47] ww8 fun (t48 : Value) ww9 => I t35_1 t48 (i64 (t22 + 1)) ww9 ∧ μ t35_1 t48 (i64 (t22 + 1)) ww9 < μ out6 did7 t22 ww3) (I out6 did7 (i64 (t22 + 1)) ww7 ∧ μ out6 did7 (i64 (t22 + 1)) ww7 < μ out6 did7 t22 ww3)) (I out6 did7 (i64 (t22 + 1)) ww7 ∧ μ out6 did7 (i64 (t22 + 1)) ww7 < μ out6 did7 t22 ww3)) (R (.returned (.tuple #[out6, did7])) ww3))) :
    Calls P n_chain_Forward #[b0, tags1] w R :=
  calls_of hmix (An := ⟨[(6, [(6, .val), (7, .val), (22, .int .i64)])], []⟩) (fn := f136) func136 rfl rfl (by kernel_rfl) (Eq.mpr (by kernel_rfl) h)
/- valise/chain.Inverse -/
theorem of_chain_Inverse {x0 : Value} {most1 : Int} {tags2 : Value} {w : World} {R : Ending → World → Prop} (h : gCall P n_chain_Right shB #[tags2] w fun (t16 : Bool) ww1 => gIf (!t16) (R (.returned (.tuple #[.slice none 0 0, .int .i64 1])) ww1) (∃ J0 : World → Prop, (gLen P t_sl_int tags2 fun (t19 : Nat) => gIf ((t19 : Int) == 0) (gLen P t_sl_uint8 x0 fun (t23 : Nat) => gIf (decide ((t23 : Int) > (if 0 > most1 then 0 else most1))) (R (.returned (.tuple #[.slice none 0 0, .int .i64 5])) ww1) (J0 ww1)) (J0 ww1)) ∧ ∀ (_ : Env)  (ww2 : World), J0 ww2 → gCall P n_bytes_Clone shV #[x0] ww2 fun (t29 : Value) ww3 => gLen P t_sl_int tags2 fun (t31 : Nat) => ∃ (I : Value → Int → World → Prop) (μ : Value → Int → World → Nat), I t29 (i64 ((t31 : Int) - 1)) ww3 ∧ ∀ (_ : Env) (out8 : Value) (i9 : Int) (ww4 : World), I out8 i9 ww4 → gIf (decide (i9 ≥ 0)) (∃ J1 : Int → World → Prop, (gIf (i9 == 0) (J1 most1 ww4) (J1 1048576 ww4)) ∧ ∀ (_ : Env) (limit10 : Int) (ww5 : World), J1 limit10 ww5 → gIdx P t_sl_int tags2 (.int .i64 i9) fun (t43 : Addr) => gLoad P t_int (shI .i64) (.pointer (some t43)) ww5 fun (t44 : Int) => gCall P n_chain_of (.tup [.agg [.val, .val], .one .bool]) #[.int .i64 t44] ww5 fun (t45_1 : Value) (t45_2 : Value) (t45_3 : Bool) ww6 => gAlloc P t_chain_transform ww6 fun (y11 : Addr) ww7 => gStore P t_chain_transform (.pointer (some y11)) (.agg #[t45_1, t45_2]) ww7 fun ww8 => gLoad P t_func_sl_uint8_int_sl_uint8_api_Errno shV (.pointer (some (Addr.add y11 1))) ww8 fun (t50 : Value) => gCallV P t50 (.tup [.one .val, .one (.int .i64)]) #[out8, .int .i64 limit10] ww8 fun (t53_1 : Value) (t53_2 : Int) ww9 => gIf (t53_2 != 0) (R (.returned (.tuple #[.slice none 0 0, .int .i64 t53_2])) ww9) (I t53_1 (i64 (i9 - 1)) ww9 ∧ μ t53_1 (i64 (i9 - 1)) ww9 < μ out8 i9 ww4)) (R (.returned (.tuple #[out8, .int .i64 0])) ww4))) :
    Calls P n_chain_Inverse #[x0, .int .i64 most1, tags2] w R :=
  calls_of hmix (An := ⟨[(7, [(8, .val), (9, .int .i64)])], [(5, []), (12, [(10, .int .i64)])]⟩) (fn := f137) func137 rfl rfl (by kernel_rfl) (Eq.mpr (by kernel_rfl) h)
/- bytes.Equal -/
theorem of_bytes_Equal {a0 : Value} {b1 : Value} {w : World} {R : Ending → World → Prop} (h : gConv P t_sl_uint8 t_string shS a0 w fun (t6 : ByteArray) ww1 => gConv P t_sl_uint8 t_string shS b1 ww1 fun (t8 : ByteArray) ww2 => R (.returned (.bool (t6.toList == t8.toList))) ww2) :
    Calls P n_bytes_Equal #[a0, b1] w R :=
  calls_of hmix (An := ⟨[], []⟩) (fn := f138) func138 rfl rfl (by kernel_rfl) (Eq.mpr (by kernel_rfl) h)
/- bytes.Clone -/
theorem of_bytes_Clone {b0 : Value} {w : World} {R : Ending → World → Prop} (h : gEq P .eql t_sl_uint8 b0 (.slice none 0 0) fun (t4 : Bool) => gIf t4 (R (.returned (.slice none 0 0)) w) (gLit P t_sl_uint8 0 #[] w fun (t5 : Value) ww1 => gApp P #[t_sl_uint8, t_sl_uint8] t_sl_uint8 #[t5, b0] ww1 fun (t7 : Value) ww2 => R (.returned (t7)) ww2)) :
    Calls P n_bytes_Clone #[b0] w R :=
  calls_of hmix (An := ⟨[], []⟩) (fn := f139) func139 rfl rfl (by kernel_rfl) (Eq.mpr (by kernel_rfl) h)
/- valise/stream.right -/
/- valise/coder.NewEncoder -/
end Go.Proofs.YtiimlfgjnapgjaaGreatDoorV

/- Functions in their shallow form: what is shown of it holds of a call. -/
namespace Go.Proofs.YtiimlfgjnapgjaaGreatDoorV
open Go Go.Proofs.Tryz
set_option linter.unusedVariables false
set_option maxRecDepth 100000
/- valise/model.New -/
/- (*valise/stream.packer).put -/
/- (*valise/coder.Encoder).Flush -/
/- valise/crc.Table -/
theorem of_crc_Table {w : World} {R : Ending → World → Prop} (h : gAlloc P t_ar256_uint32 w fun (t0 : Addr) ww1 => gAlloc P t_ar256_uint32 ww1 fun (t1 : Addr) ww2 => ∃ (I : Int → World → Prop) (μ : Int → World → Nat), I 0 ww2 ∧ ∀ (_ : Env) (t4 : Int) (ww3 : World), I t4 ww3 → gIf (decide (t4 < 256)) (∃ (I1 : Int → Int → World → Prop) (μ1 : Int → Int → World → Nat), I1 (u32 t4) 0 ww3 ∧ ∀ (_ : Env) (v3 : Int) (t9 : Int) (ww4 : World), I1 v3 t9 ww4 → gIf (decide (t9 < 8)) (gIf ((iAnd .u32 v3 1) != 0) (I1 (iXor .u32 (iShr .u32 v3 1) 3988292384) (i64 (t9 + 1)) ww4 ∧ μ1 (iXor .u32 (iShr .u32 v3 1) 3988292384) (i64 (t9 + 1)) ww4 < μ1 v3 t9 ww4) (I1 (iShr .u32 v3 1) (i64 (t9 + 1)) ww4 ∧ μ1 (iShr .u32 v3 1) (i64 (t9 + 1)) ww4 < μ1 v3 t9 ww4)) (gIdx P t_ar256_uint32 (.pointer (some t1)) (.int .i64 t4) fun (t22 : Addr) => gStore P t_uint32 (.pointer (some t22)) (.int .u32 v3) ww4 fun ww5 => I (i64 (t4 + 1)) ww5 ∧ μ (i64 (t4 + 1)) ww5 < μ t4 ww3)) (gLoad P t_ar256_uint32 shA (.pointer (some t1)) ww3 fun (t24 : Array Value) => gStore P t_ar256_uint32 (.pointer (some t0)) (.agg t24) ww3 fun ww6 => gLoad P t_ar256_uint32 shA (.pointer (some t0)) ww6 fun (r0_0 : Array Value) => R (.returned (.agg r0_0)) ww6)) :
    Calls P n_crc_Table #[] w R :=
  calls_of hmix (An := ⟨[(3, [(4, .int .i64)]), (7, [(3, .int .u32), (9, .int .i64)])], []⟩) (fn := f145) func145 rfl rfl (by kernel_rfl) (Eq.mpr (by kernel_rfl) h)
/- valise/mac.with -/
/- (valise/mac.keyed).tag -/
/- valise/chacha.Block -/
/- (*valise/num.Writer).Big -/
/- internal/bytealg.CompareString -/
theorem of_internal_bytealg_CompareString {a0 : ByteArray} {b1 : ByteArray} {w : World} {R : Ending → World → Prop} (h : gExt P n_internal_bytealg_abigen_runtime_cmpstring (shI .i64) #[.string a0, .string b1] w fun (t7 : Int) ww1 => R (.returned (.int .i64 t7)) ww1) :
    Calls P n_internal_bytealg_CompareString #[.string a0, .string b1] w R :=
  calls_of hmix (An := ⟨[], []⟩) (fn := f150) func150 rfl rfl (by kernel_rfl) (Eq.mpr (by kernel_rfl) h)
/- slices.rotateLeft[valise/api.Entry] -/
/- (*valise/num.Reader).Err -/
/- (*valise/box.parser).options -/
/- (*valise/box.parser).small -/
/- (*valise/box.parser).item -/
/- valise/stream.Unpack -/
/- (*valise/num.Reader).End -/
/- (*valise/num.Reader).look -/
theorem of_num_Reader_look {r0 : Option Addr} {w : World} {R : Ending → World → Prop} (h : ∃ J0 : World → Prop, (∃ (I : Int → Int → World → Prop) (μ : Int → Int → World → Nat), I 0 0 w ∧ ∀ (_ : Env) (v5 : Int) (t8 : Int) (ww1 : World), I v5 t8 ww1 → gIf (decide (t8 < 10)) (gNil r0 fun (t12 : Addr) => gLoadB P t_int (shI .i64) (.pointer (some (Addr.add t12 1))) (fun w' => w' = ww1.drew) fun (t14 : Int) => gNil r0 fun (t18 : Addr) => gLoadB P t_sl_uint8 shV (.pointer (some (Addr.add t18 0))) (fun w' => w' = ww1.drew) fun (t20 : Value) => gLen P t_sl_uint8 t20 fun (t21 : Nat) => gIf (decide ((i64 (t14 + t8)) ≥ (t21 : Int))) (R (.returned (.tuple #[.int .u64 0, .int .i64 0, .int .i64 3])) ww1.drew) (gNil r0 fun (t24 : Addr) => gLoadB P t_sl_uint8 shV (.pointer (some (Addr.add t24 0))) (fun w' => w' = ww1.drew.drew) fun (t26 : Value) => gNil r0 fun (t28 : Addr) => gLoadB P t_int (shI .i64) (.pointer (some (Addr.add t28 1))) (fun w' => w' = ww1.drew.drew) fun (t30 : Int) => gIdx P t_sl_uint8 t26 (.int .i64 (i64 (t30 + t8))) fun (t33 : Addr) => gLoadB P t_uint8 (shI .u8) (.pointer (some t33)) (fun w' => w' = ww1.drew.drew) fun (t34 : Int) => gBin P .shl t_uint64 (shI .u64) (.int .u64 (u64 (iAnd .u8 t34 127))) (.int .i64 (i64 (7 * t8))) fun (t41 : Int) => ∃ J1 : World → Prop, (gIf (t8 == 9) (gIf (decide (t34 > 1)) (J0 ww1.drew.drew) (J1 ww1.drew.drew)) (J1 ww1.drew.drew)) ∧ ∀ (_ : Env)  (ww2 : World), J1 ww2 → gIf (decide (t34 < 128)) (gIf (t34 == 0) (gIf (decide (t8 > 0)) (J0 ww2) (gNil r0 fun (t59 : Addr) => gLoadB P t_int (shI .i64) (.pointer (some (Addr.add t59 1))) (fun w' => w' = ww2.drew) fun (t61 : Int) => R (.returned (.tuple #[.int .u64 (iOr .u64 v5 t41), .int .i64 (i64 ((i64 (t61 + t8)) + 1)), .int .i64 0])) ww2.drew)) (gNil r0 fun (t59 : Addr) => gLoadB P t_int (shI .i64) (.pointer (some (Addr.add t59 1))) (fun w' => w' = ww2.drew) fun (t61 : Int) => R (.returned (.tuple #[.int .u64 (iOr .u64 v5 t41), .int .i64 (i64 ((i64 (t61 + t8)) + 1)), .int .i64 0])) ww2.drew)) (I (iOr .u64 v5 t41) (i64 (t8 + 1)) ww2 ∧ μ (iOr .u64 v5 t41) (i64 (t8 + 1)) ww2 < μ v5 t8 ww1))) (J0 ww1)) ∧ ∀ (_ : Env)  (ww3 : World), J0 ww3 → R (.returned (.tuple #[.int .u64 0, .int .i64 0, .int .i64 4])) ww3) :
    Calls P n_num_Reader_look #[.pointer r0] w R :=
  calls_of hmix (An := ⟨[(3, [(5, .int .u64), (8, .int .i64)])], [(10, []), (14, [])]⟩) (fn := f158) func158 rfl rfl (by kernel_rfl) (Eq.mpr (by kernel_rfl) h)
/- valise/audio.Pack -/
/- valise/audio.Unpack -/
/- valise/image.Pack -/
/- valise/image.Unpack -/
/- valise/table.Pack -/
/- valise/table.Unpack -/
/- valise/words.Pack -/
/- valise/words.Unpack -/
/- valise/text.Lines -/
/- valise/text.Unlines -/
/- valise/text.Caps -/
/- valise/text.Uncaps -/
/- slices.Index[[]int,int] -/
theorem of_slices_Index_int_int {s0 : Value} {v1 : Int} {w : World} {R : Ending → World → Prop} (h : gLen P t_sl_int s0 fun (t7 : Nat) => ∃ (I : Int → World → Prop) (μ : Int → World → Nat), I 0 w ∧ ∀ (_ : Env) (t8 : Int) (ww1 : World), I t8 ww1 → gIf (decide (t8 < (t7 : Int))) (gIdx P t_sl_int s0 (.int .i64 t8) fun (t14 : Addr) => gLoad P t_int (shI .i64) (.pointer (some t14)) ww1 fun (t15 : Int) => gIf (v1 == t15) (R (.returned (.int .i64 t8)) ww1) (I (i64 (t8 + 1)) ww1 ∧ μ (i64 (t8 + 1)) ww1 < μ t8 ww1)) (R (.returned (.int .i64 (-1))) ww1)) :
    Calls P n_slices_Index_int_int #[s0, .int .i64 v1] w R :=
  calls_of hmix (An := ⟨[(2, [(8, .int .i64)])], []⟩) (fn := f171) func171 rfl rfl (by kernel_rfl) (Eq.mpr (by kernel_rfl) h)
/- strings.Index -/
theorem of_strings_Index {s0 : ByteArray} {substr1 : ByteArray} {w : World} {R : Ending → World → Prop} (h : gCall P n_internal_stringslite_Index (shI .i64) #[.string s0, .string substr1] w fun (t7 : Int) ww1 => R (.returned (.int .i64 t7)) ww1) :
    Calls P n_strings_Index #[.string s0, .string substr1] w R :=
  calls_of hmix (An := ⟨[], []⟩) (fn := f172) func172 rfl rfl (by kernel_rfl) (Eq.mpr (by kernel_rfl) h)
/- slices.IndexFunc[[]string,string] -/
theorem of_slices_IndexFunc_string_string {s0 : Value} {f1 : Value} {w : World} {R : Ending → World → Prop} (h : gLen P t_sl_string s0 fun (t7 : Nat) => ∃ (I : Int → World → Prop) (μ : Int → World → Nat), I 0 w ∧ ∀ (_ : Env) (t8 : Int) (ww1 : World), I t8 ww1 → gIf (decide (t8 < (t7 : Int))) (gIdx P t_sl_string s0 (.int .i64 t8) fun (t14 : Addr) => gLoad P t_string shS (.pointer (some t14)) ww1 fun (t15 : ByteArray) => gCallV P f1 shB #[.string t15] ww1 fun (t16 : Bool) ww2 => gIf t16 (R (.returned (.int .i64 t8)) ww2) (I (i64 (t8 + 1)) ww2 ∧ μ (i64 (t8 + 1)) ww2 < μ t8 ww1)) (R (.returned (.int .i64 (-1))) ww1)) :
    Calls P n_slices_IndexFunc_string_string #[s0, f1] w R :=
  calls_of hmix (An := ⟨[(2, [(8, .int .i64)])], []⟩) (fn := f173) func173 rfl rfl (by kernel_rfl) (Eq.mpr (by kernel_rfl) h)
/- strings.genSplit -/
theorem of_strings_genSplit {s0 : ByteArray} {sep1 : ByteArray} {sepSave2 : Int} {n3 : Int} {w : World} {R : Ending → World → Prop} (h : gIf (n3 == 0) (R (.returned (.slice none 0 0)) w) (gIf (sep1.toList == (ByteArray.mk #[]).toList) (gCall P n_strings_explode shV #[.string s0, .int .i64 n3] w fun (t18 : Value) ww1 => R (.returned (t18)) ww1) (∃ J0 : Int → World → Prop, (gIf (decide (n3 < 0)) (gCall P n_strings_Count (shI .i64) #[.string s0, .string sep1] w fun (t23 : Int) ww2 => J0 (i64 (t23 + 1)) ww2) (J0 n3 w)) ∧ ∀ (_ : Env) (n3_1 : Int) (ww3 : World), J0 n3_1 ww3 → gMake P t_sl_string (.int .i64 (if (i64 ((s0.size : Int) + 1)) < n3_1 then (i64 ((s0.size : Int) + 1)) else n3_1)) (.int .i64 (if (i64 ((s0.size : Int) + 1)) < n3_1 then (i64 ((s0.size : Int) + 1)) else n3_1)) ww3 fun (t31 : Value) ww4 => ∃ (I : ByteArray → Int → World → Prop) (μ : ByteArray → Int → World → Nat), I s0 0 ww4 ∧ ∀ (_ : Env) (s0_1 : ByteArray) (i10 : Int) (ww5 : World), I s0_1 i10 ww5 → gIf (decide (i10 < (i64 ((if (i64 ((s0.size : Int) + 1)) < n3_1 then (i64 ((s0.size : Int) + 1)) else n3_1) - 1)))) (gCall P n_strings_Index (shI .i64) #[.string s0_1, .string sep1] ww5 fun (t39 : Int) ww6 => gIf (decide (t39 < 0)) (gIdx P t_sl_string t31 (.int .i64 i10) fun (t61 : Addr) => gStore P t_string (.pointer (some t61)) (.string s0_1) ww6 fun ww7 => gSlice P t_sl_string t31 none (some (.int .i64 (i64 (i10 + 1)))) none fun (t65 : Value) => R (.returned (t65)) ww7) (gSliceS P t_string (.string s0_1) none (some (.int .i64 (i64 (t39 + sepSave2)))) none fun (t48 : ByteArray) => gIdx P t_sl_string t31 (.int .i64 i10) fun (t49 : Addr) => gStore P t_string (.pointer (some t49)) (.string t48) ww6 fun ww8 => gSliceS P t_string (.string s0_1) (some (.int .i64 (i64 (t39 + (sep1.size : Int))))) none none fun (t55 : ByteArray) => I t55 (i64 (i10 + 1)) ww8 ∧ μ t55 (i64 (i10 + 1)) ww8 < μ s0_1 i10 ww5)) (gIdx P t_sl_string t31 (.int .i64 i10) fun (t61 : Addr) => gStore P t_string (.pointer (some t61)) (.string s0_1) ww5 fun ww9 => gSlice P t_sl_string t31 none (some (.int .i64 (i64 (i10 + 1)))) none fun (t65 : Value) => R (.returned (t65)) ww9)))) :
    Calls P n_strings_genSplit #[.string s0, .string sep1, .int .i64 sepSave2, .int .i64 n3] w R :=
  calls_of hmix (An := ⟨[(11, [(0, .str), (10, .int .i64)])], [(7, [(3, .int .i64)])]⟩) (fn := f174) func174 rfl rfl (by kernel_rfl) (Eq.mpr (by kernel_rfl) h)
/- slices.insertionSortCmpFunc[valise/api.Entry] -/
theorem of_slices_insertionSortCmpFunc_api_Entry {data0 : Value} {a1 : Int} {b2 : Int} {cmp3 : Value} {w : World} {R : Ending → World → Prop} (h : ∃ (I : Int → World → Prop) (μ : Int → World → Nat), I (i64 (a1 + 1)) w ∧ ∀ (_ : Env) (i8 : Int) (ww1 : World), I i8 ww1 → gIf (decide (i8 < b2)) (∃ (I1 : Int → World → Prop) (μ1 : Int → World → Nat), I1 i8 ww1 ∧ ∀ (_ : Env) (j9 : Int) (ww2 : World), I1 j9 ww2 → ∃ J0 : World → Prop, (∃ B : World → Prop, B ww2.drew ∧ gIf (decide (j9 > a1)) (gIdx P t_sl_api_Entry data0 (.int .i64 j9) fun (t25 : Addr) => gLoadB P t_api_Entry (.part (.agg [.str, .val])) (.pointer (some t25)) B fun (t26_1 : ByteArray) (t26_2 : Value) => gIdx P t_sl_api_Entry data0 (.int .i64 (i64 (j9 - 1))) fun (t30 : Addr) => gLoadB P t_api_Entry (.part (.agg [.str, .val])) (.pointer (some t30)) B fun (t31_1 : ByteArray) (t31_2 : Value) => gCallV P cmp3 (shI .i64) #[.agg #[.string t26_1, t26_2], .agg #[.string t31_1, t31_2]] ww2.drew fun (t32 : Int) ww3 => B ww3 ∧ gIf (decide (t32 < 0)) (J0 ww3) (I (i64 (i8 + 1)) ww3 ∧ μ (i64 (i8 + 1)) ww3 < μ i8 ww1)) (I (i64 (i8 + 1)) ww2.drew ∧ μ (i64 (i8 + 1)) ww2.drew < μ i8 ww1)) ∧ ∀ (_ : Env)  (ww4 : World), J0 ww4 → ∃ B1 C1 : World → Prop, (B1 ww4.drew ∧ C1 ww4.drew) ∧ gIdx P t_sl_api_Entry data0 (.int .i64 (i64 (j9 - 1))) fun (t45 : Addr) => gLoadB P t_api_Entry (.part (.agg [.str, .val])) (.pointer (some t45)) C1 fun (t46_1 : ByteArray) (t46_2 : Value) => gIdx P t_sl_api_Entry data0 (.int .i64 j9) fun (t49 : Addr) => gLoadB P t_api_Entry (.part (.agg [.str, .val])) (.pointer (some t49)) C1 fun (t50_1 : ByteArray) (t50_2 : Value) => gIdx P t_sl_api_Entry data0 (.int .i64 j9) fun (t51 : Addr) => gStore P t_api_Entry (.pointer (some t51)) (.agg #[.string t46_1, t46_2]) ww4.drew fun ww5 => B1 ww5 ∧ gIdx P t_sl_api_Entry data0 (.int .i64 (i64 (j9 - 1))) fun (t52 : Addr) => gStore P t_api_Entry (.pointer (some t52)) (.agg #[.string t50_1, t50_2]) ww5 fun ww6 => B1 ww6 ∧ I1 (i64 (j9 - 1)) ww6 ∧ μ1 (i64 (j9 - 1)) ww6 < μ1 j9 ww2) (R (.returned (.tuple #[])) ww1)) :
    Calls P n_slices_insertionSortCmpFunc_api_Entry #[data0, .int .i64 a1, .int .i64 b2, cmp3] w R :=
  calls_of hmix (An := ⟨[(1, [(8, .int .i64)]), (4, [(9, .int .i64)])], [(6, [])]⟩) (fn := f175) func175 rfl rfl (by kernel_rfl) (Eq.mpr (by kernel_rfl) h)
/- slices.symMergeCmpFunc[valise/api.Entry] -/
theorem of_slices_symMergeCmpFunc_api_Entry {data0 : Value} {a1 : Int} {m2 : Int} {b3 : Int} {cmp4 : Value} {w : World} {R : Ending → World → Prop} (h : gIf ((i64 (m2 - a1)) == 1) (∃ (I : Int → Int → World → Prop) (μ : Int → Int → World → Nat), I m2 b3 w ∧ ∀ (_ : Env) (i10 : Int) (j11 : Int) (ww1 : World), I i10 j11 ww1 → gIf (decide (i10 < j11)) (∃ B : World → Prop, B ww1.drew ∧ gIdx P t_sl_api_Entry data0 (.int .i64 (i64 (iShr .u64 (u64 (i64 (i10 + j11))) 1))) fun (t43 : Addr) => gLoadB P t_api_Entry (.part (.agg [.str, .val])) (.pointer (some t43)) B fun (t44_1 : ByteArray) (t44_2 : Value) => gIdx P t_sl_api_Entry data0 (.int .i64 a1) fun (t47 : Addr) => gLoadB P t_api_Entry (.part (.agg [.str, .val])) (.pointer (some t47)) B fun (t48_1 : ByteArray) (t48_2 : Value) => gCallV P cmp4 (shI .i64) #[.agg #[.string t44_1, t44_2], .agg #[.string t48_1, t48_2]] ww1.drew fun (t49 : Int) ww2 => B ww2 ∧ gIf (decide (t49 < 0)) (I (i64 ((i64 (iShr .u64 (u64 (i64 (i10 + j11))) 1)) + 1)) j11 ww2 ∧ μ (i64 ((i64 (iShr .u64 (u64 (i64 (i10 + j11))) 1)) + 1)) j11 ww2 < μ i10 j11 ww1) (I i10 (i64 (iShr .u64 (u64 (i64 (i10 + j11))) 1)) ww2 ∧ μ i10 (i64 (iShr .u64 (u64 (i64 (i10 + j11))) 1)) ww2 < μ i10 j11 ww1)) (∃ (I1 : Int → World → Prop) (μ1 : Int → World → Nat), I1 a1 ww1 ∧ ∀ (_ : Env) (k13 : Int) (ww3 : World), I1 k13 ww3 → gIf (decide (k13 < (i64 (i10 - 1)))) (∃ B1 C1 : World → Prop, (B1 ww3.drew ∧ C1 ww3.drew) ∧ gIdx P t_sl_api_Entry data0 (.int .i64 (i64 (k13 + 1))) fun (t69 : Addr) => gLoadB P t_api_Entry (.part (.agg [.str, .val])) (.pointer (some t69)) C1 fun (t70_1 : ByteArray) (t70_2 : Value) => gIdx P t_sl_api_Entry data0 (.int .i64 k13) fun (t73 : Addr) => gLoadB P t_api_Entry (.part (.agg [.str, .val])) (.pointer (some t73)) C1 fun (t74_1 : ByteArray) (t74_2 : Value) => gIdx P t_sl_api_Entry data0 (.int .i64 k13) fun (t75 : Addr) => gStore P t_api_Entry (.pointer (some t75)) (.agg #[.string t70_1, t70_2]) ww3.drew fun ww4 => B1 ww4 ∧ gIdx P t_sl_api_Entry data0 (.int .i64 (i64 (k13 + 1))) fun (t76 : Addr) => gStore P t_api_Entry (.pointer (some t76)) (.agg #[.string t74_1, t74_2]) ww4 fun ww5 => B1 ww5 ∧ I1 (i64 (k13 + 1)) ww5 ∧ μ1 (i64 (k13 + 1)) ww5 < μ1 k13 ww3) (R (.returned (.tuple #[])) ww3))) (gIf ((i64 (b3 - m2)) == 1) (∃ (I : Int → Int → World → Prop) (μ : Int → Int → World → Nat), I a1 m2 w ∧ ∀ (_ : Env) (i14 : Int) (j15 : Int) (ww6 : World), I i14 j15 ww6 → gIf (decide (i14 < j15)) (∃ B2 : World → Prop, B2 ww6.drew ∧ gIdx P t_sl_api_Entry data0 (.int .i64 m2) fun (t95 : Addr) => gLoadB P t_api_Entry (.part (.agg [.str, .val])) (.pointer (some t95)) B2 fun (t96_1 : ByteArray) (t96_2 : Value) => gIdx P t_sl_api_Entry data0 (.int .i64 (i64 (iShr .u64 (u64 (i64 (i14 + j15))) 1))) fun (t99 : Addr) => gLoadB P t_api_Entry (.part (.agg [.str, .val])) (.pointer (some t99)) B2 fun (t100_1 : ByteArray) (t100_2 : Value) => gCallV P cmp4 (shI .i64) #[.agg #[.string t96_1, t96_2], .agg #[.string t100_1, t100_2]] ww6.drew fun (t101 : Int) ww7 => B2 ww7 ∧ gIf (!(decide (t101 < 0))) (I (i64 ((i64 (iShr .u64 (u64 (i64 (i14 + j15))) 1)) + 1)) j15 ww7 ∧ μ (i64 ((i64 (iShr .u64 (u64 (i64 (i14 + j15))) 1)) + 1)) j15 ww7 < μ i14 j15 ww6) (I i14 (i64 (iShr .u64 (u64 (i64 (i14 + j15))) 1)) ww7 ∧ μ i14 (i64 (iShr .u64 (u64 (i64 (i14 + j15))) 1)) ww7 < μ i14 j15 ww6)) (∃ (I1 : Int → World → Prop) (μ1 : Int → World → Nat), I1 m2 ww6 ∧ ∀ (_ : Env) (k17 : Int) (ww8 : World), I1 k17 ww8 → gIf (decide (k17 > i14)) (∃ B3 C3 : World → Prop, (B3 ww8.drew ∧ C3 ww8.drew) ∧ gIdx P t_sl_api_Entry data0 (.int .i64 (i64 (k17 - 1))) fun (t121 : Addr) => gLoadB P t_api_Entry (.part (.agg [.str, .val])) (.pointer (some t121)) C3 fun (t122_1 : ByteArray) (t122_2 : Value) => gIdx P t_sl_api_Entry data0 (.int .i64 k17) fun (t125 : Addr) => gLoadB P t_api_Entry (.part (.agg [.str, .val])) (.pointer (some t125)) C3 fun (t126_1 : ByteArray) (t126_2 : Value) => gIdx P t_sl_api_Entry data0 (.int .i64 k17) fun (t127 : Addr) => gStore P t_api_Entry (.pointer (some t127)) (.agg #[.string t122_1, t122_2]) ww8.drew fun ww9 => B3 ww9 ∧ gIdx P t_sl_api_Entry data0 (.int .i64 (i64 (k17 - 1))) fun (t128 : Addr) => gStore P t_api_Entry (.pointer (some t128)) (.agg #[.string t126_1, t126_2]) ww9 fun ww10 => B3 ww10 ∧ I1 (i64 (k17 - 1)) ww10 ∧ μ1 (i64 (k17 - 1)) ww10 < μ1 k17 ww8) (R (.returned (.tuple #[])) ww8))) (∃ J0 : Int → Int → World → Prop, (gIf (decide (m2 > (i64 (iShr .u64 (u64 (i64 (a1 + b3))) 1)))) (J0 (i64 ((i64 ((i64 (iShr .u64 (u64 (i64 (a1 + b3))) 1)) + m2)) - b3)) (i64 (iShr .u64 (u64 (i64 (a1 + b3))) 1)) w) (J0 a1 m2 w)) ∧ ∀ (_ : Env) (start20 : Int) (r21 : Int) (ww11 : World), J0 start20 r21 ww11 → ∃ (I : Int → Int → World → Prop) (μ : Int → Int → World → Nat), I start20 r21 ww11 ∧ ∀ (_ : Env) (start20_1 : Int) (r21_1 : Int) (ww12 : World), I start20_1 r21_1 ww12 → gIf (decide (start20_1 < r21_1)) (∃ B4 : World → Prop, B4 ww12.drew ∧ gIdx P t_sl_api_Entry data0 (.int .i64 (i64 ((i64 ((i64 ((i64 (iShr .u64 (u64 (i64 (a1 + b3))) 1)) + m2)) - 1)) - (i64 (iShr .u64 (u64 (i64 (start20_1 + r21_1))) 1))))) fun (t163 : Addr) => gLoadB P t_api_Entry (.part (.agg [.str, .val])) (.pointer (some t163)) B4 fun (t164_1 : ByteArray) (t164_2 : Value) => gIdx P t_sl_api_Entry data0 (.int .i64 (i64 (iShr .u64 (u64 (i64 (start20_1 + r21_1))) 1))) fun (t167 : Addr) => gLoadB P t_api_Entry (.part (.agg [.str, .val])) (.pointer (some t167)) B4 fun (t168_1 : ByteArray) (t168_2 : Value) => gCallV P cmp4 (shI .i64) #[.agg #[.string t164_1, t164_2], .agg #[.string t168_1, t168_2]] ww12.drew fun (t169 : Int) ww13 => B4 ww13 ∧ gIf (!(decide (t169 < 0))) (I (i64 ((i64 (iShr .u64 (u64 (i64 (start20_1 + r21_1))) 1)) + 1)) r21_1 ww13 ∧ μ (i64 ((i64 (iShr .u64 (u64 (i64 (start20_1 + r21_1))) 1)) + 1)) r21_1 ww13 < μ start20_1 r21_1 ww12) (I start20_1 (i64 (iShr .u64 (u64 (i64 (start20_1 + r21_1))) 1)) ww13 ∧ μ start20_1 (i64 (iShr .u64 (u64 (i64 (start20_1 + r21_1))) 1)) ww13 < μ start20_1 r21_1 ww12)) (∃ J1 : World → Prop, (gIf (decide (start20_1 < m2)) (gIf (decide (m2 < (i64 ((i64 ((i64 (iShr .u64 (u64 (i64 (a1 + b3))) 1)) + m2)) - start20_1)))) (gCall P n_slices_rotateCmpFunc_api_Entry shU #[data0, .int .i64 start20_1, .int .i64 m2, .int .i64 (i64 ((i64 ((i64 (iShr .u64 (u64 (i64 (a1 + b3))) 1)) + m2)) - start20_1)), cmp4] ww12 fun  ww14 => J1 ww14) (J1 ww12)) (J1 ww12)) ∧ ∀ (_ : Env)  (ww15 : World), J1 ww15 → ∃ J2 : World → Prop, (gIf (decide (a1 < start20_1)) (gIf (decide (start20_1 < (i64 (iShr .u64 (u64 (i64 (a1 + b3))) 1)))) (gCall P n_slices_symMergeCmpFunc_api_Entry shU #[data0, .int .i64 a1, .int .i64 start20_1, .int .i64 (i64 (iShr .u64 (u64 (i64 (a1 + b3))) 1)), cmp4] ww15 fun  ww16 => J2 ww16) (J2 ww15)) (J2 ww15)) ∧ ∀ (_ : Env)  (ww17 : World), J2 ww17 → gIf (decide ((i64 (iShr .u64 (u64 (i64 (a1 + b3))) 1)) < (i64 ((i64 ((i64 (iShr .u64 (u64 (i64 (a1 + b3))) 1)) + m2)) - start20_1)))) (gIf (decide ((i64 ((i64 ((i64 (iShr .u64 (u64 (i64 (a1 + b3))) 1)) + m2)) - start20_1)) < b3)) (gCall P n_slices_symMergeCmpFunc_api_Entry shU #[data0, .int .i64 (i64 (iShr .u64 (u64 (i64 (a1 + b3))) 1)), .int .i64 (i64 ((i64 ((i64 (iShr .u64 (u64 (i64 (a1 + b3))) 1)) + m2)) - start20_1)), .int .i64 b3, cmp4] ww17 fun  ww18 => R (.returned (.tuple #[])) ww18) (R (.returned (.tuple #[])) ww17)) (R (.returned (.tuple #[])) ww17))))) :
    Calls P n_slices_symMergeCmpFunc_api_Entry #[data0, .int .i64 a1, .int .i64 m2, .int .i64 b3, cmp4] w R :=
  calls_of hmix (An := ⟨[(3, [(10, .int .i64), (11, .int .i64)]), (9, [(13, .int .i64)]), (15, [(14, .int .i64), (15, .int .i64)]), (21, [(17, .int .i64)]), (33, [(20, .int .i64), (21, .int .i64)])], [(32, [(20, .int .i64), (21, .int .i64)]), (41, []), (43, [])]⟩) (fn := f176) func176 rfl rfl (by kernel_rfl) (Eq.mpr (by kernel_rfl) h)
/- (*valise/wav.chunks).next -/
/- valise/wav.frame -/
/- (*valise/wav.chunks).skip -/
/- valise/picture.Bmp -/
/- valise/picture.Pnm -/
/- valise/table.Score -/
/- valise/coder.whole -/
/- valise/guess.New -/
/- valise/mix.New -/
/- valise/stage.New -/
/- (*valise/coder.Encoder).Encode -/
end Go.Proofs.YtiimlfgjnapgjaaGreatDoorV

/- Functions in their shallow form: what is shown of it holds of a call. -/
namespace Go.Proofs.YtiimlfgjnapgjaaGreatDoorV
open Go Go.Proofs.Tryz
set_option linter.unusedVariables false
set_option maxRecDepth 100000
/- (*valise/model.Model).Chance -/
/- (*valise/model.Model).Learn -/
/- valise/sha.Sum -/
/- valise/sha.New -/
/- (*valise/sha.Hash).Fork -/
/- (*valise/sha.Hash).Write -/
/- (*valise/sha.Hash).Sum -/
/- valise/chacha.word -/
/- (*valise/chacha.state).rounds -/
/- slices.Reverse[[]valise/api.Entry,valise/api.Entry] -/
/- (*valise/box.parser).tags -/
/- valise/coder.NewDecoder -/
/- (*valise/stream.unpacker).next -/
/- (*valise/num.Reader).Left -/
/- valise/tracks.Split -/
/- valise/audio.all -/
/- valise/audio.read -/
/- valise/rice.Unpack -/
/- (valise/audio.predictor).restore -/
/- valise/tracks.Unmid -/
/- valise/tracks.Join -/
/- (*valise/image.packer).end -/
/- (*valise/image.packer).turn -/
/- (*valise/image.packer).wide -/
/- valise/filter.Apply -/
/- valise/filter.Undo -/
/- (*valise/image.packer).back -/
/- valise/colour.Apart -/
/- valise/table.Delta -/
/- valise/table.Undelta -/
/- valise/colour.Together -/
/- valise/words.Find -/
/- valise/words.Apply -/
/- valise/words.run -/
/- valise/words.Undo -/
/- bytes.Count -/
/- bytes.ReplaceAll -/
/- slices.Contains[[]byte,byte] -/
/- (*valise/text.writer).put -/
/- (*valise/text.writer).over -/
/- slices.ContainsFunc[[]byte,byte] -/
/- valise/text.capital -/
/- internal/stringslite.Index -/
theorem of_internal_stringslite_Index {s0 : ByteArray} {substr1 : ByteArray} {w : World} {R : Ending → World → Prop} (h : ∃ J0 : World → Prop, (∃ J1 : Bool → World → Prop, (gIf (!((substr1.size : Int) == 0)) (J1 (substr1.toList == s0.toList) w) (J1 true w)) ∧ ∀ (_ : Env) (t16 : Bool) (ww1 : World), J1 t16 ww1 → gIf t16 (R (.returned (.int .i64 0)) ww1) (gIf ((substr1.size : Int) == 1) (gIndex P t_string (shI .u8) (.string substr1) (.int .i64 0) fun (t29 : Int) => gCall P n_internal_stringslite_IndexByte (shI .i64) #[.string s0, .int .u8 t29] ww1 fun (t30 : Int) ww2 => R (.returned (.int .i64 t30)) ww2) (gIf (decide ((substr1.size : Int) ≥ (s0.size : Int))) (R (.returned (.int .i64 (-1))) ww1) (gLoad P t_int (shI .i64) (.pointer (some (⟨0, 0, none⟩))) ww1 fun (t38 : Int) => gIf (decide ((substr1.size : Int) ≤ t38)) (gIf (decide ((s0.size : Int) ≤ 64)) (gExt P n_internal_bytealg_IndexString (shI .i64) #[.string s0, .string substr1] ww1 fun (t47 : Int) ww3 => R (.returned (.int .i64 t47)) ww3) (J0 ww1)) (J0 ww1))))) ∧ ∀ (_ : Env)  (ww4 : World), J0 ww4 → gIndex P t_string (shI .u8) (.string substr1) (.int .i64 0) fun (t49 : Int) => gIndex P t_string (shI .u8) (.string substr1) (.int .i64 1) fun (t51 : Int) => ∃ (I : Int → Int → World → Prop) (μ : Int → Int → World → Nat), I 0 0 ww4 ∧ ∀ (_ : Env) (i8 : Int) (fails10 : Int) (ww5 : World), I i8 fails10 ww5 → gIf (decide (i8 < (i64 ((i64 ((s0.size : Int) - (substr1.size : Int))) + 1)))) (∃ J2 : Int → World → Prop, (gIndex P t_string (shI .u8) (.string s0) (.int .i64 i8) fun (t62 : Int) => gIf (t62 != t49) (gSliceS P t_string (.string s0) (some (.int .i64 (i64 (i8 + 1)))) (some (.int .i64 (i64 ((i64 ((s0.size : Int) - (substr1.size : Int))) + 1)))) none fun (t69 : ByteArray) => gCall P n_internal_stringslite_IndexByte (shI .i64) #[.string t69, .int .u8 t49] ww5 fun (t71 : Int) ww6 => gIf (decide (t71 < 0)) (R (.returned (.int .i64 (-1))) ww6) (J2 (i64 (i8 + (i64 (t71 + 1)))) ww6)) (J2 i8 ww5)) ∧ ∀ (_ : Env) (i8_1 : Int) (ww7 : World), J2 i8_1 ww7 → ∃ J3 : World → Prop, (gIndex P t_string (shI .u8) (.string s0) (.int .i64 (i64 (i8_1 + 1))) fun (t81 : Int) => gIf (t81 == t51) (gSliceS P t_string (.string s0) (some (.int .i64 i8_1)) (some (.int .i64 (i64 (i8_1 + (substr1.size : Int))))) none fun (t90 : ByteArray) => gIf (t90.toList == substr1.toList) (R (.returned (.int .i64 i8_1)) ww7) (J3 ww7)) (J3 ww7)) ∧ ∀ (_ : Env)  (ww8 : World), J3 ww8 → ∃ J4 : Bool → World → Prop, (gLoad P t_int (shI .i64) (.pointer (some (⟨0, 0, none⟩))) ww8 fun (t100 : Int) => gIf (decide ((substr1.size : Int) ≤ t100)) (gCall P n_internal_bytealg_Cutover (shI .i64) #[.int .i64 (i64 (i8_1 + 1))] ww8 fun (t105 : Int) ww9 => J4 (decide ((i64 (fails10 + 1)) > t105)) ww9) (J4 false ww8)) ∧ ∀ (_ : Env) (t107 : Bool) (ww10 : World), J4 t107 ww10 → gIf t107 (gSliceS P t_string (.string s0) (some (.int .i64 (i64 (i8_1 + 1)))) none none fun (t110 : ByteArray) => gExt P n_internal_bytealg_IndexString (shI .i64) #[.string t110, .string substr1] ww10 fun (t112 : Int) ww11 => gIf (decide (t112 ≥ 0)) (R (.returned (.int .i64 (i64 (t112 + (i64 (i8_1 + 1)))))) ww11) (R (.returned (.int .i64 (-1))) ww11)) (∃ J5 : Bool → World → Prop, (gLoad P t_int (shI .i64) (.pointer (some (⟨0, 0, none⟩))) ww10 fun (t119 : Int) => gIf (decide ((substr1.size : Int) > t119)) (gIf (decide ((i64 (fails10 + 1)) ≥ (i64 (4 + (iShr .i64 (i64 (i8_1 + 1)) 4))))) (J5 (decide ((i64 (i8_1 + 1)) < (i64 ((i64 ((s0.size : Int) - (substr1.size : Int))) + 1)))) ww10) (J5 false ww10)) (J5 false ww10)) ∧ ∀ (_ : Env) (t132 : Bool) (ww12 : World), J5 t132 ww12 → gIf t132 (gSliceS P t_string (.string s0) (some (.int .i64 (i64 (i8_1 + 1)))) none none fun (t135 : ByteArray) => gCall P n_internal_bytealg_IndexRabinKarp_string (shI .i64) #[.string t135, .string substr1] ww12 fun (t137 : Int) ww13 => gIf (decide (t137 < 0)) (R (.returned (.int .i64 (-1))) ww13) (R (.returned (.int .i64 (i64 ((i64 (i8_1 + 1)) + t137)))) ww13)) (I (i64 (i8_1 + 1)) (i64 (fails10 + 1)) ww12 ∧ μ (i64 (i8_1 + 1)) (i64 (fails10 + 1)) ww12 < μ i8 fails10 ww5))) (R (.returned (.int .i64 (-1))) ww5)) :
    Calls P n_internal_stringslite_Index #[.string s0, .string substr1] w R :=
  calls_of hmix (An := ⟨[(15, [(8, .int .i64), (10, .int .i64)])], [(3, [(16, .bool)]), (10, []), (21, [(8, .int .i64)]), (23, []), (26, [(107, .bool)]), (31, [(132, .bool)])]⟩) (fn := f231) func231 rfl rfl (by kernel_rfl) (Eq.mpr (by kernel_rfl) h)
/- strings.explode -/
/- strings.Count -/
theorem of_strings_Count {s0 : ByteArray} {substr1 : ByteArray} {w : World} {R : Ending → World → Prop} (h : gIf ((substr1.size : Int) == 0) (gCall P n_unicode_utf8_RuneCountInString (shI .i64) #[.string s0] w fun (t11 : Int) ww1 => R (.returned (.int .i64 (i64 (t11 + 1)))) ww1) (gIf ((substr1.size : Int) == 1) (gIndex P t_string (shI .u8) (.string substr1) (.int .i64 0) fun (t18 : Int) => gExt P n_internal_bytealg_CountString (shI .i64) #[.string s0, .int .u8 t18] w fun (t19 : Int) ww2 => R (.returned (.int .i64 t19)) ww2) (∃ (I : ByteArray → Int → World → Prop) (μ : ByteArray → Int → World → Nat), I s0 0 w ∧ ∀ (_ : Env) (s0_1 : ByteArray) (n5 : Int) (ww3 : World), I s0_1 n5 ww3 → gCall P n_strings_Index (shI .i64) #[.string s0_1, .string substr1] ww3 fun (t22 : Int) ww4 => gIf (t22 == (-1)) (R (.returned (.int .i64 n5)) ww4) (gSliceS P t_string (.string s0_1) (some (.int .i64 (i64 (t22 + (substr1.size : Int))))) none none fun (t33 : ByteArray) => I t33 (i64 (n5 + 1)) ww4 ∧ μ t33 (i64 (n5 + 1)) ww4 < μ s0_1 n5 ww3)))) :
    Calls P n_strings_Count #[.string s0, .string substr1] w R :=
  calls_of hmix (An := ⟨[(6, [(0, .str), (5, .int .i64)])], []⟩) (fn := f233) func233 rfl rfl (by kernel_rfl) (Eq.mpr (by kernel_rfl) h)
/- slices.rotateCmpFunc[valise/api.Entry] -/
theorem of_slices_rotateCmpFunc_api_Entry {data0 : Value} {a1 : Int} {m2 : Int} {b3 : Int} {cmp4 : Value} {w : World} {R : Ending → World → Prop} (h : ∃ (I : Int → Int → World → Prop) (μ : Int → Int → World → Nat), I (i64 (m2 - a1)) (i64 (b3 - m2)) w ∧ ∀ (_ : Env) (i10 : Int) (j11 : Int) (ww1 : World), I i10 j11 ww1 → gIf (i10 != j11) (gIf (decide (i10 > j11)) (gCall P n_slices_swapRangeCmpFunc_api_Entry shU #[data0, .int .i64 (i64 (m2 - i10)), .int .i64 m2, .int .i64 j11, cmp4] ww1 fun  ww2 => I (i64 (i10 - j11)) j11 ww2 ∧ μ (i64 (i10 - j11)) j11 ww2 < μ i10 j11 ww1) (gCall P n_slices_swapRangeCmpFunc_api_Entry shU #[data0, .int .i64 (i64 (m2 - i10)), .int .i64 (i64 ((i64 (m2 + j11)) - i10)), .int .i64 i10, cmp4] ww1 fun  ww3 => I i10 (i64 (j11 - i10)) ww3 ∧ μ i10 (i64 (j11 - i10)) ww3 < μ i10 j11 ww1)) (gCall P n_slices_swapRangeCmpFunc_api_Entry shU #[data0, .int .i64 (i64 (m2 - i10)), .int .i64 m2, .int .i64 i10, cmp4] ww1 fun  ww4 => R (.returned (.tuple #[])) ww4)) :
    Calls P n_slices_rotateCmpFunc_api_Entry #[data0, .int .i64 a1, .int .i64 m2, .int .i64 b3, cmp4] w R :=
  calls_of hmix (An := ⟨[(2, [(10, .int .i64), (11, .int .i64)])], []⟩) (fn := f234) func234 rfl rfl (by kernel_rfl) (Eq.mpr (by kernel_rfl) h)
/- (*valise/picture.parser).little -/
/- valise/picture.side -/
/- valise/picture.right -/
/- (*valise/picture.signs).blank -/
/- (*valise/picture.signs).number -/
/- (*valise/picture.signs).is -/
/- valise/picture.white -/
/- valise/mix.Squash -/
/- (*valise/coder.span).take -/
/- (*valise/coder.span).mid -/
/- (*valise/coder.span).shift -/
/- (*valise/model.Model).contexts -/
/- (*valise/guess.Table).At -/
/- valise/mix.Stretch -/
end Go.Proofs.YtiimlfgjnapgjaaGreatDoorV

/- Functions in their shallow form: what is shown of it holds of a call. -/
namespace Go.Proofs.YtiimlfgjnapgjaaGreatDoorV
open Go Go.Proofs.Tryz
set_option linter.unusedVariables false
set_option maxRecDepth 100000
/- (*valise/mix.Mixer).Mix -/
/- (*valise/stage.Stage).Refine -/
/- (*valise/guess.Table).Learn -/
/- (*valise/mix.Mixer).Learn -/
/- (*valise/stage.Stage).Learn -/
/- valise/sha.constants -/
/- valise/sha.first -/
/- (*valise/sha.state).take -/
/- (*valise/chacha.state).quarter -/
/- (*valise/coder.Decoder).more -/
/- (*valise/coder.Decoder).Decode -/
/- valise/tracks.may -/
/- valise/audio.packed -/
/- valise/tracks.Mid -/
/- valise/audio.size -/
/- valise/bits.New -/
/- (*valise/bits.Reader).Bits -/
/- (*valise/rice.unpacker).next -/
/- (*valise/bits.Reader).Err -/
/- valise/rice.Pack -/
/- valise/lms.Restore -/
/- valise/fixed.Restore -/
/- valise/colour.Turn -/
/- valise/filter.right -/
/- valise/filter.Best -/
/- valise/filter.Row -/
/- valise/filter.Unrow -/
/- valise/colour.Back -/
/- valise/words.Find$1 -/
/- slices.SortedFunc[string] -/
/- maps.Keys[map[string]int,string,int] -/
/- valise/words.Find$2 -/
/- cmp.Or[int] -/
/- cmp.Compare[int] -/
/- cmp.Compare[string] -/
/- valise/words.first -/
/- slices.IndexFunc[[][]byte,[]byte] -/
/- valise/words.Apply$1 -/
/- slices.IndexFunc[[]byte,byte] -/
/- valise/words.run$1 -/
/- valise/words.letter -/
/- unicode/utf8.RuneCount -/
/- bytes.Index -/
/- bytes.Replace -/
/- slices.Index[[]byte,byte] -/
/- internal/stringslite.IndexByte -/
theorem of_internal_stringslite_IndexByte {s0 : ByteArray} {c1 : Int} {w : World} {R : Ending → World → Prop} (h : gExt P n_internal_bytealg_IndexByteString (shI .i64) #[.string s0, .int .u8 c1] w fun (t7 : Int) ww1 => R (.returned (.int .i64 t7)) ww1) :
    Calls P n_internal_stringslite_IndexByte #[.string s0, .int .u8 c1] w R :=
  calls_of hmix (An := ⟨[], []⟩) (fn := f295) func295 rfl rfl (by kernel_rfl) (Eq.mpr (by kernel_rfl) h)
/- internal/bytealg.Cutover -/
/- internal/bytealg.IndexRabinKarp[string] -/
/- unicode/utf8.DecodeRuneInString -/
/- slices.swapRangeCmpFunc[valise/api.Entry] -/
theorem of_slices_swapRangeCmpFunc_api_Entry {data0 : Value} {a1 : Int} {b2 : Int} {n3 : Int} {cmp4 : Value} {w : World} {R : Ending → World → Prop} (h : ∃ (I : Int → World → Prop) (μ : Int → World → Nat), I 0 w ∧ ∀ (_ : Env) (i10 : Int) (ww1 : World), I i10 ww1 → gIf (decide (i10 < n3)) (∃ B C : World → Prop, (B ww1.drew ∧ C ww1.drew) ∧ gIdx P t_sl_api_Entry data0 (.int .i64 (i64 (b2 + i10))) fun (t28 : Addr) => gLoadB P t_api_Entry (.part (.agg [.str, .val])) (.pointer (some t28)) C fun (t29_1 : ByteArray) (t29_2 : Value) => gIdx P t_sl_api_Entry data0 (.int .i64 (i64 (a1 + i10))) fun (t34 : Addr) => gLoadB P t_api_Entry (.part (.agg [.str, .val])) (.pointer (some t34)) C fun (t35_1 : ByteArray) (t35_2 : Value) => gIdx P t_sl_api_Entry data0 (.int .i64 (i64 (a1 + i10))) fun (t36 : Addr) => gStore P t_api_Entry (.pointer (some t36)) (.agg #[.string t29_1, t29_2]) ww1.drew fun ww2 => B ww2 ∧ gIdx P t_sl_api_Entry data0 (.int .i64 (i64 (b2 + i10))) fun (t37 : Addr) => gStore P t_api_Entry (.pointer (some t37)) (.agg #[.string t35_1, t35_2]) ww2 fun ww3 => B ww3 ∧ I (i64 (i10 + 1)) ww3 ∧ μ (i64 (i10 + 1)) ww3 < μ i10 ww1) (R (.returned (.tuple #[])) ww1)) :
    Calls P n_slices_swapRangeCmpFunc_api_Entry #[data0, .int .i64 a1, .int .i64 b2, .int .i64 n3, cmp4] w R :=
  calls_of hmix (An := ⟨[(1, [(10, .int .i64)])], []⟩) (fn := f302) func302 rfl rfl (by kernel_rfl) (Eq.mpr (by kernel_rfl) h)
/- (*valise/picture.signs).blank$1 -/
/- (*valise/picture.signs).remark -/
/- (*valise/picture.signs).number$1 -/
/- (*valise/guess.Table).Len -/
/- valise/guess.Chance -/
/- (*valise/guess.cells).place -/
/- (*valise/mix.Mixer).place -/
/- valise/stage.round -/
/- valise/guess.Next -/
/- valise/sha.primes -/
/- valise/sha.root -/
/- valise/sha.turn -/
/- valise/chacha.Quarter -/
/- valise/fixed.Best -/
/- (valise/audio.predictor).residual -/
/- (*valise/bits.Reader).in -/
/- (*valise/bits.place).has -/
/- (*valise/bits.place).step -/
/- (*valise/bits.Reader).Unary -/
/- valise/num.Unfold -/
/- (*valise/bits.place).Err -/
/- slices.Chunk[[]int32,int32] -/
/- valise/rice.Best -/
/- (*valise/bits.Writer).Bits -/
/- (*valise/rice.packer).put -/
/- (*valise/bits.Writer).Bytes -/
/- valise/lms.New -/
/- (*valise/lms.Filter).Guess -/
/- (*valise/lms.Filter).Learn -/
/- valise/fixed.guess -/
/- valise/fixed.right -/
/- valise/filter.weight -/
/- (*valise/filter.neighbours).look -/
/- (*valise/filter.around).guess -/
/- slices.Collect[string] -/
/- slices.SortFunc[[]string,string] -/
/- cmp.isNaN[int] -/
/- cmp.isNaN[string] -/
/- bytes.IndexByte -/
end Go.Proofs.YtiimlfgjnapgjaaGreatDoorV

/- Functions in their shallow form: what is shown of it holds of a call. -/
namespace Go.Proofs.YtiimlfgjnapgjaaGreatDoorV
open Go Go.Proofs.Tryz
set_option linter.unusedVariables false
set_option maxRecDepth 100000
/- internal/bytealg.IndexRabinKarp[[]byte] -/
/- unicode/utf8.DecodeRune -/
/- internal/bytealg.hashStr[string] -/
/- unicode/utf8.decodeRuneInStringSlow -/
/- valise/sha.power -/
/- math/bits.RotateLeft32 -/
/- valise/fixed.Weight -/
/- valise/fixed.Residual -/
/- valise/lms.Residual -/
/- (*valise/bits.place).Left -/
/- slices.Chunk[[]int32,int32]$1 -/
/- valise/rice.Cost -/
/- (*valise/bits.Writer).Bit -/
/- valise/num.Fold -/
/- (*valise/bits.Writer).Unary -/
/- valise/lms.sign -/
/- valise/fixed.guess$1 -/
/- valise/filter.of -/
/- (*valise/filter.around).paeth -/
/- slices.AppendSeq[[]string,string] -/
/- slices.pdqsortCmpFunc[string] -/
/- math/bits.Len -/
/- internal/bytealg.hashStr[[]byte] -/
/- unicode/utf8.decodeRuneSlow -/
/- math/bits.Mul64 -/
/- valise/filter.far -/
/- slices.insertionSortCmpFunc[string] -/
/- slices.heapSortCmpFunc[string] -/
/- slices.breakPatternsCmpFunc[string] -/
/- slices.choosePivotCmpFunc[string] -/
/- slices.reverseRangeCmpFunc[string] -/
/- slices.partialInsertionSortCmpFunc[string] -/
/- math/bits.Len32 -/
/- math/bits.Len64 -/
/- slices.siftDownCmpFunc[string] -/
/- slices.nextPowerOfTwo -/
/- (*slices.xorshift).Next -/
/- slices.medianAdjacentCmpFunc[string] -/
/- slices.medianCmpFunc[string] -/
/- slices.order2CmpFunc[string] -/
/- gosem.cut.vars -/
end Go.Proofs.YtiimlfgjnapgjaaGreatDoorV

/- All functions in their shallow form. -/

/- Small things that all texts of functions share. -/
namespace Go.Proofs.YtiimlfgjnapgjaaGreatDoorV
open Go Go.RowKit
/-- The element type of []byte. -/
noncomputable abbrev eB : TypeId := elOf P t_sl_uint8
theorem u8i {x : Int} (h : 0 ≤ x ∧ x < 256) : IntKind.u8.min ≤ x ∧ x ≤ IntKind.u8.max := by simp [IntKind.min, IntKind.max, IntKind.signed, IntKind.bits]; omega
/-- Bytes in new memory. -/
def NewB (w : World) (xs : List Int) (e : Ending) (w' : World) : Prop := ∃ v, e = .returned v ∧ Ev w w' ∧ ON .u8 eB w' w.heap.size v xs
/-- Bytes in new memory, or none, and an error. -/
def TupE (w : World) (r : List Int × Int) (e : Ending) (w' : World) : Prop := ∃ v, e = .returned (.tuple #[v, .int .i64 r.2]) ∧ Ev w w' ∧ ON .u8 eB w' w.heap.size v r.1
section
variable {P : Program} {w : World} {f : FuncId} {args : Array Value}
end
end Go.Proofs.YtiimlfgjnapgjaaGreatDoorV

/- Package num: what is written. -/
namespace Go.Proofs.YtiimlfgjnapgjaaGreatDoorV
open Go Go.RowKit

abbrev W1 (w : World) (ad : Addr) (v : Value) (xs : List Int) : Prop := Wr eB w ad v xs
abbrev WS (w w' : World) (ad : Addr) (v v' : Value) (xs : List Int) : Prop := WrS eB w w' ad v v' xs
theorem put_any {ad : Addr} {v p : Value} {xs : List Int} {yss : List (List Int)} {w : World} (h : W1 w ad v xs) (hp : Stab (Ft ad v) w fun w' => NL .u8 w' p yss) (hl : xs.length + yss.flatten.length ≤ 10000000000) (hn : yss.length ≤ 10000000000) :
    Calls P n_num_buffer_put #[.pointer (some ad), p] w (fun e w' => e = .returned (.tuple #[]) ∧ ∃ v', WS w w' ad v v' (xs ++ yss.flatten)) := by
  obtain ⟨us, hus, hel⟩ := hp.now
  refine of_num_buffer_put (gLen_slv hus ?_)
  refine ⟨fun i w1 => ∃ j : Nat, i = j ∧ j ≤ yss.length ∧ ∃ v', WS w w1 ad v v' (xs ++ (yss.take j).flatten), fun i _ => yss.length - i.toNat, ⟨0, rfl, by omega, v, by simpa using h.step⟩, ?_⟩
  rintro _ i w1 ⟨j, rfl, hj, v', hW⟩
  refine gIf_dec (fun hlt => ?_) (fun hge => ⟨rfl, v', ?_⟩)
  · obtain ⟨us, hus, hel⟩ := hp w1 hW.2.1
    refine gIdx_1 hus (by omega) (by omega) fun a u hu hc _ => gLoad_v hc (gNil_some (gLoad_v (v := v') ?_ ?_))
    · have := hW.1.1.cell (j := 0) rfl; exact this
    have hlt' : j < yss.length := by omega
    have hx := hel j u yss[j] (by simpa using hu) (by simp [hlt'])
    have hfl : (yss.take (j + 1)).flatten = (yss.take j).flatten ++ yss[j] := by rw [List.take_succ_eq_append_getElem hlt', List.flatten_append]; simp
    have hle : (yss.take (j + 1)).flatten.length ≤ yss.flatten.length := by
      have : yss.flatten = (yss.take (j + 1)).flatten ++ (yss.drop (j + 1)).flatten := by rw [← List.flatten_append, List.take_append_drop]
      rw [this, List.length_append]; omega
    rw [hfl, List.length_append] at hle
    refine gApp_on hW.1.2.1 hx (by rw [List.length_append]; omega) (Nat.zero_le _) fun v2 w2 hO2 hc2 hm2 => gNil_some ?_
    have hne : ∀ i, ¬ Ob v' ad.block i := fun _ hh => hW.1.2.2 hh
    have hS2 : St w2 ad [v'] := hW.1.1.ch hc2 fun _ _ => hne _
    rw [Addr.add_zero']
    refine gStore_st0 hS2 (by simp) (by obtain ⟨a, c, rfl, _⟩ := hO2.nm.shape; rfl) hO2.one fun w3 h3 hs3 hS3 => ?_
    rw [i64_id (n := (j : Int) + 1) (by omega) (by omega)]
    have hv2 : v2.ownBlock ≠ some ad.block := by
      rcases hm2 with h | h
      · rw [h]; exact hW.1.2.2
      · intro hh; have := h _ hh; have := hW.1.1.lt; omega
    have hO3 : ON .u8 eB w3 0 v2 (xs ++ (yss.take j).flatten ++ yss[j]) := hO2.ch h3 fun g i hg hh => hv2 (by rw [hg, hh.1])
    refine ⟨⟨j + 1, by omega, hlt', v2, hW.trans ⟨⟨by simpa using hS3, ?_, hv2⟩, Ch.trans (hc2.mono fun _ _ _ h => .inr h) h3 fun n i _ hh => .inl hh.1, hm2⟩⟩, by dsimp only; omega⟩
    rw [hfl, ← List.append_assoc]; exact hO3
  · have : j = yss.length := by omega
    subst this
    rw [List.take_length] at hW; exact hW
theorem Raw_any {ad : Addr} {v p : Value} {xs : List Int} {yss : List (List Int)} {w : World} (h : W1 w ad v xs) (hp : Stab (Ft ad v) w fun w' => NL .u8 w' p yss) (hl : xs.length + yss.flatten.length ≤ 10000000000) (hn : yss.length ≤ 10000000000) :
    Calls P n_num_Writer_Raw #[.pointer (some ad), p] w (fun e w' => e = .returned (.tuple #[]) ∧ ∃ v', WS w w' ad v v' (xs ++ yss.flatten)) := by
  refine of_num_Writer_Raw (gNe_pnil (gIf_t (gNil_some ?_)))
  rw [Addr.add_zero']
  exact gCall_u (put_any h hp hl hn) fun w' hw => ⟨rfl, hw⟩
/-- A list of one. -/
theorem NL.one {k : IntKind} {B : Nat} {e : TypeId} {w : World} {p x : Value} {xs : List Int} (h : w.ownsRow B e 1 p 1 [x]) (hx : Nm k w x xs) : NL k w p [xs] :=
  ⟨[x], Sl.of_own h, fun i u ys hu hy => by
    cases i with
    | zero => simp at hu hy; subst hu; subst hy; exact hx
    | succ i => simp at hu⟩
/-- One part more. -/
theorem raw1_any {ad : Addr} {v x : Value} {xs ys : List Int} {w : World} {K : World → Prop} (h : W1 w ad v xs) (hx : Stab (Ft ad v) w fun w' => Nm .u8 w' x ys) (hl : xs.length + ys.length ≤ 10000000000) (hk : ∀ v' w', WS w w' ad v v' (xs ++ ys) → K w') :
    gLit P t_sl_sl_uint8 1 #[(0, x)] w fun (p : Value) w1 => gCall P n_num_Writer_Raw shU #[.pointer (some ad), p] w1 K := by
  refine gLit_1 [x] rfl rfl (by decide) (by simpa using hx.now.one) fun p w1 h1 hp => gCall_u (Raw_any (yss := [ys]) (h.ev h1) ?_ (by simpa using hl) (by simp)) ?_
  · intro w2 h2
    have hx2 : Nm .u8 w2 x ys := hx w2 (Ch.trans (h1.mono fun _ _ _ h => h.elim) h2 fun _ _ _ h => h)
    have hb : ∀ g, p.ownBlock = some g → w.heap.size ≤ g := fun g hg => (hp.lt g hg).1
    refine NL.one (B := 0) (e := elOf P t_sl_sl_uint8) ?_ hx2
    refine ⟨rfl, ?_⟩
    rcases hp.2 with ⟨_, h0⟩ | ⟨g, cap, cur, hv, hbg, hg, r⟩
    · cases h0
    · refine .inr ⟨g, cap, cur, hv, Nat.zero_le _, ?_, r⟩
      rw [h2.blk g (hlt hg) fun i hh => ?_]; exact hg
      have := hb g (by rw [hv]; rfl)
      have := h.lt (k := g) (i := i) hh; omega
  · rintro w2 ⟨v', hW⟩
    exact hk v' w2 (WrS.pre h1 (by simpa using hW))
/-- One byte more. -/
theorem rawb_any {ad : Addr} {v : Value} {xs : List Int} {x : Int} {w : World} {K : World → Prop} (h : W1 w ad v xs) (hx : 0 ≤ x ∧ x < 256) (hl : xs.length + 1 ≤ 10000000000) (hk : ∀ v' w', WS w w' ad v v' (xs ++ [x]) → K w') :
    gLit P t_sl_uint8 1 #[(0, .int .u8 x)] w fun (y : Value) w1 => gLit P t_sl_sl_uint8 1 #[(0, y)] w1 fun (p : Value) w2 => gCall P n_num_Writer_Raw shU #[.pointer (some ad), p] w2 K :=
  gLit_n (k := .u8) [x] rfl rfl (by decide) (fun y hy => by simp at hy; subst hy; exact u8i hx) fun y w1 h1 hy => raw1_any (h.ev h1) (hy.nm.stab fun g i hg hlt hf => by
    have := (hy.base hg).1; have := h.lt (k := g) (i := i) hf; omega) (by simpa using hl) fun v' w' hW => hk v' w' (WrS.pre h1 hW)
def numB (v : Nat) : List Int := if v < 128 then [(v : Int)] else ((v % 128 + 128 : Nat) : Int) :: numB (v / 128)
theorem numB_lt {v : Nat} (h : v < 128) : numB v = [(v : Int)] := by rw [numB, if_pos h]
theorem numB_ge {v : Nat} (h : ¬ v < 128) : numB v = ((v % 128 + 128 : Nat) : Int) :: numB (v / 128) := by rw [numB, if_neg h]
theorem numB_len : ∀ (k v : Nat), v < 128 ^ (k + 1) → (numB v).length ≤ k + 1
  | 0, v, h => by rw [numB_lt (by simpa using h)]; simp
  | k + 1, v, h => by
    by_cases hv : v < 128
    · rw [numB_lt hv]; simp
    · rw [numB_ge hv]
      have : v / 128 < 128 ^ (k + 1) := by rw [Nat.div_lt_iff_lt_mul (by decide)]; rwa [Nat.pow_succ] at h
      have := numB_len k (v / 128) this
      simp; omega
theorem Num_any {ad : Addr} {v : Value} {xs : List Int} {n : Int} {w : World} (h : W1 w ad v xs) (hn : 0 ≤ n ∧ n < 18446744073709551616) (hl : xs.length + 10 ≤ 10000000000) :
    Calls P n_num_Writer_Num #[.pointer (some ad), .int .u64 n] w (fun e w' => e = .returned (.tuple #[]) ∧ ∃ v', WS w w' ad v v' (xs ++ numB n.toNat)) := by
  have h10 := numB_len 9 n.toNat (by rw [show (128 : Nat) ^ (9 + 1) = 1180591620717411303424 by decide]; omega)
  refine of_num_Writer_Num ⟨fun m w1 => ∃ (q : Nat) (ys : List Int) (v' : Value), m = q ∧ q < 18446744073709551616 ∧ numB n.toNat = ys ++ numB q ∧ WS w w1 ad v v' (xs ++ ys), fun m _ => m.toNat, ⟨n.toNat, [], v, by omega, by omega, by simp, by simpa using h.step⟩, ?_⟩
  rintro _ m w1 ⟨q, ys, v', rfl, hq, hnb, hW⟩
  refine gIf_dec (fun hge => ?_) (fun hlt => ?_)
  · have e1 : iOr .u8 (u8 (q : Int)) 128 = ((q % 128 + 128 : Nat) : Int) := by
      have h1 : u8 (q : Int) = ((q % 256 : Nat) : Int) := by rw [u8_def, Int.natCast_emod]; rfl
      rw [h1]
      have h2 := iOr_nat (k := .u8) rfl (a := q % 256) (b := 128) (by rw [bits8]; omega) (by decide)
      have h3 : ∀ a : Nat, a < 256 → a ||| 128 = a % 128 + 128 := by decide +kernel
      rw [show ((128 : Nat) : Int) = 128 from rfl] at h2
      rw [h2, h3 _ (by omega)]; omega
    rw [e1]
    rw [numB_ge (v := q) (by omega)] at hnb
    have hlen := congrArg List.length hnb
    simp only [List.length_append, List.length_cons] at hlen
    have e2 : iShr .u64 (q : Int) 7 = ((q / 128 : Nat) : Int) := by
      have := iShr_div (k := .u64) (a := (q : Int)) (n := 7) (by decide) (by omega)
      rw [show ((7 : Nat) : Int) = 7 from rfl] at this
      rw [this, Int.natCast_ediv]
    rw [e2]
    refine rawb_any hW.1 (by omega) (by rw [List.length_append]; omega) fun v2 w2 hW2 => ⟨⟨q / 128, ys ++ [((q % 128 + 128 : Nat) : Int)], v2, rfl, by omega, ?_, ?_⟩, by dsimp only; omega⟩
    · rw [hnb]; simp
    · rw [← List.append_assoc]; exact hW.trans hW2
  · have h1 : u8 (q : Int) = q := u8_id (by omega) (by omega)
    rw [h1]
    rw [numB_lt (v := q) (by omega)] at hnb
    have hlen := congrArg List.length hnb
    simp only [List.length_append, List.length_cons] at hlen
    refine rawb_any hW.1 (by omega) (by rw [List.length_append]; omega) fun v2 w2 hW2 => ⟨rfl, v2, ?_⟩
    rw [hnb, ← List.append_assoc]; exact hW.trans hW2
theorem Bytes_W {ad : Addr} {v : Value} {xs : List Int} {w : World} (h : W1 w ad v xs) (hl : xs.length ≤ 10000000000) :
    Calls P n_num_Writer_Bytes #[.pointer (some ad)] w (fun e w' => ∃ y, e = .returned y ∧ Ev w w' ∧ ON .u8 eB w' w.heap.size y xs) := by
  refine of_num_Writer_Bytes (gEq_pnil (gIf_f (gNil_some ?_)))
  rw [Addr.add_zero', Addr.add_zero']
  refine gLoad_v (v := v) (by have := h.1.cell (j := 0) rfl; rwa [Addr.add_zero'] at this) (gApp_on (ON.nil .u8 eB w w.heap.size) h.2.1.nm (by simp; omega) (Nat.le_refl _) fun y w' hy hc hm => ⟨y, rfl, ?_, by simpa using hy⟩)
  exact hc.mono fun _ _ _ hh => by cases hh
end Go.Proofs.YtiimlfgjnapgjaaGreatDoorV
