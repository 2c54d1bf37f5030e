import Derived.Laws.StructEq
import Derived.Lib.AppendStr
import Derived.Lib.SlBytesConst
import Derived.Laws.Concat
import Derived.Laws.IdiomCopy
import Derived.Laws.Externs
import Derived.Test.YtiimlfgjnapgjaaGreatDoorVPart4
set_option linter.unusedVariables false
set_option linter.unusedSimpArgs false
/- Functions in their shallow form: what is shown of it holds of a call. -/
namespace Go.Proofs.YtiimlfgjnapgjaaGreatDoorV
open Go Go.Proofs.Tryz
set_option linter.unusedVariables false
set_option maxRecDepth 100000
/- valise/crc.Table -/
theorem of_crc_Table {w : World} {R : Ending → World → Prop} (h : gAlloc P t_ar256_uint32 w fun (t0 : Addr) ww1 => gAlloc P t_ar256_uint32 ww1 fun (t1 : Addr) ww2 => ∃ (I : Int → World → Prop) (μ : Int → World → Nat), I 0 ww2 ∧ ∀ (_ : Env) (t4 : Int) (ww3 : World), I t4 ww3 → gIf (decide (t4 < 256)) (∃ (I1 : Int → Int → World → Prop) (μ1 : Int → Int → World → Nat), I1 (u32 t4) 0 ww3 ∧ ∀ (_ : Env) (v3 : Int) (t9 : Int) (ww4 : World), I1 v3 t9 ww4 → gIf (decide (t9 < 8)) (gIf ((iAnd .u32 v3 1) != 0) (I1 (iXor .u32 (iShr .u32 v3 1) 3988292384) (i64 (t9 + 1)) ww4 ∧ μ1 (iXor .u32 (iShr .u32 v3 1) 3988292384) (i64 (t9 + 1)) ww4 < μ1 v3 t9 ww4) (I1 (iShr .u32 v3 1) (i64 (t9 + 1)) ww4 ∧ μ1 (iShr .u32 v3 1) (i64 (t9 + 1)) ww4 < μ1 v3 t9 ww4)) (gIdx P t_ar256_uint32 (.pointer (some t1)) (.int .i64 t4) fun (t22 : Addr) => gStore P t_uint32 (.pointer (some t22)) (.int .u32 v3) ww4 fun ww5 => I (i64 (t4 + 1)) ww5 ∧ μ (i64 (t4 + 1)) ww5 < μ t4 ww3)) (gLoad P t_ar256_uint32 shA (.pointer (some t1)) ww3 fun (t24 : Array Value) => gStore P t_ar256_uint32 (.pointer (some t0)) (.agg t24) ww3 fun ww6 => gLoad P t_ar256_uint32 shA (.pointer (some t0)) ww6 fun (r0_0 : Array Value) => R (.returned (.agg r0_0)) ww6)) :
    Calls P n_crc_Table #[] w R :=
  calls_of hmix (An := ⟨[(3, [(4, .int .i64)]), (7, [(3, .int .u32), (9, .int .i64)])], []⟩) (fn := f145) func145 rfl rfl (by kernel_rfl) (Eq.mpr (by kernel_rfl) h)
/- valise/mac.with -/
/- (valise/mac.keyed).tag -/
/- valise/chacha.Block -/
/- (*valise/num.Writer).Big -/
/- internal/bytealg.CompareString -/
theorem of_internal_bytealg_CompareString {a0 : ByteArray} {b1 : ByteArray} {w : World} {R : Ending → World → Prop} (h : gExt P n_internal_bytealg_abigen_runtime_cmpstring (shI .i64) #[.string a0, .string b1] w fun (t7 : Int) ww1 => R (.returned (.int .i64 t7)) ww1) :
    Calls P n_internal_bytealg_CompareString #[.string a0, .string b1] w R :=
  calls_of hmix (An := ⟨[], []⟩) (fn := f150) func150 rfl rfl (by kernel_rfl) (Eq.mpr (by kernel_rfl) h)
/- slices.rotateLeft[valise/api.Entry] -/
/- (*valise/num.Reader).Err -/
/- (*valise/box.parser).options -/
/- (*valise/box.parser).small -/
/- (*valise/box.parser).item -/
/- valise/stream.Unpack -/
/- (*valise/num.Reader).End -/
/- (*valise/num.Reader).look -/
/- valise/audio.Pack -/
/- valise/audio.Unpack -/
/- valise/image.Pack -/
/- valise/image.Unpack -/
/- valise/table.Pack -/
/- valise/table.Unpack -/
/- valise/words.Pack -/
/- valise/words.Unpack -/
/- valise/text.Lines -/
/- valise/text.Unlines -/
/- valise/text.Caps -/
/- valise/text.Uncaps -/
/- slices.Index[[]int,int] -/
theorem of_slices_Index_int_int {s0 : Value} {v1 : Int} {w : World} {R : Ending → World → Prop} (h : gLen P t_sl_int s0 fun (t7 : Nat) => ∃ (I : Int → World → Prop) (μ : Int → World → Nat), I 0 w ∧ ∀ (_ : Env) (t8 : Int) (ww1 : World), I t8 ww1 → gIf (decide (t8 < (t7 : Int))) (gIdx P t_sl_int s0 (.int .i64 t8) fun (t14 : Addr) => gLoad P t_int (shI .i64) (.pointer (some t14)) ww1 fun (t15 : Int) => gIf (v1 == t15) (R (.returned (.int .i64 t8)) ww1) (I (i64 (t8 + 1)) ww1 ∧ μ (i64 (t8 + 1)) ww1 < μ t8 ww1)) (R (.returned (.int .i64 (-1))) ww1)) :
    Calls P n_slices_Index_int_int #[s0, .int .i64 v1] w R :=
  calls_of hmix (An := ⟨[(2, [(8, .int .i64)])], []⟩) (fn := f171) func171 rfl rfl (by kernel_rfl) (Eq.mpr (by kernel_rfl) h)
/- strings.Index -/
theorem of_strings_Index {s0 : ByteArray} {substr1 : ByteArray} {w : World} {R : Ending → World → Prop} (h : gCall P n_internal_stringslite_Index (shI .i64) #[.string s0, .string substr1] w fun (t7 : Int) ww1 => R (.returned (.int .i64 t7)) ww1) :
    Calls P n_strings_Index #[.string s0, .string substr1] w R :=
  calls_of hmix (An := ⟨[], []⟩) (fn := f172) func172 rfl rfl (by kernel_rfl) (Eq.mpr (by kernel_rfl) h)
/- slices.IndexFunc[[]string,string] -/
theorem of_slices_IndexFunc_string_string {s0 : Value} {f1 : Value} {w : World} {R : Ending → World → Prop} (h : gLen P t_sl_string s0 fun (t7 : Nat) => ∃ (I : Int → World → Prop) (μ : Int → World → Nat), I 0 w ∧ ∀ (_ : Env) (t8 : Int) (ww1 : World), I t8 ww1 → gIf (decide (t8 < (t7 : Int))) (gIdx P t_sl_string s0 (.int .i64 t8) fun (t14 : Addr) => gLoad P t_string shS (.pointer (some t14)) ww1 fun (t15 : ByteArray) => gCallV P f1 shB #[.string t15] ww1 fun (t16 : Bool) ww2 => gIf t16 (R (.returned (.int .i64 t8)) ww2) (I (i64 (t8 + 1)) ww2 ∧ μ (i64 (t8 + 1)) ww2 < μ t8 ww1)) (R (.returned (.int .i64 (-1))) ww1)) :
    Calls P n_slices_IndexFunc_string_string #[s0, f1] w R :=
  calls_of hmix (An := ⟨[(2, [(8, .int .i64)])], []⟩) (fn := f173) func173 rfl rfl (by kernel_rfl) (Eq.mpr (by kernel_rfl) h)
/- strings.genSplit -/
theorem of_strings_genSplit {s0 : ByteArray} {sep1 : ByteArray} {sepSave2 : Int} {n3 : Int} {w : World} {R : Ending → World → Prop} (h : gIf (n3 == 0) (R (.returned (.slice none 0 0)) w) (gIf (sep1.toList == (ByteArray.mk #[]).toList) (gCall P n_strings_explode shV #[.string s0, .int .i64 n3] w fun (t18 : Value) ww1 => R (.returned (t18)) ww1) (∃ J0 : Int → World → Prop, (gIf (decide (n3 < 0)) (gCall P n_strings_Count (shI .i64) #[.string s0, .string sep1] w fun (t23 : Int) ww2 => J0 (i64 (t23 + 1)) ww2) (J0 n3 w)) ∧ ∀ (_ : Env) (n3_1 : Int) (ww3 : World), J0 n3_1 ww3 → gMake P t_sl_string (.int .i64 (if (i64 ((s0.size : Int) + 1)) < n3_1 then (i64 ((s0.size : Int) + 1)) else n3_1)) (.int .i64 (if (i64 ((s0.size : Int) + 1)) < n3_1 then (i64 ((s0.size : Int) + 1)) else n3_1)) ww3 fun (t31 : Value) ww4 => ∃ (I : ByteArray → Int → World → Prop) (μ : ByteArray → Int → World → Nat), I s0 0 ww4 ∧ ∀ (_ : Env) (s0_1 : ByteArray) (i10 : Int) (ww5 : World), I s0_1 i10 ww5 → gIf (decide (i10 < (i64 ((if (i64 ((s0.size : Int) + 1)) < n3_1 then (i64 ((s0.size : Int) + 1)) else n3_1) - 1)))) (gCall P n_strings_Index (shI .i64) #[.string s0_1, .string sep1] ww5 fun (t39 : Int) ww6 => gIf (decide (t39 < 0)) (gIdx P t_sl_string t31 (.int .i64 i10) fun (t61 : Addr) => gStore P t_string (.pointer (some t61)) (.string s0_1) ww6 fun ww7 => gSlice P t_sl_string t31 none (some (.int .i64 (i64 (i10 + 1)))) none fun (t65 : Value) => R (.returned (t65)) ww7) (gSliceS P t_string (.string s0_1) none (some (.int .i64 (i64 (t39 + sepSave2)))) none fun (t48 : ByteArray) => gIdx P t_sl_string t31 (.int .i64 i10) fun (t49 : Addr) => gStore P t_string (.pointer (some t49)) (.string t48) ww6 fun ww8 => gSliceS P t_string (.string s0_1) (some (.int .i64 (i64 (t39 + (sep1.size : Int))))) none none fun (t55 : ByteArray) => I t55 (i64 (i10 + 1)) ww8 ∧ μ t55 (i64 (i10 + 1)) ww8 < μ s0_1 i10 ww5)) (gIdx P t_sl_string t31 (.int .i64 i10) fun (t61 : Addr) => gStore P t_string (.pointer (some t61)) (.string s0_1) ww5 fun ww9 => gSlice P t_sl_string t31 none (some (.int .i64 (i64 (i10 + 1)))) none fun (t65 : Value) => R (.returned (t65)) ww9)))) :
    Calls P n_strings_genSplit #[.string s0, .string sep1, .int .i64 sepSave2, .int .i64 n3] w R :=
  calls_of hmix (An := ⟨[(11, [(0, .str), (10, .int .i64)])], [(7, [(3, .int .i64)])]⟩) (fn := f174) func174 rfl rfl (by kernel_rfl) (Eq.mpr (by kernel_rfl) h)
/- slices.insertionSortCmpFunc[valise/api.Entry] -/
theorem of_slices_insertionSortCmpFunc_api_Entry {data0 : Value} {a1 : Int} {b2 : Int} {cmp3 : Value} {w : World} {R : Ending → World → Prop} (h : ∃ (I : Int → World → Prop) (μ : Int → World → Nat), I (i64 (a1 + 1)) w ∧ ∀ (_ : Env) (i8 : Int) (ww1 : World), I i8 ww1 → gIf (decide (i8 < b2)) (∃ (I1 : Int → World → Prop) (μ1 : Int → World → Nat), I1 i8 ww1 ∧ ∀ (_ : Env) (j9 : Int) (ww2 : World), I1 j9 ww2 → ∃ J0 : World → Prop, (∃ B : World → Prop, B ww2.drew ∧ gIf (decide (j9 > a1)) (gIdx P t_sl_api_Entry data0 (.int .i64 j9) fun (t25 : Addr) => gLoadB P t_api_Entry (.part (.agg [.str, .val])) (.pointer (some t25)) B fun (t26_1 : ByteArray) (t26_2 : Value) => gIdx P t_sl_api_Entry data0 (.int .i64 (i64 (j9 - 1))) fun (t30 : Addr) => gLoadB P t_api_Entry (.part (.agg [.str, .val])) (.pointer (some t30)) B fun (t31_1 : ByteArray) (t31_2 : Value) => gCallV P cmp3 (shI .i64) #[.agg #[.string t26_1, t26_2], .agg #[.string t31_1, t31_2]] ww2.drew fun (t32 : Int) ww3 => B ww3 ∧ gIf (decide (t32 < 0)) (J0 ww3) (I (i64 (i8 + 1)) ww3 ∧ μ (i64 (i8 + 1)) ww3 < μ i8 ww1)) (I (i64 (i8 + 1)) ww2.drew ∧ μ (i64 (i8 + 1)) ww2.drew < μ i8 ww1)) ∧ ∀ (_ : Env)  (ww4 : World), J0 ww4 → ∃ B1 C1 : World → Prop, (B1 ww4.drew ∧ C1 ww4.drew) ∧ gIdx P t_sl_api_Entry data0 (.int .i64 (i64 (j9 - 1))) fun (t45 : Addr) => gLoadB P t_api_Entry (.part (.agg [.str, .val])) (.pointer (some t45)) C1 fun (t46_1 : ByteArray) (t46_2 : Value) => gIdx P t_sl_api_Entry data0 (.int .i64 j9) fun (t49 : Addr) => gLoadB P t_api_Entry (.part (.agg [.str, .val])) (.pointer (some t49)) C1 fun (t50_1 : ByteArray) (t50_2 : Value) => gIdx P t_sl_api_Entry data0 (.int .i64 j9) fun (t51 : Addr) => gStore P t_api_Entry (.pointer (some t51)) (.agg #[.string t46_1, t46_2]) ww4.drew fun ww5 => B1 ww5 ∧ gIdx P t_sl_api_Entry data0 (.int .i64 (i64 (j9 - 1))) fun (t52 : Addr) => gStore P t_api_Entry (.pointer (some t52)) (.agg #[.string t50_1, t50_2]) ww5 fun ww6 => B1 ww6 ∧ I1 (i64 (j9 - 1)) ww6 ∧ μ1 (i64 (j9 - 1)) ww6 < μ1 j9 ww2) (R (.returned (.tuple #[])) ww1)) :
    Calls P n_slices_insertionSortCmpFunc_api_Entry #[data0, .int .i64 a1, .int .i64 b2, cmp3] w R :=
  calls_of hmix (An := ⟨[(1, [(8, .int .i64)]), (4, [(9, .int .i64)])], [(6, [])]⟩) (fn := f175) func175 rfl rfl (by kernel_rfl) (Eq.mpr (by kernel_rfl) h)
/- slices.symMergeCmpFunc[valise/api.Entry] -/
theorem of_slices_symMergeCmpFunc_api_Entry {data0 : Value} {a1 : Int} {m2 : Int} {b3 : Int} {cmp4 : Value} {w : World} {R : Ending → World → Prop} (h : gIf ((i64 (m2 - a1)) == 1) (∃ (I : Int → Int → World → Prop) (μ : Int → Int → World → Nat), I m2 b3 w ∧ ∀ (_ : Env) (i10 : Int) (j11 : Int) (ww1 : World), I i10 j11 ww1 → gIf (decide (i10 < j11)) (∃ B : World → Prop, B ww1.drew ∧ gIdx P t_sl_api_Entry data0 (.int .i64 (i64 (iShr .u64 (u64 (i64 (i10 + j11))) 1))) fun (t43 : Addr) => gLoadB P t_api_Entry (.part (.agg [.str, .val])) (.pointer (some t43)) B fun (t44_1 : ByteArray) (t44_2 : Value) => gIdx P t_sl_api_Entry data0 (.int .i64 a1) fun (t47 : Addr) => gLoadB P t_api_Entry (.part (.agg [.str, .val])) (.pointer (some t47)) B fun (t48_1 : ByteArray) (t48_2 : Value) => gCallV P cmp4 (shI .i64) #[.agg #[.string t44_1, t44_2], .agg #[.string t48_1, t48_2]] ww1.drew fun (t49 : Int) ww2 => B ww2 ∧ gIf (decide (t49 < 0)) (I (i64 ((i64 (iShr .u64 (u64 (i64 (i10 + j11))) 1)) + 1)) j11 ww2 ∧ μ (i64 ((i64 (iShr .u64 (u64 (i64 (i10 + j11))) 1)) + 1)) j11 ww2 < μ i10 j11 ww1) (I i10 (i64 (iShr .u64 (u64 (i64 (i10 + j11))) 1)) ww2 ∧ μ i10 (i64 (iShr .u64 (u64 (i64 (i10 + j11))) 1)) ww2 < μ i10 j11 ww1)) (∃ (I1 : Int → World → Prop) (μ1 : Int → World → Nat), I1 a1 ww1 ∧ ∀ (_ : Env) (k13 : Int) (ww3 : World), I1 k13 ww3 → gIf (decide (k13 < (i64 (i10 - 1)))) (∃ B1 C1 : World → Prop, (B1 ww3.drew ∧ C1 ww3.drew) ∧ gIdx P t_sl_api_Entry data0 (.int .i64 (i64 (k13 + 1))) fun (t69 : Addr) => gLoadB P t_api_Entry (.part (.agg [.str, .val])) (.pointer (some t69)) C1 fun (t70_1 : ByteArray) (t70_2 : Value) => gIdx P t_sl_api_Entry data0 (.int .i64 k13) fun (t73 : Addr) => gLoadB P t_api_Entry (.part (.agg [.str, .val])) (.pointer (some t73)) C1 fun (t74_1 : ByteArray) (t74_2 : Value) => gIdx P t_sl_api_Entry data0 (.int .i64 k13) fun (t75 : Addr) => gStore P t_api_Entry (.pointer (some t75)) (.agg #[.string t70_1, t70_2]) ww3.drew fun ww4 => B1 ww4 ∧ gIdx P t_sl_api_Entry data0 (.int .i64 (i64 (k13 + 1))) fun (t76 : Addr) => gStore P t_api_Entry (.pointer (some t76)) (.agg #[.string t74_1, t74_2]) ww4 fun ww5 => B1 ww5 ∧ I1 (i64 (k13 + 1)) ww5 ∧ μ1 (i64 (k13 + 1)) ww5 < μ1 k13 ww3) (R (.returned (.tuple #[])) ww3))) (gIf ((i64 (b3 - m2)) == 1) (∃ (I : Int → Int → World → Prop) (μ : Int → Int → World → Nat), I a1 m2 w ∧ ∀ (_ : Env) (i14 : Int) (j15 : Int) (ww6 : World), I i14 j15 ww6 → gIf (decide (i14 < j15)) (∃ B2 : World → Prop, B2 ww6.drew ∧ gIdx P t_sl_api_Entry data0 (.int .i64 m2) fun (t95 : Addr) => gLoadB P t_api_Entry (.part (.agg [.str, .val])) (.pointer (some t95)) B2 fun (t96_1 : ByteArray) (t96_2 : Value) => gIdx P t_sl_api_Entry data0 (.int .i64 (i64 (iShr .u64 (u64 (i64 (i14 + j15))) 1))) fun (t99 : Addr) => gLoadB P t_api_Entry (.part (.agg [.str, .val])) (.pointer (some t99)) B2 fun (t100_1 : ByteArray) (t100_2 : Value) => gCallV P cmp4 (shI .i64) #[.agg #[.string t96_1, t96_2], .agg #[.string t100_1, t100_2]] ww6.drew fun (t101 : Int) ww7 => B2 ww7 ∧ gIf (!(decide (t101 < 0))) (I (i64 ((i64 (iShr .u64 (u64 (i64 (i14 + j15))) 1)) + 1)) j15 ww7 ∧ μ (i64 ((i64 (iShr .u64 (u64 (i64 (i14 + j15))) 1)) + 1)) j15 ww7 < μ i14 j15 ww6) (I i14 (i64 (iShr .u64 (u64 (i64 (i14 + j15))) 1)) ww7 ∧ μ i14 (i64 (iShr .u64 (u64 (i64 (i14 + j15))) 1)) ww7 < μ i14 j15 ww6)) (∃ (I1 : Int → World → Prop) (μ1 : Int → World → Nat), I1 m2 ww6 ∧ ∀ (_ : Env) (k17 : Int) (ww8 : World), I1 k17 ww8 → gIf (decide (k17 > i14)) (∃ B3 C3 : World → Prop, (B3 ww8.drew ∧ C3 ww8.drew) ∧ gIdx P t_sl_api_Entry data0 (.int .i64 (i64 (k17 - 1))) fun (t121 : Addr) => gLoadB P t_api_Entry (.part (.agg [.str, .val])) (.pointer (some t121)) C3 fun (t122_1 : ByteArray) (t122_2 : Value) => gIdx P t_sl_api_Entry data0 (.int .i64 k17) fun (t125 : Addr) => gLoadB P t_api_Entry (.part (.agg [.str, .val])) (.pointer (some t125)) C3 fun (t126_1 : ByteArray) (t126_2 : Value) => gIdx P t_sl_api_Entry data0 (.int .i64 k17) fun (t127 : Addr) => gStore P t_api_Entry (.pointer (some t127)) (.agg #[.string t122_1, t122_2]) ww8.drew fun ww9 => B3 ww9 ∧ gIdx P t_sl_api_Entry data0 (.int .i64 (i64 (k17 - 1))) fun (t128 : Addr) => gStore P t_api_Entry (.pointer (some t128)) (.agg #[.string t126_1, t126_2]) ww9 fun ww10 => B3 ww10 ∧ I1 (i64 (k17 - 1)) ww10 ∧ μ1 (i64 (k17 - 1)) ww10 < μ1 k17 ww8) (R (.returned (.tuple #[])) ww8))) (∃ J0 : Int → Int → World → Prop, (gIf (decide (m2 > (i64 (iShr .u64 (u64 (i64 (a1 + b3))) 1)))) (J0 (i64 ((i64 ((i64 (iShr .u64 (u64 (i64 (a1 + b3))) 1)) + m2)) - b3)) (i64 (iShr .u64 (u64 (i64 (a1 + b3))) 1)) w) (J0 a1 m2 w)) ∧ ∀ (_ : Env) (start20 : Int) (r21 : Int) (ww11 : World), J0 start20 r21 ww11 → ∃ (I : Int → Int → World → Prop) (μ : Int → Int → World → Nat), I start20 r21 ww11 ∧ ∀ (_ : Env) (start20_1 : Int) (r21_1 : Int) (ww12 : World), I start20_1 r21_1 ww12 → gIf (decide (start20_1 < r21_1)) (∃ B4 : World → Prop, B4 ww12.drew ∧ gIdx P t_sl_api_Entry data0 (.int .i64 (i64 ((i64 ((i64 ((i64 (iShr .u64 (u64 (i64 (a1 + b3))) 1)) + m2)) - 1)) - (i64 (iShr .u64 (u64 (i64 (start20_1 + r21_1))) 1))))) fun (t163 : Addr) => gLoadB P t_api_Entry (.part (.agg [.str, .val])) (.pointer (some t163)) B4 fun (t164_1 : ByteArray) (t164_2 : Value) => gIdx P t_sl_api_Entry data0 (.int .i64 (i64 (iShr .u64 (u64 (i64 (start20_1 + r21_1))) 1))) fun (t167 : Addr) => gLoadB P t_api_Entry (.part (.agg [.str, .val])) (.pointer (some t167)) B4 fun (t168_1 : ByteArray) (t168_2 : Value) => gCallV P cmp4 (shI .i64) #[.agg #[.string t164_1, t164_2], .agg #[.string t168_1, t168_2]] ww12.drew fun (t169 : Int) ww13 => B4 ww13 ∧ gIf (!(decide (t169 < 0))) (I (i64 ((i64 (iShr .u64 (u64 (i64 (start20_1 + r21_1))) 1)) + 1)) r21_1 ww13 ∧ μ (i64 ((i64 (iShr .u64 (u64 (i64 (start20_1 + r21_1))) 1)) + 1)) r21_1 ww13 < μ start20_1 r21_1 ww12) (I start20_1 (i64 (iShr .u64 (u64 (i64 (start20_1 + r21_1))) 1)) ww13 ∧ μ start20_1 (i64 (iShr .u64 (u64 (i64 (start20_1 + r21_1))) 1)) ww13 < μ start20_1 r21_1 ww12)) (∃ J1 : World → Prop, (gIf (decide (start20_1 < m2)) (gIf (decide (m2 < (i64 ((i64 ((i64 (iShr .u64 (u64 (i64 (a1 + b3))) 1)) + m2)) - start20_1)))) (gCall P n_slices_rotateCmpFunc_api_Entry shU #[data0, .int .i64 start20_1, .int .i64 m2, .int .i64 (i64 ((i64 ((i64 (iShr .u64 (u64 (i64 (a1 + b3))) 1)) + m2)) - start20_1)), cmp4] ww12 fun  ww14 => J1 ww14) (J1 ww12)) (J1 ww12)) ∧ ∀ (_ : Env)  (ww15 : World), J1 ww15 → ∃ J2 : World → Prop, (gIf (decide (a1 < start20_1)) (gIf (decide (start20_1 < (i64 (iShr .u64 (u64 (i64 (a1 + b3))) 1)))) (gCall P n_slices_symMergeCmpFunc_api_Entry shU #[data0, .int .i64 a1, .int .i64 start20_1, .int .i64 (i64 (iShr .u64 (u64 (i64 (a1 + b3))) 1)), cmp4] ww15 fun  ww16 => J2 ww16) (J2 ww15)) (J2 ww15)) ∧ ∀ (_ : Env)  (ww17 : World), J2 ww17 → gIf (decide ((i64 (iShr .u64 (u64 (i64 (a1 + b3))) 1)) < (i64 ((i64 ((i64 (iShr .u64 (u64 (i64 (a1 + b3))) 1)) + m2)) - start20_1)))) (gIf (decide ((i64 ((i64 ((i64 (iShr .u64 (u64 (i64 (a1 + b3))) 1)) + m2)) - start20_1)) < b3)) (gCall P n_slices_symMergeCmpFunc_api_Entry shU #[data0, .int .i64 (i64 (iShr .u64 (u64 (i64 (a1 + b3))) 1)), .int .i64 (i64 ((i64 ((i64 (iShr .u64 (u64 (i64 (a1 + b3))) 1)) + m2)) - start20_1)), .int .i64 b3, cmp4] ww17 fun  ww18 => R (.returned (.tuple #[])) ww18) (R (.returned (.tuple #[])) ww17)) (R (.returned (.tuple #[])) ww17))))) :
    Calls P n_slices_symMergeCmpFunc_api_Entry #[data0, .int .i64 a1, .int .i64 m2, .int .i64 b3, cmp4] w R :=
  calls_of hmix (An := ⟨[(3, [(10, .int .i64), (11, .int .i64)]), (9, [(13, .int .i64)]), (15, [(14, .int .i64), (15, .int .i64)]), (21, [(17, .int .i64)]), (33, [(20, .int .i64), (21, .int .i64)])], [(32, [(20, .int .i64), (21, .int .i64)]), (41, []), (43, [])]⟩) (fn := f176) func176 rfl rfl (by kernel_rfl) (Eq.mpr (by kernel_rfl) h)
/- (*valise/wav.chunks).next -/
/- valise/wav.frame -/
/- (*valise/wav.chunks).skip -/
/- valise/picture.Bmp -/
/- valise/picture.Pnm -/
/- valise/table.Score -/
/- valise/coder.whole -/
/- valise/guess.New -/
/- valise/mix.New -/
/- valise/stage.New -/
/- (*valise/coder.Encoder).Encode -/
end Go.Proofs.YtiimlfgjnapgjaaGreatDoorV

/- Functions in their shallow form: what is shown of it holds of a call. -/
namespace Go.Proofs.YtiimlfgjnapgjaaGreatDoorV
open Go Go.Proofs.Tryz
set_option linter.unusedVariables false
set_option maxRecDepth 100000
/- (*valise/model.Model).Chance -/
/- (*valise/model.Model).Learn -/
/- valise/sha.Sum -/
/- valise/sha.New -/
/- (*valise/sha.Hash).Fork -/
/- (*valise/sha.Hash).Write -/
/- (*valise/sha.Hash).Sum -/
/- valise/chacha.word -/
/- (*valise/chacha.state).rounds -/
/- slices.Reverse[[]valise/api.Entry,valise/api.Entry] -/
/- (*valise/box.parser).tags -/
/- valise/coder.NewDecoder -/
/- (*valise/stream.unpacker).next -/
/- (*valise/num.Reader).Left -/
/- valise/tracks.Split -/
/- valise/audio.all -/
/- valise/audio.read -/
/- valise/rice.Unpack -/
/- (valise/audio.predictor).restore -/
/- valise/tracks.Unmid -/
/- valise/tracks.Join -/
/- (*valise/image.packer).end -/
/- (*valise/image.packer).turn -/
/- (*valise/image.packer).wide -/
/- valise/filter.Apply -/
/- valise/filter.Undo -/
/- (*valise/image.packer).back -/
/- valise/colour.Apart -/
/- valise/table.Delta -/
/- valise/table.Undelta -/
/- valise/colour.Together -/
/- valise/words.Find -/
/- valise/words.Apply -/
/- valise/words.run -/
/- valise/words.Undo -/
/- bytes.Count -/
/- bytes.ReplaceAll -/
/- slices.Contains[[]byte,byte] -/
/- (*valise/text.writer).put -/
/- (*valise/text.writer).over -/
/- slices.ContainsFunc[[]byte,byte] -/
/- valise/text.capital -/
/- internal/stringslite.Index -/
theorem of_internal_stringslite_Index {s0 : ByteArray} {substr1 : ByteArray} {w : World} {R : Ending → World → Prop} (h : ∃ J0 : World → Prop, (∃ J1 : Bool → World → Prop, (gIf (!((substr1.size : Int) == 0)) (J1 (substr1.toList == s0.toList) w) (J1 true w)) ∧ ∀ (_ : Env) (t16 : Bool) (ww1 : World), J1 t16 ww1 → gIf t16 (R (.returned (.int .i64 0)) ww1) (gIf ((substr1.size : Int) == 1) (gIndex P t_string (shI .u8) (.string substr1) (.int .i64 0) fun (t29 : Int) => gCall P n_internal_stringslite_IndexByte (shI .i64) #[.string s0, .int .u8 t29] ww1 fun (t30 : Int) ww2 => R (.returned (.int .i64 t30)) ww2) (gIf (decide ((substr1.size : Int) ≥ (s0.size : Int))) (R (.returned (.int .i64 (-1))) ww1) (gLoad P t_int (shI .i64) (.pointer (some (⟨0, 0, none⟩))) ww1 fun (t38 : Int) => gIf (decide ((substr1.size : Int) ≤ t38)) (gIf (decide ((s0.size : Int) ≤ 64)) (gExt P n_internal_bytealg_IndexString (shI .i64) #[.string s0, .string substr1] ww1 fun (t47 : Int) ww3 => R (.returned (.int .i64 t47)) ww3) (J0 ww1)) (J0 ww1))))) ∧ ∀ (_ : Env)  (ww4 : World), J0 ww4 → gIndex P t_string (shI .u8) (.string substr1) (.int .i64 0) fun (t49 : Int) => gIndex P t_string (shI .u8) (.string substr1) (.int .i64 1) fun (t51 : Int) => ∃ (I : Int → Int → World → Prop) (μ : Int → Int → World → Nat), I 0 0 ww4 ∧ ∀ (_ : Env) (i8 : Int) (fails10 : Int) (ww5 : World), I i8 fails10 ww5 → gIf (decide (i8 < (i64 ((i64 ((s0.size : Int) - (substr1.size : Int))) + 1)))) (∃ J2 : Int → World → Prop, (gIndex P t_string (shI .u8) (.string s0) (.int .i64 i8) fun (t62 : Int) => gIf (t62 != t49) (gSliceS P t_string (.string s0) (some (.int .i64 (i64 (i8 + 1)))) (some (.int .i64 (i64 ((i64 ((s0.size : Int) - (substr1.size : Int))) + 1)))) none fun (t69 : ByteArray) => gCall P n_internal_stringslite_IndexByte (shI .i64) #[.string t69, .int .u8 t49] ww5 fun (t71 : Int) ww6 => gIf (decide (t71 < 0)) (R (.returned (.int .i64 (-1))) ww6) (J2 (i64 (i8 + (i64 (t71 + 1)))) ww6)) (J2 i8 ww5)) ∧ ∀ (_ : Env) (i8_1 : Int) (ww7 : World), J2 i8_1 ww7 → ∃ J3 : World → Prop, (gIndex P t_string (shI .u8) (.string s0) (.int .i64 (i64 (i8_1 + 1))) fun (t81 : Int) => gIf (t81 == t51) (gSliceS P t_string (.string s0) (some (.int .i64 i8_1)) (some (.int .i64 (i64 (i8_1 + (substr1.size : Int))))) none fun (t90 : ByteArray) => gIf (t90.toList == substr1.toList) (R (.returned (.int .i64 i8_1)) ww7) (J3 ww7)) (J3 ww7)) ∧ ∀ (_ : Env)  (ww8 : World), J3 ww8 → ∃ J4 : Bool → World → Prop, (gLoad P t_int (shI .i64) (.pointer (some (⟨0, 0, none⟩))) ww8 fun (t100 : Int) => gIf (decide ((substr1.size : Int) ≤ t100)) (gCall P n_internal_bytealg_Cutover (shI .i64) #[.int .i64 (i64 (i8_1 + 1))] ww8 fun (t105 : Int) ww9 => J4 (decide ((i64 (fails10 + 1)) > t105)) ww9) (J4 false ww8)) ∧ ∀ (_ : Env) (t107 : Bool) (ww10 : World), J4 t107 ww10 → gIf t107 (gSliceS P t_string (.string s0) (some (.int .i64 (i64 (i8_1 + 1)))) none none fun (t110 : ByteArray) => gExt P n_internal_bytealg_IndexString (shI .i64) #[.string t110, .string substr1] ww10 fun (t112 : Int) ww11 => gIf (decide (t112 ≥ 0)) (R (.returned (.int .i64 (i64 (t112 + (i64 (i8_1 + 1)))))) ww11) (R (.returned (.int .i64 (-1))) ww11)) (∃ J5 : Bool → World → Prop, (gLoad P t_int (shI .i64) (.pointer (some (⟨0, 0, none⟩))) ww10 fun (t119 : Int) => gIf (decide ((substr1.size : Int) > t119)) (gIf (decide ((i64 (fails10 + 1)) ≥ (i64 (4 + (iShr .i64 (i64 (i8_1 + 1)) 4))))) (J5 (decide ((i64 (i8_1 + 1)) < (i64 ((i64 ((s0.size : Int) - (substr1.size : Int))) + 1)))) ww10) (J5 false ww10)) (J5 false ww10)) ∧ ∀ (_ : Env) (t132 : Bool) (ww12 : World), J5 t132 ww12 → gIf t132 (gSliceS P t_string (.string s0) (some (.int .i64 (i64 (i8_1 + 1)))) none none fun (t135 : ByteArray) => gCall P n_internal_bytealg_IndexRabinKarp_string (shI .i64) #[.string t135, .string substr1] ww12 fun (t137 : Int) ww13 => gIf (decide (t137 < 0)) (R (.returned (.int .i64 (-1))) ww13) (R (.returned (.int .i64 (i64 ((i64 (i8_1 + 1)) + t137)))) ww13)) (I (i64 (i8_1 + 1)) (i64 (fails10 + 1)) ww12 ∧ μ (i64 (i8_1 + 1)) (i64 (fails10 + 1)) ww12 < μ i8 fails10 ww5))) (R (.returned (.int .i64 (-1))) ww5)) :
    Calls P n_internal_stringslite_Index #[.string s0, .string substr1] w R :=
  calls_of hmix (An := ⟨[(15, [(8, .int .i64), (10, .int .i64)])], [(3, [(16, .bool)]), (10, []), (21, [(8, .int .i64)]), (23, []), (26, [(107, .bool)]), (31, [(132, .bool)])]⟩) (fn := f231) func231 rfl rfl (by kernel_rfl) (Eq.mpr (by kernel_rfl) h)
/- strings.explode -/
/- strings.Count -/
theorem of_strings_Count {s0 : ByteArray} {substr1 : ByteArray} {w : World} {R : Ending → World → Prop} (h : gIf ((substr1.size : Int) == 0) (gCall P n_unicode_utf8_RuneCountInString (shI .i64) #[.string s0] w fun (t11 : Int) ww1 => R (.returned (.int .i64 (i64 (t11 + 1)))) ww1) (gIf ((substr1.size : Int) == 1) (gIndex P t_string (shI .u8) (.string substr1) (.int .i64 0) fun (t18 : Int) => gExt P n_internal_bytealg_CountString (shI .i64) #[.string s0, .int .u8 t18] w fun (t19 : Int) ww2 => R (.returned (.int .i64 t19)) ww2) (∃ (I : ByteArray → Int → World → Prop) (μ : ByteArray → Int → World → Nat), I s0 0 w ∧ ∀ (_ : Env) (s0_1 : ByteArray) (n5 : Int) (ww3 : World), I s0_1 n5 ww3 → gCall P n_strings_Index (shI .i64) #[.string s0_1, .string substr1] ww3 fun (t22 : Int) ww4 => gIf (t22 == (-1)) (R (.returned (.int .i64 n5)) ww4) (gSliceS P t_string (.string s0_1) (some (.int .i64 (i64 (t22 + (substr1.size : Int))))) none none fun (t33 : ByteArray) => I t33 (i64 (n5 + 1)) ww4 ∧ μ t33 (i64 (n5 + 1)) ww4 < μ s0_1 n5 ww3)))) :
    Calls P n_strings_Count #[.string s0, .string substr1] w R :=
  calls_of hmix (An := ⟨[(6, [(0, .str), (5, .int .i64)])], []⟩) (fn := f233) func233 rfl rfl (by kernel_rfl) (Eq.mpr (by kernel_rfl) h)
/- slices.rotateCmpFunc[valise/api.Entry] -/
theorem of_slices_rotateCmpFunc_api_Entry {data0 : Value} {a1 : Int} {m2 : Int} {b3 : Int} {cmp4 : Value} {w : World} {R : Ending → World → Prop} (h : ∃ (I : Int → Int → World → Prop) (μ : Int → Int → World → Nat), I (i64 (m2 - a1)) (i64 (b3 - m2)) w ∧ ∀ (_ : Env) (i10 : Int) (j11 : Int) (ww1 : World), I i10 j11 ww1 → gIf (i10 != j11) (gIf (decide (i10 > j11)) (gCall P n_slices_swapRangeCmpFunc_api_Entry shU #[data0, .int .i64 (i64 (m2 - i10)), .int .i64 m2, .int .i64 j11, cmp4] ww1 fun  ww2 => I (i64 (i10 - j11)) j11 ww2 ∧ μ (i64 (i10 - j11)) j11 ww2 < μ i10 j11 ww1) (gCall P n_slices_swapRangeCmpFunc_api_Entry shU #[data0, .int .i64 (i64 (m2 - i10)), .int .i64 (i64 ((i64 (m2 + j11)) - i10)), .int .i64 i10, cmp4] ww1 fun  ww3 => I i10 (i64 (j11 - i10)) ww3 ∧ μ i10 (i64 (j11 - i10)) ww3 < μ i10 j11 ww1)) (gCall P n_slices_swapRangeCmpFunc_api_Entry shU #[data0, .int .i64 (i64 (m2 - i10)), .int .i64 m2, .int .i64 i10, cmp4] ww1 fun  ww4 => R (.returned (.tuple #[])) ww4)) :
    Calls P n_slices_rotateCmpFunc_api_Entry #[data0, .int .i64 a1, .int .i64 m2, .int .i64 b3, cmp4] w R :=
  calls_of hmix (An := ⟨[(2, [(10, .int .i64), (11, .int .i64)])], []⟩) (fn := f234) func234 rfl rfl (by kernel_rfl) (Eq.mpr (by kernel_rfl) h)
/- (*valise/picture.parser).little -/
/- valise/picture.side -/
/- valise/picture.right -/
/- (*valise/picture.signs).blank -/
/- (*valise/picture.signs).number -/
/- (*valise/picture.signs).is -/
/- valise/picture.white -/
/- valise/mix.Squash -/
/- (*valise/coder.span).take -/
/- (*valise/coder.span).mid -/
/- (*valise/coder.span).shift -/
/- (*valise/model.Model).contexts -/
/- (*valise/guess.Table).At -/
/- valise/mix.Stretch -/
end Go.Proofs.YtiimlfgjnapgjaaGreatDoorV

/- Functions in their shallow form: what is shown of it holds of a call. -/
namespace Go.Proofs.YtiimlfgjnapgjaaGreatDoorV
open Go Go.Proofs.Tryz
set_option linter.unusedVariables false
set_option maxRecDepth 100000
/- (*valise/mix.Mixer).Mix -/
/- (*valise/stage.Stage).Refine -/
/- (*valise/guess.Table).Learn -/
/- (*valise/mix.Mixer).Learn -/
/- (*valise/stage.Stage).Learn -/
/- valise/sha.constants -/
/- valise/sha.first -/
/- (*valise/sha.state).take -/
/- (*valise/chacha.state).quarter -/
/- (*valise/coder.Decoder).more -/
/- (*valise/coder.Decoder).Decode -/
/- valise/tracks.may -/
/- valise/audio.packed -/
/- valise/tracks.Mid -/
/- valise/audio.size -/
/- valise/bits.New -/
/- (*valise/bits.Reader).Bits -/
/- (*valise/rice.unpacker).next -/
/- (*valise/bits.Reader).Err -/
/- valise/rice.Pack -/
/- valise/lms.Restore -/
/- valise/fixed.Restore -/
/- valise/colour.Turn -/
/- valise/filter.right -/
/- valise/filter.Best -/
/- valise/filter.Row -/
/- valise/filter.Unrow -/
/- valise/colour.Back -/
/- valise/words.Find$1 -/
/- slices.SortedFunc[string] -/
/- maps.Keys[map[string]int,string,int] -/
/- valise/words.Find$2 -/
/- cmp.Or[int] -/
/- cmp.Compare[int] -/
/- cmp.Compare[string] -/
/- valise/words.first -/
/- slices.IndexFunc[[][]byte,[]byte] -/
/- valise/words.Apply$1 -/
/- slices.IndexFunc[[]byte,byte] -/
/- valise/words.run$1 -/
/- valise/words.letter -/
/- unicode/utf8.RuneCount -/
/- bytes.Index -/
/- bytes.Replace -/
/- slices.Index[[]byte,byte] -/
/- internal/stringslite.IndexByte -/
theorem of_internal_stringslite_IndexByte {s0 : ByteArray} {c1 : Int} {w : World} {R : Ending → World → Prop} (h : gExt P n_internal_bytealg_IndexByteString (shI .i64) #[.string s0, .int .u8 c1] w fun (t7 : Int) ww1 => R (.returned (.int .i64 t7)) ww1) :
    Calls P n_internal_stringslite_IndexByte #[.string s0, .int .u8 c1] w R :=
  calls_of hmix (An := ⟨[], []⟩) (fn := f295) func295 rfl rfl (by kernel_rfl) (Eq.mpr (by kernel_rfl) h)
/- internal/bytealg.Cutover -/
/- internal/bytealg.IndexRabinKarp[string] -/
/- unicode/utf8.DecodeRuneInString -/
/- slices.swapRangeCmpFunc[valise/api.Entry] -/
theorem of_slices_swapRangeCmpFunc_api_Entry {data0 : Value} {a1 : Int} {b2 : Int} {n3 : Int} {cmp4 : Value} {w : World} {R : Ending → World → Prop} (h : ∃ (I : Int → World → Prop) (μ : Int → World → Nat), I 0 w ∧ ∀ (_ : Env) (i10 : Int) (ww1 : World), I i10 ww1 → gIf (decide (i10 < n3)) (∃ B C : World → Prop, (B ww1.drew ∧ C ww1.drew) ∧ gIdx P t_sl_api_Entry data0 (.int .i64 (i64 (b2 + i10))) fun (t28 : Addr) => gLoadB P t_api_Entry (.part (.agg [.str, .val])) (.pointer (some t28)) C fun (t29_1 : ByteArray) (t29_2 : Value) => gIdx P t_sl_api_Entry data0 (.int .i64 (i64 (a1 + i10))) fun (t34 : Addr) => gLoadB P t_api_Entry (.part (.agg [.str, .val])) (.pointer (some t34)) C fun (t35_1 : ByteArray) (t35_2 : Value) => gIdx P t_sl_api_Entry data0 (.int .i64 (i64 (a1 + i10))) fun (t36 : Addr) => gStore P t_api_Entry (.pointer (some t36)) (.agg #[.string t29_1, t29_2]) ww1.drew fun ww2 => B ww2 ∧ gIdx P t_sl_api_Entry data0 (.int .i64 (i64 (b2 + i10))) fun (t37 : Addr) => gStore P t_api_Entry (.pointer (some t37)) (.agg #[.string t35_1, t35_2]) ww2 fun ww3 => B ww3 ∧ I (i64 (i10 + 1)) ww3 ∧ μ (i64 (i10 + 1)) ww3 < μ i10 ww1) (R (.returned (.tuple #[])) ww1)) :
    Calls P n_slices_swapRangeCmpFunc_api_Entry #[data0, .int .i64 a1, .int .i64 b2, .int .i64 n3, cmp4] w R :=
  calls_of hmix (An := ⟨[(1, [(10, .int .i64)])], []⟩) (fn := f302) func302 rfl rfl (by kernel_rfl) (Eq.mpr (by kernel_rfl) h)
/- (*valise/picture.signs).blank$1 -/
/- (*valise/picture.signs).remark -/
/- (*valise/picture.signs).number$1 -/
/- (*valise/guess.Table).Len -/
/- valise/guess.Chance -/
/- (*valise/guess.cells).place -/
/- (*valise/mix.Mixer).place -/
/- valise/stage.round -/
/- valise/guess.Next -/
/- valise/sha.primes -/
/- valise/sha.root -/
/- valise/sha.turn -/
/- valise/chacha.Quarter -/
/- valise/fixed.Best -/
/- (valise/audio.predictor).residual -/
/- (*valise/bits.Reader).in -/
/- (*valise/bits.place).has -/
/- (*valise/bits.place).step -/
/- (*valise/bits.Reader).Unary -/
/- valise/num.Unfold -/
/- (*valise/bits.place).Err -/
/- slices.Chunk[[]int32,int32] -/
/- valise/rice.Best -/
/- (*valise/bits.Writer).Bits -/
/- (*valise/rice.packer).put -/
/- (*valise/bits.Writer).Bytes -/
/- valise/lms.New -/
/- (*valise/lms.Filter).Guess -/
/- (*valise/lms.Filter).Learn -/
/- valise/fixed.guess -/
/- valise/fixed.right -/
/- valise/filter.weight -/
/- (*valise/filter.neighbours).look -/
/- (*valise/filter.around).guess -/
/- slices.Collect[string] -/
/- slices.SortFunc[[]string,string] -/
/- cmp.isNaN[int] -/
/- cmp.isNaN[string] -/
/- bytes.IndexByte -/
end Go.Proofs.YtiimlfgjnapgjaaGreatDoorV

/- Functions in their shallow form: what is shown of it holds of a call. -/
namespace Go.Proofs.YtiimlfgjnapgjaaGreatDoorV
open Go Go.Proofs.Tryz
set_option linter.unusedVariables false
set_option maxRecDepth 100000
/- internal/bytealg.IndexRabinKarp[[]byte] -/
/- unicode/utf8.DecodeRune -/
/- internal/bytealg.hashStr[string] -/
/- unicode/utf8.decodeRuneInStringSlow -/
/- valise/sha.power -/
/- math/bits.RotateLeft32 -/
/- valise/fixed.Weight -/
/- valise/fixed.Residual -/
/- valise/lms.Residual -/
/- (*valise/bits.place).Left -/
/- slices.Chunk[[]int32,int32]$1 -/
/- valise/rice.Cost -/
/- (*valise/bits.Writer).Bit -/
/- valise/num.Fold -/
/- (*valise/bits.Writer).Unary -/
/- valise/lms.sign -/
/- valise/fixed.guess$1 -/
/- valise/filter.of -/
/- (*valise/filter.around).paeth -/
/- slices.AppendSeq[[]string,string] -/
/- slices.pdqsortCmpFunc[string] -/
/- math/bits.Len -/
/- internal/bytealg.hashStr[[]byte] -/
/- unicode/utf8.decodeRuneSlow -/
/- math/bits.Mul64 -/
/- valise/filter.far -/
/- slices.insertionSortCmpFunc[string] -/
/- slices.heapSortCmpFunc[string] -/
/- slices.breakPatternsCmpFunc[string] -/
/- slices.choosePivotCmpFunc[string] -/
/- slices.reverseRangeCmpFunc[string] -/
/- slices.partialInsertionSortCmpFunc[string] -/
/- math/bits.Len32 -/
/- math/bits.Len64 -/
/- slices.siftDownCmpFunc[string] -/
/- slices.nextPowerOfTwo -/
/- (*slices.xorshift).Next -/
/- slices.medianAdjacentCmpFunc[string] -/
/- slices.medianCmpFunc[string] -/
/- slices.order2CmpFunc[string] -/
/- gosem.cut.vars -/
end Go.Proofs.YtiimlfgjnapgjaaGreatDoorV

/- All functions in their shallow form. -/

/- Small things that all texts of functions share. -/
namespace Go.Proofs.YtiimlfgjnapgjaaGreatDoorV
open Go Go.RowKit
/-- The element type of []byte. -/
noncomputable abbrev eB : TypeId := elOf P t_sl_uint8
theorem u8i {x : Int} (h : 0 ≤ x ∧ x < 256) : IntKind.u8.min ≤ x ∧ x ≤ IntKind.u8.max := by simp [IntKind.min, IntKind.max, IntKind.signed, IntKind.bits]; omega
/-- Bytes in new memory. -/
def NewB (w : World) (xs : List Int) (e : Ending) (w' : World) : Prop := ∃ v, e = .returned v ∧ Ev w w' ∧ ON .u8 eB w' w.heap.size v xs
/-- Bytes in new memory, or none, and an error. -/
def TupE (w : World) (r : List Int × Int) (e : Ending) (w' : World) : Prop := ∃ v, e = .returned (.tuple #[v, .int .i64 r.2]) ∧ Ev w w' ∧ ON .u8 eB w' w.heap.size v r.1
section
variable {P : Program} {w : World} {f : FuncId} {args : Array Value}
theorem gCall_v0 {v : Value} {K : Value → World → Prop} (h : Calls P f args w fun e w' => e = .returned v ∧ w' = w) (hk : K v w) : gCall P f shV args w K :=
  gCall_of h fun _ w' ⟨h1, h2⟩ => ⟨v, h1, by subst h2; exact hk⟩
end
end Go.Proofs.YtiimlfgjnapgjaaGreatDoorV

/- Package num: what is written. -/
namespace Go.Proofs.YtiimlfgjnapgjaaGreatDoorV
open Go Go.RowKit

abbrev W1 (w : World) (ad : Addr) (v : Value) (xs : List Int) : Prop := Wr eB w ad v xs
abbrev WS (w w' : World) (ad : Addr) (v v' : Value) (xs : List Int) : Prop := WrS eB w w' ad v v' xs
theorem put_any {ad : Addr} {v p : Value} {xs : List Int} {yss : List (List Int)} {w : World} (h : W1 w ad v xs) (hp : Stab (Ft ad v) w fun w' => NL .u8 w' p yss) (hl : xs.length + yss.flatten.length ≤ 10000000000) (hn : yss.length ≤ 10000000000) :
    Calls P n_num_buffer_put #[.pointer (some ad), p] w (fun e w' => e = .returned (.tuple #[]) ∧ ∃ v', WS w w' ad v v' (xs ++ yss.flatten)) := by
  obtain ⟨us, hus, hel⟩ := hp.now
  refine of_num_buffer_put (gLen_slv hus ?_)
  refine ⟨fun i w1 => ∃ j : Nat, i = j ∧ j ≤ yss.length ∧ ∃ v', WS w w1 ad v v' (xs ++ (yss.take j).flatten), fun i _ => yss.length - i.toNat, ⟨0, rfl, by omega, v, by simpa using h.step⟩, ?_⟩
  rintro _ i w1 ⟨j, rfl, hj, v', hW⟩
  refine gIf_dec (fun hlt => ?_) (fun hge => ⟨rfl, v', ?_⟩)
  · obtain ⟨us, hus, hel⟩ := hp w1 hW.2.1
    refine gIdx_1 hus (by omega) (by omega) fun a u hu hc _ => gLoad_v hc (gNil_some (gLoad_v (v := v') ?_ ?_))
    · have := hW.1.1.cell (j := 0) rfl; exact this
    have hlt' : j < yss.length := by omega
    have hx := hel j u yss[j] (by simpa using hu) (by simp [hlt'])
    have hfl : (yss.take (j + 1)).flatten = (yss.take j).flatten ++ yss[j] := by rw [List.take_succ_eq_append_getElem hlt', List.flatten_append]; simp
    have hle : (yss.take (j + 1)).flatten.length ≤ yss.flatten.length := by
      have : yss.flatten = (yss.take (j + 1)).flatten ++ (yss.drop (j + 1)).flatten := by rw [← List.flatten_append, List.take_append_drop]
      rw [this, List.length_append]; omega
    rw [hfl, List.length_append] at hle
    refine gApp_on hW.1.2.1 hx (by rw [List.length_append]; omega) (Nat.zero_le _) fun v2 w2 hO2 hc2 hm2 => gNil_some ?_
    have hne : ∀ i, ¬ Ob v' ad.block i := fun _ hh => hW.1.2.2 hh
    have hS2 : St w2 ad [v'] := hW.1.1.ch hc2 fun _ _ => hne _
    rw [Addr.add_zero']
    refine gStore_st0 hS2 (by simp) (by obtain ⟨a, c, rfl, _⟩ := hO2.nm.shape; rfl) hO2.one fun w3 h3 hs3 hS3 => ?_
    rw [i64_id (n := (j : Int) + 1) (by omega) (by omega)]
    have hv2 : v2.ownBlock ≠ some ad.block := by
      rcases hm2 with h | h
      · rw [h]; exact hW.1.2.2
      · intro hh; have := h _ hh; have := hW.1.1.lt; omega
    have hO3 : ON .u8 eB w3 0 v2 (xs ++ (yss.take j).flatten ++ yss[j]) := hO2.ch h3 fun g i hg hh => hv2 (by rw [hg, hh.1])
    refine ⟨⟨j + 1, by omega, hlt', v2, hW.trans ⟨⟨by simpa using hS3, ?_, hv2⟩, Ch.trans (hc2.mono fun _ _ _ h => .inr h) h3 fun n i _ hh => .inl hh.1, hm2⟩⟩, by dsimp only; omega⟩
    rw [hfl, ← List.append_assoc]; exact hO3
  · have : j = yss.length := by omega
    subst this
    rw [List.take_length] at hW; exact hW
theorem Raw_any {ad : Addr} {v p : Value} {xs : List Int} {yss : List (List Int)} {w : World} (h : W1 w ad v xs) (hp : Stab (Ft ad v) w fun w' => NL .u8 w' p yss) (hl : xs.length + yss.flatten.length ≤ 10000000000) (hn : yss.length ≤ 10000000000) :
    Calls P n_num_Writer_Raw #[.pointer (some ad), p] w (fun e w' => e = .returned (.tuple #[]) ∧ ∃ v', WS w w' ad v v' (xs ++ yss.flatten)) := by
  refine of_num_Writer_Raw (gNe_pnil (gIf_t (gNil_some ?_)))
  rw [Addr.add_zero']
  exact gCall_u (put_any h hp hl hn) fun w' hw => ⟨rfl, hw⟩
/-- A list of one. -/
theorem NL.one {k : IntKind} {B : Nat} {e : TypeId} {w : World} {p x : Value} {xs : List Int} (h : w.ownsRow B e 1 p 1 [x]) (hx : Nm k w x xs) : NL k w p [xs] :=
  ⟨[x], Sl.of_own h, fun i u ys hu hy => by
    cases i with
    | zero => simp at hu hy; subst hu; subst hy; exact hx
    | succ i => simp at hu⟩
/-- One part more. -/
theorem raw1_any {ad : Addr} {v x : Value} {xs ys : List Int} {w : World} {K : World → Prop} (h : W1 w ad v xs) (hx : Stab (Ft ad v) w fun w' => Nm .u8 w' x ys) (hl : xs.length + ys.length ≤ 10000000000) (hk : ∀ v' w', WS w w' ad v v' (xs ++ ys) → K w') :
    gLit P t_sl_sl_uint8 1 #[(0, x)] w fun (p : Value) w1 => gCall P n_num_Writer_Raw shU #[.pointer (some ad), p] w1 K := by
  refine gLit_1 [x] rfl rfl (by decide) (by simpa using hx.now.one) fun p w1 h1 hp => gCall_u (Raw_any (yss := [ys]) (h.ev h1) ?_ (by simpa using hl) (by simp)) ?_
  · intro w2 h2
    have hx2 : Nm .u8 w2 x ys := hx w2 (Ch.trans (h1.mono fun _ _ _ h => h.elim) h2 fun _ _ _ h => h)
    have hb : ∀ g, p.ownBlock = some g → w.heap.size ≤ g := fun g hg => (hp.lt g hg).1
    refine NL.one (B := 0) (e := elOf P t_sl_sl_uint8) ?_ hx2
    refine ⟨rfl, ?_⟩
    rcases hp.2 with ⟨_, h0⟩ | ⟨g, cap, cur, hv, hbg, hg, r⟩
    · cases h0
    · refine .inr ⟨g, cap, cur, hv, Nat.zero_le _, ?_, r⟩
      rw [h2.blk g (hlt hg) fun i hh => ?_]; exact hg
      have := hb g (by rw [hv]; rfl)
      have := h.lt (k := g) (i := i) hh; omega
  · rintro w2 ⟨v', hW⟩
    exact hk v' w2 (WrS.pre h1 (by simpa using hW))
/-- One byte more. -/
theorem rawb_any {ad : Addr} {v : Value} {xs : List Int} {x : Int} {w : World} {K : World → Prop} (h : W1 w ad v xs) (hx : 0 ≤ x ∧ x < 256) (hl : xs.length + 1 ≤ 10000000000) (hk : ∀ v' w', WS w w' ad v v' (xs ++ [x]) → K w') :
    gLit P t_sl_uint8 1 #[(0, .int .u8 x)] w fun (y : Value) w1 => gLit P t_sl_sl_uint8 1 #[(0, y)] w1 fun (p : Value) w2 => gCall P n_num_Writer_Raw shU #[.pointer (some ad), p] w2 K :=
  gLit_n (k := .u8) [x] rfl rfl (by decide) (fun y hy => by simp at hy; subst hy; exact u8i hx) fun y w1 h1 hy => raw1_any (h.ev h1) (hy.nm.stab fun g i hg hlt hf => by
    have := (hy.base hg).1; have := h.lt (k := g) (i := i) hf; omega) (by simpa using hl) fun v' w' hW => hk v' w' (WrS.pre h1 hW)
def numB (v : Nat) : List Int := if v < 128 then [(v : Int)] else ((v % 128 + 128 : Nat) : Int) :: numB (v / 128)
theorem numB_lt {v : Nat} (h : v < 128) : numB v = [(v : Int)] := by rw [numB, if_pos h]
theorem numB_ge {v : Nat} (h : ¬ v < 128) : numB v = ((v % 128 + 128 : Nat) : Int) :: numB (v / 128) := by rw [numB, if_neg h]
theorem numB_len : ∀ (k v : Nat), v < 128 ^ (k + 1) → (numB v).length ≤ k + 1
  | 0, v, h => by rw [numB_lt (by simpa using h)]; simp
  | k + 1, v, h => by
    by_cases hv : v < 128
    · rw [numB_lt hv]; simp
    · rw [numB_ge hv]
      have : v / 128 < 128 ^ (k + 1) := by rw [Nat.div_lt_iff_lt_mul (by decide)]; rwa [Nat.pow_succ] at h
      have := numB_len k (v / 128) this
      simp; omega
theorem Num_any {ad : Addr} {v : Value} {xs : List Int} {n : Int} {w : World} (h : W1 w ad v xs) (hn : 0 ≤ n ∧ n < 18446744073709551616) (hl : xs.length + 10 ≤ 10000000000) :
    Calls P n_num_Writer_Num #[.pointer (some ad), .int .u64 n] w (fun e w' => e = .returned (.tuple #[]) ∧ ∃ v', WS w w' ad v v' (xs ++ numB n.toNat)) := by
  have h10 := numB_len 9 n.toNat (by rw [show (128 : Nat) ^ (9 + 1) = 1180591620717411303424 by decide]; omega)
  refine of_num_Writer_Num ⟨fun m w1 => ∃ (q : Nat) (ys : List Int) (v' : Value), m = q ∧ q < 18446744073709551616 ∧ numB n.toNat = ys ++ numB q ∧ WS w w1 ad v v' (xs ++ ys), fun m _ => m.toNat, ⟨n.toNat, [], v, by omega, by omega, by simp, by simpa using h.step⟩, ?_⟩
  rintro _ m w1 ⟨q, ys, v', rfl, hq, hnb, hW⟩
  refine gIf_dec (fun hge => ?_) (fun hlt => ?_)
  · have e1 : iOr .u8 (u8 (q : Int)) 128 = ((q % 128 + 128 : Nat) : Int) := by
      have h1 : u8 (q : Int) = ((q % 256 : Nat) : Int) := by rw [u8_def, Int.natCast_emod]; rfl
      rw [h1]
      have h2 := iOr_nat (k := .u8) rfl (a := q % 256) (b := 128) (by rw [bits8]; omega) (by decide)
      have h3 : ∀ a : Nat, a < 256 → a ||| 128 = a % 128 + 128 := by decide +kernel
      rw [show ((128 : Nat) : Int) = 128 from rfl] at h2
      rw [h2, h3 _ (by omega)]; omega
    rw [e1]
    rw [numB_ge (v := q) (by omega)] at hnb
    have hlen := congrArg List.length hnb
    simp only [List.length_append, List.length_cons] at hlen
    have e2 : iShr .u64 (q : Int) 7 = ((q / 128 : Nat) : Int) := by
      have := iShr_div (k := .u64) (a := (q : Int)) (n := 7) (by decide) (by omega)
      rw [show ((7 : Nat) : Int) = 7 from rfl] at this
      rw [this, Int.natCast_ediv]
    rw [e2]
    refine rawb_any hW.1 (by omega) (by rw [List.length_append]; omega) fun v2 w2 hW2 => ⟨⟨q / 128, ys ++ [((q % 128 + 128 : Nat) : Int)], v2, rfl, by omega, ?_, ?_⟩, by dsimp only; omega⟩
    · rw [hnb]; simp
    · rw [← List.append_assoc]; exact hW.trans hW2
  · have h1 : u8 (q : Int) = q := u8_id (by omega) (by omega)
    rw [h1]
    rw [numB_lt (v := q) (by omega)] at hnb
    have hlen := congrArg List.length hnb
    simp only [List.length_append, List.length_cons] at hlen
    refine rawb_any hW.1 (by omega) (by rw [List.length_append]; omega) fun v2 w2 hW2 => ⟨rfl, v2, ?_⟩
    rw [hnb, ← List.append_assoc]; exact hW.trans hW2
theorem Bytes_W {ad : Addr} {v : Value} {xs : List Int} {w : World} (h : W1 w ad v xs) (hl : xs.length ≤ 10000000000) :
    Calls P n_num_Writer_Bytes #[.pointer (some ad)] w (fun e w' => ∃ y, e = .returned y ∧ Ev w w' ∧ ON .u8 eB w' w.heap.size y xs) := by
  refine of_num_Writer_Bytes (gEq_pnil (gIf_f (gNil_some ?_)))
  rw [Addr.add_zero', Addr.add_zero']
  refine gLoad_v (v := v) (by have := h.1.cell (j := 0) rfl; rwa [Addr.add_zero'] at this) (gApp_on (ON.nil .u8 eB w w.heap.size) h.2.1.nm (by simp; omega) (Nat.le_refl _) fun y w' hy hc hm => ⟨y, rfl, ?_, by simpa using hy⟩)
  exact hc.mono fun _ _ _ hh => by cases hh
end Go.Proofs.YtiimlfgjnapgjaaGreatDoorV

/- Package num: Text, Zig, Little, Big; folding. -/
namespace Go.Proofs.YtiimlfgjnapgjaaGreatDoorV
open Go Go.RowKit

theorem xor_zero {k : IntKind} (a : Int) (h : k.wrap a = a) (h0 : 0 ≤ a) (ha : a < 2 ^ k.bits) : iXor k a 0 = a := by
  obtain ⟨a, rfl⟩ := Int.eq_ofNat_of_zero_le h0
  unfold iXor
  have h1 : BitVec.ofInt k.bits 0 = 0#k.bits := rfl
  rw [h1, BitVec.xor_zero, ofInt_nat, BitVec.toNat_ofNat, Nat.mod_eq_of_lt (by exact_mod_cast ha), h]
theorem numB_len64 {n : Nat} (h : n < 18446744073709551616) : (numB n).length ≤ 10 := numB_len 9 n (by rw [show (128 : Nat) ^ (9 + 1) = 1180591620717411303424 by decide]; omega)
theorem Text_any {ad : Addr} {v b : Value} {xs ys : List Int} {w : World} (h : W1 w ad v xs) (hb : Stab (Ft ad v) w fun w' => Nm .u8 w' b ys) (hl : xs.length + ys.length + 10 ≤ 10000000000) :
    Calls P n_num_Writer_Text #[.pointer (some ad), b] w (fun e w' => e = .returned (.tuple #[]) ∧ ∃ v', WS w w' ad v v' (xs ++ numB ys.length ++ ys)) := by
  refine of_num_Writer_Text (gLen_nm hb.now ?_)
  rw [show u64 (ys.length : Int) = ys.length by rw [u64_def]; omega]
  refine gCall_u (Num_any h (by omega) (by omega)) fun w1 ⟨v1, hW⟩ => ?_
  have := numB_len64 (n := ys.length) (by omega)
  rw [Int.toNat_natCast] at hW
  refine raw1_any hW.1 (fun w2 h2 => hb w2 (Ch.trans hW.2.1 h2 fun n i hn hf => ?_)) (by rw [List.length_append]; omega) fun v2 w2 hW2 => ⟨rfl, v2, hW.trans hW2⟩
  rcases hf with hf | hf
  · exact .inl hf
  · rcases hW.2.2 with hm | hm
    · exact .inr (hm ▸ hf)
    · have := hm n hf; omega
def clN (n : Int) : Nat := (if 8 < n then 8 else n).toNat
theorem clN_le (n : Int) : clN n ≤ 8 := by unfold clN; split <;> omega
theorem cl1 (n : Int) : (if 0 > (if 8 < n then 8 else n) then 0 else (if 8 < n then 8 else n)) = (clN n : Int) := by unfold clN; split <;> split <;> omega
def byteAt (v : Int) (k : Nat) : Int := v / ((2 ^ (8 * k) : Nat) : Int) % 256
def littleB (v : Int) : Nat → List Int
  | 0 => []
  | k + 1 => littleB v k ++ [byteAt v k]
theorem littleB_len (v : Int) : ∀ k, (littleB v k).length = k
  | 0 => rfl
  | k + 1 => by simp [littleB, littleB_len v k]
theorem byteAt_rng (v : Int) (k : Nat) : 0 ≤ byteAt v k ∧ byteAt v k < 256 := by unfold byteAt; omega
theorem shr8 {v : Int} {j : Nat} (hv : 0 ≤ v) (hj : j ≤ 8) : u8 (iShr .u64 v (i64 (8 * (j : Int)))) = byteAt v j := by
  rw [show i64 (8 * (j : Int)) = ((8 * j : Nat) : Int) by rw [i64_id (by omega) (by omega)]; omega, iShr_div (by have : IntKind.u64.bits = 64 := rfl; omega) hv, u8_def]; rfl
theorem Little_any {ad : Addr} {v : Value} {xs : List Int} {z n : Int} {w : World} (h : W1 w ad v xs) (hz : 0 ≤ z ∧ z < 18446744073709551616) (hl : xs.length + 10 ≤ 10000000000) :
    Calls P n_num_Writer_Little #[.pointer (some ad), .int .u64 z, .int .i64 n] w (fun e w' => e = .returned (.tuple #[]) ∧ ∃ v', WS w w' ad v v' (xs ++ littleB z (clN n))) := by
  refine of_num_Writer_Little ?_
  rw [cl1]
  have := clN_le n
  refine ⟨fun i w1 => ∃ (j : Nat) (v' : Value), i = j ∧ j ≤ clN n ∧ WS w w1 ad v v' (xs ++ littleB z j), fun i _ => clN n - i.toNat, ⟨0, v, rfl, by omega, by simpa [littleB] using h.step⟩, ?_⟩
  rintro _ i w1 ⟨j, v', rfl, hj, hW⟩
  refine gIf_dec (fun hlt => gBin_shr (by rw [i64_id (by omega) (by omega)]; omega) ?_) (fun hge => ⟨rfl, v', ?_⟩)
  · rw [shr8 hz.1 (by omega), i64_id (n := (j : Int) + 1) (by omega) (by omega)]
    refine rawb_any hW.1 (byteAt_rng _ _) (by rw [List.length_append, littleB_len]; omega) fun v2 w2 hW2 => ⟨⟨j + 1, v2, by omega, by omega, ?_⟩, by dsimp only; omega⟩
    rw [littleB, ← List.append_assoc]; exact hW.trans hW2
  · rw [show clN n = j by omega]; exact hW
/-! ### A nil writer -/
end Go.Proofs.YtiimlfgjnapgjaaGreatDoorV

/- Package num: the reader. -/
namespace Go.Proofs.YtiimlfgjnapgjaaGreatDoorV
open Go Go.RowKit

def Rd (w : World) (ad : Addr) (b : Value) (xs : List Int) (a : Nat) (er : Int) : Prop := St w ad [b, .int .i64 a, .int .i64 er] ∧ Nm .u8 w b xs ∧ b.ownBlock ≠ some ad.block ∧ a ≤ xs.length ∧ xs.length ≤ 10000000000
theorem Rd.ev {w w' : World} {ad : Addr} {b : Value} {xs : List Int} {a : Nat} {er : Int} (h : Rd w ad b xs a er) (he : Ev w w') : Rd w' ad b xs a er := ⟨h.1.ev he, h.2.1.ev he, h.2.2⟩
theorem Rd.ch {S : SS} {w w' : World} {ad : Addr} {b : Value} {xs : List Int} {a : Nat} {er : Int} (h : Rd w ad b xs a er) (hc : Ch S w w') (hs : ∀ k i, (k = ad.block ∨ b.ownBlock = some k) → ¬ S k i) : Rd w' ad b xs a er :=
  ⟨h.1.ch hc fun _ _ => hs _ _ (.inl rfl), h.2.1.ch hc fun g i hg => hs g i (.inr hg), h.2.2⟩
theorem Rd.drew {w : World} {ad : Addr} {b : Value} {xs : List Int} {a : Nat} {er : Int} (h : Rd w ad b xs a er) : Rd w.drew ad b xs a er := h
/-- A reader's step. -/
def RS (w w' : World) (ad : Addr) (b : Value) (xs : List Int) (a : Nat) (er : Int) : Prop := Rd w' ad b xs a er ∧ Ch (Rg ad 3) w w'
theorem RS.trans {w w1 w2 : World} {ad : Addr} {b : Value} {xs : List Int} {a a2 : Nat} {er er2 : Int} (h : RS w w1 ad b xs a er) (h2 : RS w1 w2 ad b xs a2 er2) : RS w w2 ad b xs a2 er2 :=
  ⟨h2.1, Ch.trans h.2 h2.2 fun _ _ _ h => h⟩
theorem RS.ev {w w1 w2 : World} {ad : Addr} {b : Value} {xs : List Int} {a : Nat} {er : Int} (h : RS w w1 ad b xs a er) (he : Ev w1 w2) : RS w w2 ad b xs a er :=
  ⟨h.1.ev he, Ch.trans h.2 he fun _ _ _ h => h.elim⟩
theorem Rd.step {w : World} {ad : Addr} {b : Value} {xs : List Int} {a : Nat} {er : Int} (h : Rd w ad b xs a er) : RS w w ad b xs a er := ⟨h, Ch.refl _ w⟩
/-- A store into its place or its fault. -/
theorem Rd.set {w w' : World} {ad : Addr} {b : Value} {xs : List Int} {a : Nat} {er : Int} (h : Rd w ad b xs a er) {j : Nat} {u : Value} {a2 : Nat} {er2 : Int} (hj : j < 3) (hc : Ch (Rg (ad.add j) 1) w w')
    (hS : St w' ad ([b, .int .i64 a, .int .i64 er].set j u)) (he : ([b, .int .i64 a, .int .i64 er] : List Value).set j u = [b, .int .i64 a2, .int .i64 er2]) (ha : a2 ≤ xs.length) : RS w w' ad b xs a2 er2 := by
  have hc3 : Ch (Rg ad 3) w w' := hc.mono fun n i _ hh => by
    have h1 := hh.1; have h2 := hh.2
    rw [Addr.add_none h.1.1] at h1 h2
    exact ⟨h1, by dsimp only at h2; omega, by dsimp only at h2; omega⟩
  exact ⟨⟨he ▸ hS, h.2.1.ch hc3 fun g i hg hh => h.2.2.1 (by rw [hg, hh.1]), h.2.2.1, ha, h.2.2.2.2⟩, hc3⟩
end Go.Proofs.YtiimlfgjnapgjaaGreatDoorV

/- Package num: the reader, second part. -/
namespace Go.Proofs.YtiimlfgjnapgjaaGreatDoorV
open Go Go.RowKit

theorem RS.pre {w w1 w2 : World} {ad : Addr} {b : Value} {xs : List Int} {a : Nat} {er : Int} (he : Ev w w1) (h : RS w1 w2 ad b xs a er) : RS w w2 ad b xs a er := ⟨h.1, Ch.trans (he.mono fun _ _ _ h => h.elim) h.2 fun _ _ _ h => h⟩
end Go.Proofs.YtiimlfgjnapgjaaGreatDoorV

/- Package valisehelp: Bytes. -/
namespace Go.Proofs.YtiimlfgjnapgjaaGreatDoorV
open Go Go.RowKit
theorem Bytes_any {a b : Value} {xs ys : List Int} {w : World} (ha : Nm .u8 w a xs) (hb : Nm .u8 w b ys) : Calls P n_valisehelp_Bytes #[a, b] w (fun e w' => e = .returned (.bool (decide (xs = ys))) ∧ w' = w) :=
  of_valisehelp_Bytes (gConv_bs ha (gConv_bs hb ⟨by rw [bsOf_eq ha.2 hb.2], rfl⟩))
end Go.Proofs.YtiimlfgjnapgjaaGreatDoorV

/- Package num: the reader, third part; nil readers; laws NumNil. -/
namespace Go.Proofs.YtiimlfgjnapgjaaGreatDoorV
open Go Go.RowKit

/-! ### A nil reader -/
end Go.Proofs.YtiimlfgjnapgjaaGreatDoorV

/- Things of one's own, all told at once: what a call has made so far, apart from each other and from all that is old. -/
namespace Go.Proofs.YtiimlfgjnapgjaaGreatDoorV
open Go Go.RowKit
/-- A thing: the blocks that it stands on, and what is told of it. -/
structure It where
  ft : Nat → Prop
  ok : World → Prop
  ce : ∀ (w : World) (k : Nat), ok w → ft k → ∃ c e f, w.heap[k]? = some (Obj.cells c e f)
  st : ∀ (w w' : World) S, ok w → Ch S w w' → (∀ k i, ft k → ¬ S k i) → ok w'
  gr : ∀ w w' : World, ok w → w.heap.size ≤ w'.heap.size → (∀ (k : Nat) c e f, w.heap[k]? = some (Obj.cells c e f) → w'.heap[k]? = w.heap[k]?) → ok w'
theorem It.lt (it : It) (w : World) (k : Nat) (h : it.ok w) (hk : it.ft k) : k < w.heap.size := let ⟨_, _, _, hc⟩ := it.ce w k h hk; hlt hc
def Fr (w0 w : World) : List It → Prop
  | [] => Ev w0 w
  | it :: F => it.ok w ∧ (∀ k, it.ft k → w0.heap.size ≤ k) ∧ (∀ jt ∈ F, ∀ k, it.ft k → ¬ jt.ft k) ∧ Fr w0 w F
section
variable {w0 w w' : World} {F : List It}
theorem Fr.old : ∀ {F : List It}, Fr w0 w F → Ev w0 w
  | [], h => h
  | _ :: _, h => Fr.old h.2.2.2
theorem Fr.start (w : World) : Fr w w [] := Ch.refl _ w
theorem Fr.mem : ∀ {F : List It} {it : It}, Fr w0 w F → it ∈ F → it.ok w ∧ ∀ k, it.ft k → w0.heap.size ≤ k
  | _ :: _, _, h, hm => by
    rcases List.mem_cons.1 hm with rfl | hm
    · exact ⟨h.1, h.2.1⟩
    · exact Fr.mem h.2.2.2 hm
theorem Fr.get {it : It} (h : Fr w0 w F) (i : Nat) (hi : F[i]? = some it) : it.ok w := (h.mem (List.mem_of_getElem? hi)).1
theorem Fr.ft {it : It} (h : Fr w0 w F) (i : Nat) (hi : F[i]? = some it) {k : Nat} (hk : it.ft k) : w0.heap.size ≤ k ∧ k < w.heap.size :=
  ⟨(h.mem (List.mem_of_getElem? hi)).2 k hk, it.lt w k (h.get i hi) hk⟩
/-- A change of what is apart from all of them, and of no old thing. -/
theorem Fr.ch {S : SS} : ∀ {F : List It}, Fr w0 w F → Ch S w w' → (∀ k i, S k i → w0.heap.size ≤ k) → (∀ it ∈ F, ∀ k i, it.ft k → ¬ S k i) → Fr w0 w' F
  | [], h, hc, h0, _ => Ev.new h hc h0
  | it :: F, h, hc, h0, hs => ⟨it.st w w' S h.1 hc (hs it (by simp)), h.2.1, h.2.2.1, Fr.ch h.2.2.2 hc h0 fun jt hj => hs jt (by simp [hj])⟩
theorem Fr.ev (h : Fr w0 w F) (he : Ev w w') : Fr w0 w' F := h.ch he (fun _ _ h => h.elim) fun _ _ _ _ _ h => h
theorem Fr.drew (h : Fr w0 w F) : Fr w0 w.drew F := h.ev (Ev.drew0 w)
/-- A new thing. -/
theorem Fr.new {jt : It} (h : Fr w0 w F) (he : Ev w w') (ok : jt.ok w') (hf : ∀ k, jt.ft k → w.heap.size ≤ k) : Fr w0 w' (jt :: F) :=
  ⟨ok, fun k hk => Nat.le_trans h.old.size (hf k hk), fun it hi k hk hik => by
    have := hf k hk
    have := it.lt w k (h.mem hi).1 hik
    omega, h.ev he⟩
theorem Fr.set_apart {it jt : It} : ∀ {F : List It} {i : Nat}, Fr w0 w F → F[i]? = some it → (∀ k, jt.ft k → it.ft k ∨ w.heap.size ≤ k) → ∀ {S : SS}, Ch S w w' → (∀ k i, S k i → it.ft k ∨ w.heap.size ≤ k) → jt.ok w' → Fr w0 w' (F.set i jt)
  | it' :: F, 0, h, hi, hf, S, hc, hS, ok => by
    simp only [List.getElem?_cons_zero, Option.some.injEq] at hi
    subst hi
    have ho := h.2.2.2.old.size
    refine ⟨ok, fun k hk => ?_, fun jt' hj k hk hjk => ?_, h.2.2.2.ch hc (fun k i hs => ?_) fun jt' hj k i hjk hs => ?_⟩
    · rcases hf k hk with h1 | h1
      · exact h.2.1 k h1
      · omega
    · rcases hf k hk with h1 | h1
      · exact h.2.2.1 jt' hj k h1 hjk
      · have := jt'.lt w k (h.2.2.2.mem hj).1 hjk; omega
    · rcases hS k i hs with h1 | h1
      · exact h.2.1 k h1
      · omega
    · rcases hS k i hs with h1 | h1
      · exact h.2.2.1 jt' hj k h1 hjk
      · have := jt'.lt w k (h.2.2.2.mem hj).1 hjk; omega
  | it' :: F, i + 1, h, hi, hf, S, hc, hS, ok => by
    simp only [List.getElem?_cons_succ] at hi
    have hm := List.mem_of_getElem? hi
    refine ⟨it'.st w w' S h.1 hc fun k i hk hs => ?_, h.2.1, fun jt' hj k hk hjk => ?_, Fr.set_apart h.2.2.2 hi hf hc hS ok⟩
    · rcases hS k i hs with h1 | h1
      · exact h.2.2.1 it hm k hk h1
      · have := it'.lt w k h.1 hk; omega
    · rcases List.mem_or_eq_of_mem_set hj with hj | rfl
      · exact h.2.2.1 jt' hj k hk hjk
      · rcases hf k hjk with h1 | h1
        · exact h.2.2.1 it hm k hk h1
        · have := it'.lt w k h.1 hk; omega
/-- A thing that changes. -/
theorem Fr.upd {it jt : It} {S : SS} (h : Fr w0 w F) (i : Nat) (hi : F[i]? = some it) (hc : Ch S w w') (hS : ∀ k i, S k i → it.ft k ∨ w.heap.size ≤ k) (ok : jt.ok w') (hf : ∀ k, jt.ft k → it.ft k ∨ w.heap.size ≤ k) : Fr w0 w' (F.set i jt) :=
  h.set_apart hi hf hc hS ok
theorem Fr.apart {it jt : It} : ∀ {F : List It} {i j : Nat}, Fr w0 w F → F[i]? = some it → F[j]? = some jt → i ≠ j → ∀ k, it.ft k → ¬ jt.ft k
  | _ :: _, 0, 0, _, _, _, hn, _, _ => absurd rfl hn
  | a :: F, 0, j + 1, h, hi, hj, _, k, hk => by
    simp only [List.getElem?_cons_zero, Option.some.injEq] at hi
    subst hi
    exact h.2.2.1 jt (List.mem_of_getElem? (by simpa using hj)) k hk
  | a :: F, i + 1, 0, h, hi, hj, _, k, hk => by
    simp only [List.getElem?_cons_zero, Option.some.injEq] at hj
    subst hj
    exact fun hk2 => h.2.2.1 it (List.mem_of_getElem? (by simpa using hi)) k hk2 hk
  | a :: F, i + 1, j + 1, h, hi, hj, hn, k, hk => Fr.apart h.2.2.2 (by simpa using hi) (by simpa using hj) (by omega) k hk
/-- Blocks that are no cells, and no old ones, may turn. -/
theorem Fr.gr : ∀ {F : List It}, Fr w0 w F → w.heap.size ≤ w'.heap.size → w'.os = w.os → w'.tape = w.tape → w'.output = w.output → (∀ k : Nat, k < w0.heap.size → w'.heap[k]? = w.heap[k]?) → (∀ (k : Nat) c e f, w.heap[k]? = some (Obj.cells c e f) → w'.heap[k]? = w.heap[k]?) → Fr w0 w' F
  | [], h, hs, h1, h2, h3, hb, hc => ⟨h1.trans h.os, h2.trans h.tape, h3.trans h.output, Nat.le_trans h.size hs, fun k hk _ => (hb k hk).trans (h.blk k hk fun _ h => h),
      fun k c e f hk => ⟨c, by rw [hb k (hlt hk), h.blk k (hlt hk) fun _ h => h]; exact hk, rfl, fun _ _ => rfl⟩, fun k o hk _ => by rw [hb k (hlt hk), h.blk k (hlt hk) fun _ h => h]; exact hk⟩
  | it :: F, h, hs, h1, h2, h3, hb, hc => ⟨it.gr w w' h.1 hs hc, h.2.1, h.2.2.1, Fr.gr h.2.2.2 hs h1 h2 h3 hb hc⟩
theorem Fr.eraseM : ∀ {F : List It} {i : Nat}, Fr w0 w F → Fr w0 w (F.eraseIdx i)
  | [], _, h => by simpa using h
  | _ :: _, 0, h => h.2.2.2
  | it :: F, i + 1, h => ⟨h.1, h.2.1, fun jt hj => h.2.2.1 jt (List.mem_of_mem_eraseIdx hj), Fr.eraseM h.2.2.2⟩
/-- A thing that is let go. -/
theorem Fr.drop (h : Fr w0 w F) (i : Nat) : Fr w0 w (F.eraseIdx i) := h.eraseM
end
theorem gIf_b {b : Bool} {A B : Prop} (ha : b = true → A) (hb : b = false → B) : gIf b A B := gIf_of ha hb
theorem gIf_nb {b : Bool} {A B : Prop} (ha : b = false → A) (hb : b = true → B) : gIf (!b) A B := by cases b; exact ha rfl; exact hb rfl
/-! ### Things -/
theorem St.gr {w w' : World} {ad : Addr} {cs : List Value} (h : St w ad cs) (hc : ∀ (k : Nat) c e f, w.heap[k]? = some (Obj.cells c e f) → w'.heap[k]? = w.heap[k]?) : St w' ad cs := by
  obtain ⟨h0, c, e, h1, h2⟩ := h; exact ⟨h0, c, e, by rw [hc _ _ _ _ h1]; exact h1, h2⟩
theorem ON.gr {k : IntKind} {e : TypeId} {w w' : World} {B : Nat} {v : Value} {xs : List Int} (h : ON k e w B v xs) (hc : ∀ (k : Nat) c e f, w.heap[k]? = some (Obj.cells c e f) → w'.heap[k]? = w.heap[k]?) : ON k e w' B v xs := by
  refine ⟨⟨h.1.1, ?_⟩, h.2⟩
  rcases h.1.2 with hn | ⟨g, cap, cur, rfl, hb, hg, r⟩
  · exact .inl hn
  · exact .inr ⟨g, cap, cur, rfl, hb, by rw [hc _ _ _ _ hg]; exact hg, r⟩
theorem ON.ce {k : IntKind} {e : TypeId} {w : World} {B : Nat} {v : Value} {xs : List Int} (h : ON k e w B v xs) {g : Nat} (hg : v.ownBlock = some g) : ∃ c e f, w.heap[g]? = some (Obj.cells c e f) := by
  rcases h.1.2 with ⟨rfl, _⟩ | ⟨g', cap, cur, rfl, hb, hh, r⟩
  · cases hg
  · simp [Value.ownBlock] at hg; subst hg; exact ⟨_, _, _, hh⟩
theorem St.ce {w : World} {ad : Addr} {cs : List Value} (h : St w ad cs) : ∃ c e f, w.heap[ad.block]? = some (Obj.cells c e f) := let ⟨_, c, e, h1, _⟩ := h; ⟨c, e, _, h1⟩
def sIt (ad : Addr) (cs : List Value) : It := ⟨fun k => k = ad.block, fun w => St w ad cs, fun _ _ h hk => by rw [hk]; exact h.ce, fun _ _ _ h hc hs => h.ch hc fun j _ => hs _ _ rfl, fun _ _ h _ hc => h.gr hc⟩
def oIt (k : IntKind) (e : TypeId) (v : Value) (xs : List Int) : It := ⟨fun b => v.ownBlock = some b, fun w => ON k e w 0 v xs, fun _ _ h hk => h.ce hk, fun _ _ _ h hc hs => h.ch hc hs, fun _ _ h _ hc => h.gr hc⟩
def wIt (e : TypeId) (ad : Addr) (v : Value) (xs : List Int) : It := ⟨fun k => k = ad.block ∨ v.ownBlock = some k, fun w => Wr e w ad v xs, fun _ _ h hk => by rcases hk with hk | hk; (rw [hk]; exact h.1.ce); exact h.2.1.ce hk, fun _ _ _ h hc hs => h.ch hc fun k i hk => hs k i hk, fun _ _ h _ hc => ⟨h.1.gr hc, h.2.1.gr hc, h.2.2⟩⟩
section
variable {P : Program} {w0 w : World} {F : List It}
theorem Fr.cell {ad : Addr} {cs : List Value} (h : Fr w0 w F) (i : Nat) (j : Nat) {u : Value} (hi : F[i]? = some (sIt ad cs)) (hj : cs[j]? = some u) : w.cell? (ad.add j) = some u := St.cell (h.get i hi) hj
theorem fAlloc {t : TypeId} {z : Value} {K : Addr → World → Prop} (h : Fr w0 w F) (hz : (P.info? t).bind (·.zero) = some z) (hk : ∀ ad w', Fr w0 w' (sIt ad z.cells.toList :: F) → K ad w') : gAlloc P t w K :=
  gAlloc_of hz fun ad w' he ha _ hS => hk ad w' (h.new he hS fun k hk => by have hk : k = ad.block := hk; subst ha; dsimp only at hk; omega)
theorem fBox {t : TypeId} {v : Value} {K : Addr → World → Prop} (h : Fr w0 w F) (hk : ∀ ad w', Fr w0 w' (sIt ad v.cells.toList :: F) → K ad w') : gBox P t v w K :=
  gBox_of fun ad w' he ha _ hS => hk ad w' (h.new he hS fun k hk => by have hk : k = ad.block := hk; subst ha; dsimp only at hk; omega)
theorem fStore {t : TypeId} {ad : Addr} {cs : List Value} {u : Value} {K : World → Prop} (h : Fr w0 w F) (i j : Nat) (hi : F[i]? = some (sIt ad cs)) (hk : ∀ w', Fr w0 w' (F.set i (sIt ad (cs.set j u))) → K w') (hj : j < cs.length := by exact Nat.le_of_ble_eq_true rfl) (hu : u.oneCell' = true := by rfl) (hcl : u.cells = #[u] := by rfl) (ht : flat1 P t = true := by kernel_rfl) :
    gStore P t (.pointer (some (ad.add j))) u w K :=
  gStore_st (h.get i hi) hj hu hcl (fun w' hc _ hS => hk w' (h.upd i hi hc (fun k _ hh => .inl (by
    have h0 : ad.spot = none := (show St w ad cs from h.get i hi).1
    have h1 := hh.1
    rw [Addr.add_none h0] at h1; exact h1)) hS fun k hk => .inl hk)) ht
theorem fStoreA {t : TypeId} {ad : Addr} {cs : List Value} {ds : Array Value} {K : World → Prop} (h : Fr w0 w F) (i : Nat) (hi : F[i]? = some (sIt ad cs)) (hk : ∀ w', Fr w0 w' (F.set i (sIt ad ds.toList)) → K w') (hj : ds.size = cs.length := by rfl) (h1 : ∀ u ∈ ds.toList, u.oneCell' = true := by simp [Value.oneCell']) (ht : sizeIs P t ds.size = true := by kernel_rfl) :
    gStore P t (.pointer (some ad)) (.agg ds) w K :=
  gStore_agg0 (h.get i hi) (by omega) h1 (fun w' hc _ hS => hk w' (h.upd i hi hc (fun k _ hh => .inl hh.1) (by
    have : cs.drop ds.size = [] := List.drop_of_length_le (by omega)
    rw [this, List.append_nil] at hS; exact hS) fun k hk => .inl hk)) ht
theorem fLoadA {t : TypeId} {cks : List Ck} {ad : Addr} {K : TF cks Prop} {cs : List Value} (h : Fr w0 w F) (i : Nat) (hi : F[i]? = some (sIt ad cs)) (hk : tapp False cks K cs) (hl : cs.length = cks.length := by rfl) (ht : aggB P t cs.length = true := by kernel_rfl) : gLoad P t (.part (.agg cks)) (.pointer (some ad)) w K :=
  gLoad_agg cs (fun j u hj => h.cell i j hi hj) hk hl ht
theorem fLoad_i {t : TypeId} {k : IntKind} {n : Int} {ad : Addr} {cs : List Value} {K : Int → Prop} (h : Fr w0 w F) (i j : Nat) (hi : F[i]? = some (sIt ad cs)) (hj : cs[j]? = some (.int k n)) (hk : K n) (ht : flat P t = true := by kernel_rfl) : gLoad P t (shI k) (.pointer (some (ad.add j))) w K := gLoad_i (h.cell i j hi hj) hk ht
theorem fLoad_v {t : TypeId} {v : Value} {ad : Addr} {cs : List Value} {K : Value → Prop} (h : Fr w0 w F) (i j : Nat) (hi : F[i]? = some (sIt ad cs)) (hj : cs[j]? = some v) (hk : K v) (ht : flat P t = true := by kernel_rfl) : gLoad P t shV (.pointer (some (ad.add j))) w K := gLoad_v (h.cell i j hi hj) hk ht
theorem fLoad_b {t : TypeId} {v : Bool} {ad : Addr} {cs : List Value} {K : Bool → Prop} (h : Fr w0 w F) (i j : Nat) (hi : F[i]? = some (sIt ad cs)) (hj : cs[j]? = some (.bool v)) (hk : K v) (ht : flat P t = true := by kernel_rfl) : gLoad P t shB (.pointer (some (ad.add j))) w K := gLoad_b (h.cell i j hi hj) hk ht
theorem fLit_n {t : TypeId} {n : Nat} {k : IntKind} {parts : Array (Nat × Value)} {K : Value → World → Prop} (xs : List Int) (h : Fr w0 w F) (hp : parts.toList = enumV 0 (xs.map (.int k))) (hn : xs.length = n) (hr : inR k xs)
    (hk : ∀ v w', Fr w0 w' (oIt k (elOf P t) v xs :: F) → K v w') (hm : n ≤ 1000000 := by decide) (ht : sl1 P t = true := by kernel_rfl) : gLit P t n parts w K :=
  gLit_n xs hp hn hm hr (fun v w' he ho => hk v w' (h.new he (ho.low (Nat.zero_le _)) fun k hk => (ho.base hk).1)) ht
/-- Appending to a slice of one's own: it is another one. -/
theorem fApp {t ty : TypeId} {k : IntKind} {v y : Value} {xs ys : List Int} {K : Value → World → Prop} (h : Fr w0 w F) (i : Nat) (hi : F[i]? = some (oIt k (elOf P t) v xs)) (hy : Nm k w y ys) (hb : (xs.length + ys.length) * 8 ≤ 140737488355328)
    (hk : ∀ v' w', Fr w0 w' (F.set i (oIt k (elOf P t) v' (xs ++ ys))) → K v' w') (ht : slInt P t k = true := by kernel_rfl) : gApp P #[t, t] ty #[v, y] w K :=
  gApp_on (h.get i hi) hy hb (Nat.zero_le _) (fun v' w' ho hc hm => hk v' w' (h.upd i hi hc (fun k _ hh => .inl hh) ho fun k hk => by
    rcases hm with hm | hm
    · exact .inl (by have hk : v'.ownBlock = some k := hk; rw [hm] at hk; exact hk)
    · exact .inr (hm k hk))) ht
/-- Appending to nothing. -/
theorem fApp0 {t ty : TypeId} {k : IntKind} {y : Value} {ys : List Int} {K : Value → World → Prop} (h : Fr w0 w F) (hy : Nm k w y ys) (hb : ys.length * 8 ≤ 140737488355328)
    (hk : ∀ v' w', Fr w0 w' (oIt k (elOf P t) v' ys :: F) → K v' w') (ht : slInt P t k = true := by kernel_rfl) : gApp P #[t, t] ty #[.slice none 0 0, y] w K :=
  gApp_on (ON.nil k (elOf P t) w w.heap.size) hy (by simpa using hb) (Nat.le_refl _) (fun v' w' ho hc hm => hk v' w' (h.new (hc.mono fun _ _ _ hh => by cases hh) (by rw [List.nil_append] at ho; exact ho.low (Nat.zero_le _)) fun k hk => (ho.base hk).1)) ht
theorem Fr.on {k : IntKind} {e : TypeId} {v : Value} {xs : List Int} (h : Fr w0 w F) (i : Nat) (hi : F[i]? = some (oIt k e v xs)) : ON k e w w0.heap.size v xs := by
  have ho : ON k e w 0 v xs := h.get i hi
  refine ⟨⟨ho.1.1, ?_⟩, ho.2⟩
  rcases ho.1.2 with hn | ⟨g, cap, cur, rfl, hb, r⟩
  · exact .inl hn
  · exact .inr ⟨g, cap, cur, rfl, (h.ft i hi (k := g) rfl).1, r⟩
theorem Fr.nm {k : IntKind} {e : TypeId} {v : Value} {xs : List Int} (h : Fr w0 w F) (i : Nat) (hi : F[i]? = some (oIt k e v xs)) : Nm k w v xs := (h.on i hi).nm
theorem Fr.nil0 (h : Fr w0 w F) (k : IntKind) (e : TypeId) : Fr w0 w (oIt k e (.slice none 0 0) [] :: F) :=
  h.new (Ch.refl _ w) (ON.nil k e w 0) fun _ hk => by cases hk
/-- A new slice that a call hands back. -/
theorem Fr.newO {k : IntKind} {e : TypeId} {w' : World} {v : Value} {xs : List Int} (h : Fr w0 w F) (he : Ev w w') (ho : ON k e w' w.heap.size v xs) : Fr w0 w' (oIt k e v xs :: F) :=
  h.new he (ho.low (Nat.zero_le _)) fun _ hk => (ho.base hk).1

/-! ### Structs of numbers, held against each other -/
end
end Go.Proofs.YtiimlfgjnapgjaaGreatDoorV

/- Nodes, sixth part: literals of structs, places of arrays, []byte of constant texts, appending texts. -/
namespace Go.Proofs.YtiimlfgjnapgjaaGreatDoorV
open Go Go.RowKit
section
variable {P : Program} {w0 w : World} {F : List It}
/-! ### Literals of structs -/
theorem setAll_size (vs : List Value) : ∀ (c : Array Value) (a : Nat), (setAll c a vs).size = c.size := by
  induction vs with
  | nil => intros; rfl
  | cons v r ih => intro c a; simp only [setAll]; rw [ih]; simp
theorem setAll_app (xs ys : List Value) : ∀ (c : Array Value) (a : Nat), setAll c a (xs ++ ys) = setAll (setAll c a xs) (a + xs.length) ys := by
  induction xs with
  | nil => intros; rfl
  | cons v r ih => intro c a; simp only [List.cons_append, setAll]; rw [ih]; simp only [List.length_cons]; rw [Nat.add_right_comm, Nat.add_assoc]
def enumA : Nat → List (List Value) → List (Nat × Value)
  | _, [] => []
  | i, v :: r => (i, .agg v.toArray) :: enumA (i + 1) r
theorem fill_enumA (sz : Nat) (vss : List (List Value)) (h1 : ∀ v ∈ vss, v.length = sz) : ∀ (j : Nat) (cells : Array Value), (j + vss.length) * sz ≤ cells.size → Instr.fill (fun i => some (i * sz, sz)) cells (enumA j vss) = some (setAll cells (j * sz) vss.flatten) := by
  induction vss with
  | nil => intros; rfl
  | cons v r ih =>
    intro j cells h
    have hv := h1 v (by simp)
    have hle : j * sz + sz ≤ cells.size := by
      have : (j + 1) * sz ≤ (j + (v :: r).length) * sz := Nat.mul_le_mul_right _ (by simp)
      rw [Nat.succ_mul] at this; omega
    simp only [enumA, Instr.fill]
    rw [if_neg (by simp [Value.cells]; omega), fill_step, ih (fun v hv => h1 v (by simp [hv])) (j + 1) _ (by rw [setAll_size]; simp only [List.length_cons] at h; rwa [show j + 1 + r.length = j + (r.length + 1) by omega])]
    rw [List.flatten_cons, setAll_app, hv, Nat.succ_mul]; rfl
theorem fLit_sz {t : TypeId} {n : Nat} {parts : Array (Nat × Value)} {K : Value → World → Prop} (sz : Nat) (vss : List (List Value)) (h : Fr w0 w F) (hp : parts.toList = enumA 0 vss) (hn : vss.length = n) (h1 : ∀ v ∈ vss, v.length = sz)
    (hk : ∀ ad w', Fr w0 w' (sIt ad vss.flatten :: F) → K (.slice (some ad) n n) w') (hm : n * sz ≤ 1000000 := by decide) (ht : slSz P t sz = true := by kernel_rfl) (hz : (P.info? (elOf P t)).bind (·.zero) ≠ none := by decide) : gLit P t n parts w K := by
  obtain ⟨hu, i, hi, hsz⟩ := slSz_ok ht
  have hz' : ∃ z, i.zero = some z := by
    rw [hi] at hz; simp only [Option.bind_some] at hz
    cases hh : i.zero with
    | none => exact absurd hh hz
    | some z => exact ⟨z, rfl⟩
  obtain ⟨z, hz⟩ := hz'
  have hfl : vss.flatten.length = n * sz := by
    subst hn; clear hp hk hm
    induction vss with
    | nil => simp
    | cons v r ih => simp only [List.flatten_cons, List.length_append, h1 v (by simp), ih (fun v hv => h1 v (by simp [hv])), List.length_cons, Nat.succ_mul]; omega
  obtain ⟨c0, hc0, hrun⟩ : ∃ c0 : Array Value, c0.size = n * sz ∧ (Instr.buildSlice t n parts).run P w = .ok (.slice (some ⟨w.heap.size, 0, none⟩) n n) (w.alloc (.cells (setAll c0 0 vss.flatten) (elOf P t))) := by
    simp only [Instr.buildSlice, Sem.run_bind, run_underlying hu, Result.andThen_ok, sizeOf, typeInfo, run_program, hi, Sem.run_pure, hsz]
    rw [if_neg (by omega)]
    by_cases h0 : n * sz = 0
    · refine ⟨#[], by simp [h0], ?_⟩
      have he : ∀ f : Nat → Value, Array.map f (Array.range 0) = #[] := fun f => Array.eq_empty_of_size_eq_zero (by simp)
      rw [hp, h0]
      simp only [if_true, Sem.run_bind, Sem.run_pure, Result.andThen_ok, he]
      rw [fill_enumA sz vss h1 0 #[] (by rw [Nat.zero_add, hn, h0]; exact Nat.zero_le _)]
      simp [newRow]
    · refine ⟨(Array.range (n * sz)).map (z.cells[· % z.cells.size]!), by simp, ?_⟩
      rw [if_neg h0]
      simp only [Sem.run_bind, zeroValue, typeInfo, run_program, Result.andThen_ok, hi, hz, Sem.run_pure]
      rw [hp, fill_enumA sz vss h1 0 _ (by simp [hn])]
      simp [newRow]
  have hl := setAll_list vss.flatten 0 c0 (by omega)
  simp only [List.take_zero, List.nil_append] at hl
  refine ⟨_, _, hrun, hk _ _ (h.new (jt := sIt ⟨w.heap.size, 0, none⟩ vss.flatten) (Ev.alloc w _) ?_ fun k hk => by have hk : k = w.heap.size := hk; omega)⟩
  have := St.alloc w (setAll c0 0 vss.flatten) (elOf P t)
  rwa [hl] at this
def arSz (P : Program) (t : TypeId) (n sz : Nat) : Bool := match P.underlying t with
  | some (.array m e) => Nat.beq m n && (match P.info? e with | some i => Nat.beq i.size sz | none => false)
  | _ => false
theorem gIdx_ar {t : TypeId} {ki : IntKind} {sz : Nat} {ad : Addr} {i : Int} {K : Addr → Prop} (n j : Nat) (hij : i = (j : Int)) (h1 : j < n) (hk : K (ad.add (j * sz))) (ht : arSz P t n sz = true := by kernel_rfl) : gIdx P t (.pointer (some ad)) (.int ki i) K := by
  unfold arSz at ht
  split at ht
  · rename_i m e hu
    simp only [Bool.and_eq_true] at ht
    have hm := Nat.eq_of_beq_eq_true ht.1
    subst hm; subst hij
    replace ht := ht.2
    split at ht
    · rename_i ii hi
      refine ⟨ad.add (j * sz), fun w => ?_, hk⟩
      simp only [Instr.indexAt, asIntOf, Sem.run_bind, Sem.run_pure, Result.andThen_ok, run_underlying hu, Instr.sureAddr]
      rw [if_pos ⟨by omega, by omega⟩]
      simp [sizeOf, typeInfo, hi, Nat.eq_of_beq_eq_true ht]
    · cases ht
  · cases ht
theorem gIdx_ar1 {t : TypeId} {ki : IntKind} {ad : Addr} {i : Int} {K : Addr → Prop} (n j : Nat) (hij : i = (j : Int)) (h1 : j < n) (hk : K (ad.add j)) (ht : arSz P t n 1 = true := by kernel_rfl) : gIdx P t (.pointer (some ad)) (.int ki i) K :=
  gIdx_ar (sz := 1) n j hij h1 (by rwa [Nat.mul_one]) ht
/-! ### []byte of a constant text -/
/-- Its row is marked as one that stands for a text: it has no room. -/
def Cn (e : TypeId) (w : World) (v : Value) (xs : List Int) : Prop := ∃ g, v = .slice (some ⟨g, 0, none⟩) xs.length xs.length ∧ w.heap[g]? = some (.cells (xs.map (Value.int .u8)).toArray e (xs.length, xs.length + 1)) ∧ inR .u8 xs
theorem Cn.ch {e : TypeId} {S : SS} {w' : World} {v : Value} {xs : List Int} (h : Cn e w v xs) (hc : Ch S w w') (hs : ∀ k i, v.ownBlock = some k → ¬ S k i) : Cn e w' v xs := by
  obtain ⟨g, rfl, h1, h2⟩ := h
  exact ⟨g, rfl, by rw [hc.blk g (hlt h1) fun i => hs g i rfl]; exact h1, h2⟩
theorem Cn.lt {e : TypeId} {v : Value} {xs : List Int} (h : Cn e w v xs) {k : Nat} (hk : v.ownBlock = some k) : k < w.heap.size := by
  obtain ⟨g, rfl, h1, h2⟩ := h
  have : g = k := by simpa [Value.ownBlock] using hk
  subst this; exact hlt h1
theorem Cn.nm {e : TypeId} {v : Value} {xs : List Int} (h : Cn e w v xs) : Nm .u8 w v xs := by
  obtain ⟨g, rfl, h1, h2⟩ := h
  refine ⟨⟨some ⟨g, 0, none⟩, xs.length, rfl, Nat.le_refl _, by simp, fun ad ha j u hj => ?_, fun h => by cases h⟩, h2⟩
  injection ha with ha; subst ha
  rw [Addr.add_lit]
  simp [World.cell?, h1, hj]
def cIt (e : TypeId) (v : Value) (xs : List Int) : It := ⟨fun b => v.ownBlock = some b, fun w => Cn e w v xs, fun _ _ h hk => by
    obtain ⟨g, rfl, h1, _⟩ := h
    simp [Value.ownBlock] at hk; subst hk; exact ⟨_, _, _, h1⟩, fun _ _ _ h hc hs => h.ch hc hs, fun _ _ h _ hc => by
    obtain ⟨g, rfl, h1, h2⟩ := h; exact ⟨g, rfl, by rw [hc _ _ _ _ h1]; exact h1, h2⟩⟩
def slU8 (P : Program) (t : TypeId) : Bool := match P.underlying t with
  | some (.slice e) => (match P.underlying e with | some (.int .u8) => true | _ => false) && (match P.info? e with | some i => Nat.beq i.size 1 && i.zero.isSome | none => false)
  | _ => false
theorem slU8_ok {t : TypeId} (h : slU8 P t = true) : P.underlying t = some (.slice (elOf P t)) ∧ P.underlying (elOf P t) = some (.int .u8) ∧ ∃ i z, P.info? (elOf P t) = some i ∧ i.size = 1 ∧ i.zero = some z := by
  unfold slU8 at h
  split at h
  · rename_i e he
    have hel : elOf P t = e := by unfold elOf; rw [he]
    rw [hel]
    simp only [Bool.and_eq_true] at h
    obtain ⟨h1, h2⟩ := h
    split at h1
    · rename_i hu
      split at h2
      · rename_i i hi
        simp only [Bool.and_eq_true] at h2
        obtain ⟨z, hz⟩ := Option.isSome_iff_exists.1 h2.2
        exact ⟨he, hu, i, z, hi, Nat.eq_of_beq_eq_true h2.1, hz⟩
      · cases h2
    · cases h1
  · cases h
theorem fLitC {t : TypeId} {n : Nat} {parts : Array (Nat × Value)} {K : Value → World → Prop} (xs : List Int) (h : Fr w0 w F) (hp : parts.toList = enumV 0 (xs.map (.int .u8))) (hn : xs.length = n) (hr : inR .u8 xs)
    (hk : ∀ v w', Fr w0 w' (cIt (elOf P t) v xs :: F) → K v w') (hm : n ≤ 1000000 := by decide) (ht : slU8 P t = true := by kernel_rfl) : gLit P t n parts w fun v w1 => gConv P t t shV v w1 K := by
  obtain ⟨hu, hue, i, z, hi, hsz, hz⟩ := slU8_ok ht
  obtain ⟨c0, hc0, hrun⟩ : ∃ c0 : Array Value, c0.size = n ∧ (Instr.buildSlice t n parts).run P w = .ok (.slice (some ⟨w.heap.size, 0, none⟩) n n) (w.alloc (.cells (setAll c0 0 (xs.map (.int .u8))) (elOf P t))) := by
    simp only [Instr.buildSlice, Sem.run_bind, run_underlying hu, Result.andThen_ok, sizeOf, typeInfo, run_program, hi, Sem.run_pure, hsz, Nat.mul_one]
    rw [if_neg (by omega)]
    by_cases h0 : n = 0
    · subst h0
      have : xs = [] := List.eq_nil_of_length_eq_zero hn
      subst this
      refine ⟨#[], rfl, ?_⟩
      have he : ∀ f : Nat → Value, Array.map f (Array.range 0) = #[] := fun f => Array.eq_empty_of_size_eq_zero (by simp)
      rw [hp]
      simp [enumV, Instr.fill, newRow, setAll, he]
    · refine ⟨(Array.range n).map (z.cells[· % z.cells.size]!), by simp, ?_⟩
      rw [if_neg h0]
      simp only [Sem.run_bind, zeroValue, typeInfo, run_program, Result.andThen_ok, hi, hz, Sem.run_pure]
      rw [hp, show (fun i => some (i, 1)) = (fun i => some (i * 1, 1)) by funext i; rw [Nat.mul_one], fill_enum _ (fun v hv => by obtain ⟨x, _, rfl⟩ := List.mem_map.1 hv; rfl) 0 _ (by simp; omega)]
      simp [newRow]
  have hl := setAll_list (xs.map (.int .u8)) 0 c0 (by simp; omega)
  simp only [List.take_zero, List.nil_append] at hl
  have hc : setAll c0 0 (xs.map (.int .u8)) = (xs.map (Value.int .u8)).toArray := by have := congrArg List.toArray hl; simpa using this
  rw [hc] at hrun
  have hconv := Go.Lib.run_convert_bytes_const (P := P) w t (elOf P t) (xs.map (Value.int .u8)).toArray n n hu hue
  have hs : (xs.map (Value.int .u8)).toArray.size = xs.length := by simp
  rw [hs] at hconv
  refine ⟨_, _, hrun, _, _, hconv, hk _ _ (h.new (Ev.alloc w _) ⟨w.heap.size, by rw [hn], heap_alloc_new w _, hr⟩ fun k hk => ?_)⟩
  have : w.heap.size = k := by simpa [cIt, Value.ownBlock] using hk
  omega
/-! ### Texts put behind bytes -/
/-- A text's bytes. -/
def sOf (s : ByteArray) : List Int := s.data.toList.map fun b => (b.toNat : Int)
theorem sOf_len (s : ByteArray) : (sOf s).length = s.size := by unfold sOf; rw [List.length_map, Array.length_toList]; rfl
theorem sOf_u8 (s : ByteArray) : inR .u8 (sOf s) := fun x hx => by
  obtain ⟨b, _, rfl⟩ := List.mem_map.1 hx
  have := b.toNat_lt
  simp [IntKind.min, IntKind.max, IntKind.signed, IntKind.bits]; omega
def strB (P : Program) (t : TypeId) : Bool := match P.underlying t with
  | some .string => true
  | _ => false
theorem strB_ok {t : TypeId} (h : strB P t = true) : P.underlying t = some .string := by
  unfold strB at h; split at h
  · rename_i hh; exact hh
  · cases h
theorem gIndex_s {t : TypeId} {k : IntKind} {s : ByteArray} {j : Nat} {i : Int} {K : Int → Prop} (hij : i = (j : Int)) (hj : j < s.size) (hk : K (rd (sOf s) i)) (ht : strB P t = true := by kernel_rfl) : gIndex P t (shI .u8) (.string s) (.int k i) K := by
  subst hij
  have hu := strB_ok ht
  refine ⟨rd (sOf s) (j : Int), fun w => ?_, hk⟩
  have hg : s[j]? = some s[j] := by simp [hj]
  simp only [Instr.index, asIntOf, Sem.run_bind, Sem.run_pure, Result.andThen_ok, run_underlying hu]
  rw [if_pos (by omega), Int.toNat_natCast, hg]
  show Result.ok (Value.int .u8 (s[j].toNat : Int)) w = .ok (Value.int .u8 (rd (sOf s) (j : Int))) w
  have : rd (sOf s) (j : Int) = (s[j].toNat : Int) := by
    rw [rd_nat _ _ (by rw [sOf_len]; exact hj)]
    simp [sOf]; rfl
  rw [this]
end
end Go.Proofs.YtiimlfgjnapgjaaGreatDoorV

/- Package valiseref02: Little, New, Raw, Little of a reader. -/
namespace Go.Proofs.YtiimlfgjnapgjaaGreatDoorV
open Go Go.RowKit
section
variable {w0 w : World} {F : List It} {xs : List Int} {ad : Addr} {y : Value} {a : Nat} {er : Int}
/-- A reader that is new: its struct, and its bytes. -/
theorem Fr.rd (h : Fr w0 w F) (i j : Nat) (hi : F[i]? = some (sIt ad [y, .int .i64 a, .int .i64 er])) (hj : F[j]? = some (oIt .u8 eB y xs)) (hn : i ≠ j) (ha : a ≤ xs.length) (hl : xs.length ≤ 10000000000) : Rd w ad y xs a er :=
  ⟨h.get i hi, h.nm j hj, fun hg => h.apart hi hj hn ad.block rfl hg, ha, hl⟩
theorem Fr.rs {w' : World} {a2 : Nat} {er2 : Int} (h : Fr w0 w F) (i : Nat) (hi : F[i]? = some (sIt ad [y, .int .i64 a, .int .i64 er])) (g : RS w w' ad y xs a2 er2) : Fr w0 w' (F.set i (sIt ad [y, .int .i64 a2, .int .i64 er2])) :=
  h.upd i hi g.2 (fun k _ hh => .inl hh.1) g.1.1 fun k hk => .inl hk
end
end Go.Proofs.YtiimlfgjnapgjaaGreatDoorV

/- Small things that texts of functions share, second part. -/
namespace Go.Proofs.YtiimlfgjnapgjaaGreatDoorV
open Go Go.RowKit
section
variable {w0 w : World} {F : List It} {f : FuncId} {args : Array Value}
end
section
variable {w0 w : World} {F : List It} {f : FuncId} {args : Array Value}
/-! ### Bytes that grow behind a pointer -/
theorem Fr.asW (h : Fr w0 w F) (i : Nat) {ad : Addr} {e : TypeId} (hi : F[i]? = some (sIt ad [.slice none 0 0])) : Fr w0 w (F.set i (wIt e ad (.slice none 0 0) [])) :=
  h.upd (S := No) i hi (Ch.refl _ w) (fun _ _ h => h.elim) ⟨h.get i hi, ON.nil _ _ _ _, fun h => by cases h⟩ fun k hk => .inl (by rcases hk with hk | hk; exact hk; cases hk)
theorem Fr.wr {w' : World} {ad : Addr} {e : TypeId} {v v' : Value} {xs ys : List Int} (h : Fr w0 w F) (i : Nat) (hi : F[i]? = some (wIt e ad v xs)) (g : WrS e w w' ad v v' ys) : Fr w0 w' (F.set i (wIt e ad v' ys)) :=
  h.upd i hi g.2.1 (fun k _ hh => .inl hh) g.1 fun k hk => by
    rcases hk with hk | hk
    · exact .inl (.inl hk)
    · rcases g.2.2 with hm | hm
      · exact .inl (.inr (hm ▸ hk))
      · exact .inr (hm k hk)
end
/-! ### Texts -/
end Go.Proofs.YtiimlfgjnapgjaaGreatDoorV

/- copy(), and buffers that are written into. -/
namespace Go.Proofs.YtiimlfgjnapgjaaGreatDoorV
open Go Go.RowKit
section
variable {P : Program} {w0 w : World} {F : List It}
/-- A function that the model runs itself. -/
def isExt (P : Program) (f : FuncId) : Bool := match P.funcs[f]? with
  | some fn => !(fn.name == "runtime.NumGoroutine") && fn.body.isNone && (Extern.findNext fn).isNone
  | none => false
theorem run_ext {f : FuncId} {args : Array Value} {e : Array Value → Sem Value} {v : Value} (h : isExt P f = true) (he : (P.funcs[f]?).bind Extern.find = some e) (hr : (e args).run P w = .ok v w) : (callFunc f args).run P w = .ok (.value v) w := by
  unfold isExt at h
  split at h
  · rename_i fn hf
    rw [hf] at he
    simp only [Bool.and_eq_true, Bool.not_eq_true'] at h
    rw [run_callFunc_extern hf h.1.1 h.1.2 (Option.isNone_iff_eq_none.1 h.2) he, hr]; rfl
  · cases h
theorem gExt_i {f : FuncId} {args : Array Value} {e : Array Value → Sem Value} {k : IntKind} {n : Int} {K : Int → World → Prop} (he : (P.funcs[f]?).bind Extern.find = some e) (hr : (e args).run P w = .ok (.int k n) w) (hk : K n w) (h : isExt P f = true := by kernel_rfl) : gExt P f (shI k) args w K :=
  ⟨n, w, run_ext h he hr, hk⟩
end
end Go.Proofs.YtiimlfgjnapgjaaGreatDoorV

/- Arrays: loaded whole, indexed, sliced, copied into. -/
namespace Go.Proofs.YtiimlfgjnapgjaaGreatDoorV
open Go Go.RowKit
section
variable {P : Program} {w0 w : World} {F : List It}
theorem gLoad_arr {t : TypeId} {ad : Addr} {K : Array Value → Prop} (vs : List Value) (hc : ∀ j u, vs[j]? = some u → w.cell? (ad.add j) = some u) (hk : K vs.toArray) (ht : aggB P t vs.length = true) : gLoad P t shA (.pointer (some ad)) w K :=
  ⟨vs.toArray, run_loadAgg hc ht, hk⟩
theorem fLoadArr {t : TypeId} {ad : Addr} {cs : List Value} {K : Array Value → Prop} (h : Fr w0 w F) (i : Nat) (hi : F[i]? = some (sIt ad cs)) (hk : K cs.toArray) (ht : aggB P t cs.length = true) : gLoad P t shA (.pointer (some ad)) w K :=
  gLoad_arr cs (fun j u hj => h.cell i j hi hj) hk ht
/-- A slice of values of one cell each. -/
theorem ownsRow_ch {S : SS} {w w' : World} {e : TypeId} {B n : Nat} {v : Value} {cs : List Value} (h : w.ownsRow B e 1 v n cs) (hc : Ch S w w') (hs : ∀ g i, v.ownBlock = some g → ¬ S g i) : w'.ownsRow B e 1 v n cs := by
  refine ⟨h.1, ?_⟩
  rcases h.2 with hn | ⟨g, cap, cur, rfl, hb, hg, r⟩
  · exact .inl hn
  · exact .inr ⟨g, cap, cur, rfl, hb, by rw [hc.blk g (hlt hg) (fun i => hs g i rfl)]; exact hg, r⟩
def lIt (e : TypeId) (v : Value) (us : List Value) : It := ⟨fun b => v.ownBlock = some b, fun w => w.ownsRow 0 e 1 v us.length us, fun w k h hk => by
    rcases h.2 with ⟨rfl, _⟩ | ⟨g', cap, cur, rfl, hb, hh, r⟩
    · cases hk
    · simp [Value.ownBlock] at hk; subst hk; exact ⟨_, _, _, hh⟩, fun _ _ _ h hc hs => ownsRow_ch h hc hs, fun w w' h _ hc => by
    refine ⟨h.1, ?_⟩
    rcases h.2 with hn | ⟨g, cap, cur, rfl, hb, hg, r⟩
    · exact .inl hn
    · exact .inr ⟨g, cap, cur, rfl, hb, by rw [hc _ _ _ _ hg]; exact hg, r⟩⟩
theorem Fr.sl {e : TypeId} {v : Value} {us : List Value} (h : Fr w0 w F) (i : Nat) (hi : F[i]? = some (lIt e v us)) : Sl w 1 v us.length us := Sl.of_own (h.get i hi)
/-- Some of them, in another order. -/
theorem Fr.picks (h : Fr w0 w F) : ∀ (is : List Nat), is.Nodup → Fr w0 w (is.filterMap fun i => F[i]?)
  | [], _ => h.old
  | i :: r, hd => by
    have ih := h.picks r (List.nodup_cons.1 hd).2
    cases hi : F[i]? with
    | none => rw [List.filterMap_cons_none hi]; exact ih
    | some it =>
      rw [List.filterMap_cons_some hi]
      have hm := h.mem (List.mem_of_getElem? hi)
      refine ⟨hm.1, hm.2, fun jt hj k hk => ?_, ih⟩
      obtain ⟨j, hj1, hj2⟩ := List.mem_filterMap.1 hj
      have hne : i ≠ j := fun e => (List.nodup_cons.1 hd).1 (e ▸ hj1)
      exact h.apart hi hj2 hne k hk
theorem Fr.dropN : ∀ {F : List It} (n : Nat), Fr w0 w F → Fr w0 w (F.drop n)
  | _, 0, h => h
  | [], _ + 1, h => h
  | _ :: _, n + 1, h => Fr.dropN n h.2.2.2
/-- Some of the first n, in another order, ahead of the others. -/
theorem Fr.picksN (h : Fr w0 w F) (n : Nat) : ∀ (is : List Nat), is.Nodup → (∀ i ∈ is, i < n) → Fr w0 w ((is.filterMap fun i => F[i]?) ++ F.drop n)
  | [], _, _ => h.dropN n
  | i :: r, hd, hn => by
    have ih := h.picksN n r (List.nodup_cons.1 hd).2 fun j hj => hn j (by simp [hj])
    cases hi : F[i]? with
    | none => rw [List.filterMap_cons_none hi]; exact ih
    | some it =>
      rw [List.filterMap_cons_some hi]
      have hm := h.mem (List.mem_of_getElem? hi)
      refine ⟨hm.1, hm.2, fun jt hj k hk => ?_, ih⟩
      rcases List.mem_append.1 hj with hj | hj
      · obtain ⟨j, hj1, hj2⟩ := List.mem_filterMap.1 hj
        have hne : i ≠ j := fun e => (List.nodup_cons.1 hd).1 (e ▸ hj1)
        exact h.apart hi hj2 hne k hk
      · obtain ⟨q, hq⟩ := List.mem_iff_getElem?.1 hj
        rw [List.getElem?_drop] at hq
        have := hn i (by simp)
        exact h.apart hi hq (by omega) k hk
/-- What was made behind a world, put to what was made ahead of it. -/
theorem Fr.glue {w1 : World} : ∀ {G : List It}, Fr w0 w1 F → Fr w1 w G → Fr w0 w (G ++ F)
  | [], h, h2 => h.ev h2
  | it :: G, h, h2 => by
    refine ⟨h2.1, fun k hk => Nat.le_trans h.old.size (h2.2.1 k hk), fun jt hj k hk hjk => ?_, Fr.glue h h2.2.2.2⟩
    rcases List.mem_append.1 hj with hj | hj
    · exact h2.2.2.1 jt hj k hk hjk
    · have h3 := h2.2.1 k hk
      have h4 := jt.lt w1 k (h.mem hj).1 hjk
      omega
end
end Go.Proofs.YtiimlfgjnapgjaaGreatDoorV
