/- The law TableTells. -/
import Derived.Test.YtlkjbilmfgfopaaVTableA
import Derived.Test.YtlkjbilmfgfopaaVHelp
import Derived.Test.YtlkjbilmfgfopaaVHelpOwn
namespace Go.Proofs.YtlkjbilmfgfopaaV
open Go Go.RowKit
theorem awake_any {w : World} : Calls P n_valiselaw20_awake #[] w (fun e w' => e = .returned (.bool true) ∧ Ev w w') := by
  refine of_valiselaw20_awake (gLit_n (k := .u8) [1, 2, 1, 2, 1, 2, 1, 2] rfl rfl (by decide) (fun x hx => by simp at hx; rcases hx with rfl | rfl | rfl | rfl | rfl | rfl | rfl | rfl <;> decide) fun v w1 h1 hO => gCall_i (Width_any hO.nm (by decide)) fun w2 h2 => ?_)
  have : widI [1, 2, 1, 2, 1, 2, 1, 2] = 2 := by decide +kernel
  rw [this]
  exact ⟨rfl, h1.trans h2⟩
theorem awake_end {w : World} : gCall P n_valiselaw20_awake shB #[] w fun t ww => Holds w (.returned (.bool t)) ww := gCall_b awake_any fun _ h => ⟨rfl, h⟩
theorem TableTells_law {b : Value} {xs : List Int} {width : Int} {w : World} (hb : Nm .u8 w b xs) (hw : IntKind.i64.min ≤ width ∧ width ≤ IntKind.i64.max) : Calls P n_valiselaw20_TableTells #[b, .int .i64 width] w (Holds w) := by
  replace hw := (i64_rng hw).2
  refine of_valiselaw20_TableTells (gLen_nm hb (gIf_dec (fun _ => awake_end) (fun hl => ?_)))
  refine gCall_v (Own_byte_any hb (by omega) (by decide)) fun i1 w1 ⟨h1, hi1⟩ => gCall_b awake_any fun w2 h2 => gIf_t ?_
  have hI := hi1.ev h2
  have e2 : Ev w w2 := h1.trans h2
  refine gCall_i (Score_any hI.nm (by omega) hw) fun w3 h3 => gCall_i (rScore_any (hb.ev (e2.trans h3)) (by omega) hw) fun w4 h4 => gIf_eq (fun _ => ?_) (fun h => (h rfl).elim)
  have e4 : Ev w2 w4 := h3.trans h4
  refine gCall_i (Width_any (hI.nm.ev e4) (by omega)) fun w5 h5 => gCall_i (rWidth_any (hb.ev (e2.trans (e4.trans h5))) (by omega)) fun w6 h6 => gIf_eq (fun _ => ?_) (fun h => (h rfl).elim)
  have e6 : Ev w2 w6 := e4.trans (h5.trans h6)
  refine gCall_v (Delta_any (hI.nm.ev e6) (by omega) hw) fun v7 w7 ⟨h7, o7⟩ => gCall_v (rDelta_any (hb.ev (e2.trans (e6.trans h7))) (by omega) hw) fun v8 w8 ⟨h8, o8⟩ => gCall_b0 (Bytes_any (o7.ev h8).nm o8.nm) ?_
  rw [decide_eq_true rfl]
  have e8 : Ev w2 w8 := e6.trans (Ev.trans h7 h8)
  refine gIf_t (gCall_v (Undelta_any (hI.nm.ev e8) (by omega) hw) fun v9 w9 ⟨h9, o9⟩ => gCall_v (rUndelta_any (hb.ev (e2.trans (e8.trans h9))) (by omega) hw) fun v10 w10 ⟨h10, o10⟩ => gCall_b0 (Bytes_any (o9.ev h10).nm o10.nm) ?_)
  rw [decide_eq_true rfl]
  have e10 : Ev w2 w10 := e8.trans (Ev.trans h9 h10)
  exact gIf_t (gCall_b (Kept_byte_any (hI.ev e10) (hb.ev (e2.trans e10)) (by omega)) fun w11 h11 => ⟨rfl, e2.trans (e10.trans h11)⟩)
end Go.Proofs.YtlkjbilmfgfopaaV
