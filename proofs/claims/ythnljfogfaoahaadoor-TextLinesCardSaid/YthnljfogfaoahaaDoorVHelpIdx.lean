/- Package slices: IndexFunc, ContainsFunc, Index, Contains of bytes; valisehelp: In. -/
import Derived.Test.YthnljfogfaoahaaDoorVBase2
namespace Go.Proofs.YthnljfogfaoahaaDoorV
open Go Go.RowKit
section
variable {b : Value} {xs : List Int} {w : World}
theorem any_rd {p : Int → Bool} : xs.any p = true ↔ ∃ i : Nat, i < xs.length ∧ p (rd xs i) = true := by
  rw [List.any_eq_true]
  constructor
  · rintro ⟨x, hx, hp⟩
    obtain ⟨i, hi, rfl⟩ := List.getElem_of_mem hx
    exact ⟨i, hi, by rw [rd_nat xs i hi]; exact hp⟩
  · rintro ⟨i, hi, hp⟩
    rw [rd_nat xs i hi] at hp
    exact ⟨_, List.getElem_mem hi, hp⟩
/-- The first place of such a one; none: -1. -/
def idxP (p : Int → Bool) : Nat → List Int → Int
  | _, [] => -1
  | j, c :: r => if p c = true then (j : Int) else idxP p (j + 1) r
theorem idxP_ge {p : Int → Bool} : ∀ {l : List Int} {j : Nat}, (idxP p j l ≥ 0) ↔ l.any p = true
  | [], j => by simp [idxP]
  | c :: r, j => by
    rw [idxP, List.any_cons]
    by_cases h : p c = true
    · rw [if_pos h, h]; simp
    · rw [if_neg h, idxP_ge, Bool.eq_false_iff.2 h]; simp
theorem IndexFunc_any {f : FuncId} {pf : Int → Bool} (hok : callOk P f = true) (hf : ∀ {c : Int} {w : World}, Calls P f #[.int .u8 c] w (fun e w' => e = .returned (.bool (pf c)) ∧ w' = w)) (hb : Nm .u8 w b xs) (hl : xs.length ≤ 1000000000) :
    Calls P n_slices_IndexFunc_byte_byte #[b, .func (.func f) #[] #[]] w (fun e w' => e = .returned (.int .i64 (idxP pf 0 xs)) ∧ w' = w) := by
  refine of_slices_IndexFunc_byte_byte (gLen_nm hb ⟨fun i w' => ∃ j : Nat, i = j ∧ j ≤ xs.length ∧ idxP pf 0 xs = idxP pf j (xs.drop j) ∧ w = w', fun i _ => xs.length - i.toNat, ⟨0, rfl, by omega, rfl, rfl⟩, ?_⟩)
  rintro _ i _ ⟨j, rfl, hj, hi, rfl⟩
  refine gIf_dec (fun hlt => ?_) (fun hge => ?_)
  · have hlt' : j < xs.length := by omega
    rw [List.drop_eq_getElem_cons hlt', idxP, ← rd_nat xs j hlt'] at hi
    refine gIdx_nm hb (by omega) hlt fun a1 c1 _ => gLoad_i c1 (gCallV_of rfl hok hf ?_)
    rintro _ _ ⟨rfl, rfl⟩
    refine ⟨_, rfl, gIf_b (fun h => ?_) (fun h => ?_)⟩
    · exact ⟨by rw [hi, if_pos h], rfl⟩
    · rw [if_neg (by rw [h]; simp)] at hi
      rw [i64_id (n := (j : Int) + 1) (by omega) (by omega)]
      exact ⟨⟨j + 1, rfl, by omega, hi, rfl⟩, by dsimp only; omega⟩
  · exact ⟨by rw [hi, List.drop_of_length_le (by omega)]; rfl, rfl⟩
theorem ContainsFunc_any {f : FuncId} {pf : Int → Bool} (hok : callOk P f = true) (hf : ∀ {c : Int} {w : World}, Calls P f #[.int .u8 c] w (fun e w' => e = .returned (.bool (pf c)) ∧ w' = w)) (hb : Nm .u8 w b xs) (hl : xs.length ≤ 1000000000) :
    Calls P n_slices_ContainsFunc_byte_byte #[b, .func (.func f) #[] #[]] w (fun e w' => e = .returned (.bool (xs.any pf)) ∧ w' = w) := by
  refine of_slices_ContainsFunc_byte_byte (gCall_i0 (IndexFunc_any hok hf hb hl) ⟨?_, rfl⟩)
  congr 2
  cases h : xs.any pf
  · exact decide_eq_false fun hh => by rw [idxP_ge, h] at hh; cases hh
  · exact decide_eq_true (idxP_ge.2 h)
theorem Index_any {v : Int} (hb : Nm .u8 w b xs) (hl : xs.length ≤ 1000000000) : Calls P n_slices_Index_byte_byte #[b, .int .u8 v] w (fun e w' => e = .returned (.int .i64 (idxP (fun c => v == c) 0 xs)) ∧ w' = w) := by
  refine of_slices_Index_byte_byte (gLen_nm hb ⟨fun i w' => ∃ j : Nat, i = j ∧ j ≤ xs.length ∧ idxP (fun c => v == c) 0 xs = idxP (fun c => v == c) j (xs.drop j) ∧ w = w', fun i _ => xs.length - i.toNat, ⟨0, rfl, by omega, rfl, rfl⟩, ?_⟩)
  rintro _ i _ ⟨j, rfl, hj, hi, rfl⟩
  refine gIf_dec (fun hlt => ?_) (fun hge => ?_)
  · have hlt' : j < xs.length := by omega
    rw [List.drop_eq_getElem_cons hlt', idxP, ← rd_nat xs j hlt'] at hi
    refine gIdx_nm hb (by omega) hlt fun a1 c1 _ => gLoad_i c1 (gIf_b (fun h => ?_) (fun h => ?_))
    · exact ⟨by rw [hi, if_pos h], rfl⟩
    · rw [if_neg (by rw [h]; simp)] at hi
      rw [i64_id (n := (j : Int) + 1) (by omega) (by omega)]
      exact ⟨⟨j + 1, rfl, by omega, hi, rfl⟩, by dsimp only; omega⟩
  · exact ⟨by rw [hi, List.drop_of_length_le (by omega)]; rfl, rfl⟩
theorem Contains_any {v : Int} (hb : Nm .u8 w b xs) (hl : xs.length ≤ 1000000000) : Calls P n_slices_Contains_byte_byte #[b, .int .u8 v] w (fun e w' => e = .returned (.bool (xs.any fun c => v == c)) ∧ w' = w) := by
  refine of_slices_Contains_byte_byte (gCall_i0 (Index_any hb hl) ⟨?_, rfl⟩)
  congr 2
  cases h : xs.any fun c => v == c
  · exact decide_eq_false fun hh => by rw [idxP_ge, h] at hh; cases hh
  · exact decide_eq_true (idxP_ge.2 h)
theorem In_byte_any {v : Int} (hb : Nm .u8 w b xs) (hl : xs.length ≤ 1000000000) : Calls P n_valisehelp_In_byte #[b, .int .u8 v] w (fun e w' => e = .returned (.bool (xs.any fun c => c == v)) ∧ w' = w) := by
  refine of_valisehelp_In_byte ⟨fun i w' => ∃ j : Nat, i = j ∧ j ≤ xs.length ∧ (xs.any fun c => c == v) = ((xs.drop j).any fun c => c == v) ∧ w = w', fun i _ => xs.length - i.toNat, ⟨0, rfl, by omega, rfl, rfl⟩, ?_⟩
  rintro _ i _ ⟨j, rfl, hj, hi, rfl⟩
  refine gLen_nm hb (gIf_dec (fun hlt => ?_) (fun hge => ?_))
  · have hlt' : j < xs.length := by omega
    rw [List.drop_eq_getElem_cons hlt', List.any_cons, ← rd_nat xs j hlt'] at hi
    refine gIdx_nm hb (by omega) hlt fun a1 c1 _ => gLoad_i c1 (gIf_b (fun h => ?_) (fun h => ?_))
    · exact ⟨by rw [hi, h]; rfl, rfl⟩
    · rw [h, Bool.false_or] at hi
      rw [i64_id (n := (j : Int) + 1) (by omega) (by omega)]
      exact ⟨⟨j + 1, rfl, by omega, hi, rfl⟩, by dsimp only; omega⟩
  · exact ⟨by rw [hi, List.drop_of_length_le (by omega)]; rfl, rfl⟩
end
end Go.Proofs.YthnljfogfaoahaaDoorV
