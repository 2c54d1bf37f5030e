/- Package picture: blank and number; the same of valiseref16. -/
import Derived.Test.YtflchmhhmkkooaaVPictA
namespace Go.Proofs.YtflchmhhmkkooaaV
open Go Go.RowKit
/-- Behind white and remarks; false: a remark has no end. -/
def blankL (xs : List Int) : Nat → Nat → Bool × Nat
  | 0, a => (true, a)
  | f + 1, a =>
    if a < xs.length then
      (if whiteB (rd xs a) then blankL xs f (a + 1)
       else if rd xs a = 35 then (match nlI xs a with | some i => blankL xs f (i + 1) | none => (false, a))
       else (true, a))
    else (true, a)
theorem blankL_bd {xs : List Int} : ∀ {f a : Nat}, a ≤ xs.length → a ≤ (blankL xs f a).2 ∧ (blankL xs f a).2 ≤ xs.length
  | 0, a, h => by simp [blankL]; exact h
  | f + 1, a, h => by
    rw [blankL]
    split
    · split
      · have := blankL_bd (xs := xs) (f := f) (a := a + 1) (by omega); omega
      · split
        · split
          · rename_i i hi
            have h1 := nlI_bd hi h
            have := blankL_bd (xs := xs) (f := f) (a := i + 1) (by omega); omega
          · exact ⟨Nat.le_refl _, h⟩
        · exact ⟨Nat.le_refl _, h⟩
    · exact ⟨Nat.le_refl _, h⟩
def blankI (xs : List Int) (a : Nat) : Bool × Nat := blankL xs (xs.length + 1 - a) a
def atS (w : World) (ad : Addr) : Nat := match w.cell? (ad.add 1) with
  | some (.int _ n) => n.toNat
  | _ => 0
section
variable {ad : Addr} {b : Value} {xs : List Int} {a : Nat} {w : World}
theorem atS_SG (h : SG w ad b xs a) : atS w ad = a := by unfold atS; rw [h.1.cell (j := 1) rfl]; rfl
theorem hash_any {c : Int} {w : World} : Calls P n_picture_signs_blank_1 #[.int .u8 c] w (fun e w' => e = .returned (.bool (c == 35)) ∧ w' = w) := of_picture_signs_blank_1 ⟨rfl, rfl⟩
theorem blank_any (h : SG w ad b xs a) : Calls P n_picture_signs_blank #[.pointer (some ad)] w (fun e w' => e = .returned (.bool ((blankI xs a).1 && decide ((blankI xs a).2 > a))) ∧ GS w w' ad b xs (blankI xs a).2) := by
  have hl := h.2.2.2.2
  have ha := h.2.2.2.1
  refine of_picture_signs_blank (gNil_some (gLoad_i (h.1.cell (j := 1) rfl) ⟨fun w' => ∃ j f : Nat, a ≤ j ∧ xs.length < f + j ∧ blankL xs f j = blankI xs a ∧ GS w w' ad b xs j, fun w' => xs.length - atS w' ad, ⟨a, xs.length + 1 - a, by omega, by omega, rfl, h.step⟩, ?_⟩))
  rintro _ w1 ⟨j, f, haj, hf, hbl, h1⟩
  have hj := h1.1.2.2.2.1
  obtain ⟨f, rfl⟩ : ∃ g, f = g + 1 := ⟨f - 1, by omega⟩
  rw [blankL] at hbl
  refine gCall_b (is_any (pf := whiteB) (by kernel_rfl) white_any h1.1) fun w2 h2 => ?_
  have g2 := h1.ev h2
  by_cases hlt : j < xs.length
  · rw [if_pos hlt] at hbl
    rw [decide_eq_true hlt, Bool.true_and]
    cases hw : whiteB (rd xs j) with
    | true =>
      rw [hw, if_pos rfl] at hbl
      refine gIf_t (gNil_some (gLoad_i (g2.1.1.cell (j := 1) rfl) (gNil_some (gStore_st g2.1.1 (j := 1) (by simp) rfl rfl fun w3 h3 _ hS3 => ?_))))
      rw [i64_id (n := (j : Int) + 1) (by omega) (by omega)] at hS3
      have g3 := g2.1.set (a2 := j + 1) h3 hS3 (by omega)
      exact ⟨⟨j + 1, f, by omega, by omega, hbl, g2.trans g3⟩, by dsimp only; rw [atS_SG g3.1, atS_SG h1.1]; omega⟩
    | false =>
      rw [hw, if_neg (by simp)] at hbl
      refine gIf_f (gCall_b (is_any (pf := fun c => c == 35) (by kernel_rfl) hash_any g2.1) fun w4 h4 => ?_)
      have g4 := g2.ev h4
      rw [decide_eq_true hlt, Bool.true_and]
      refine gIf_eq (fun e35 => ?_) (fun n35 => ?_)
      · rw [if_pos e35] at hbl
        refine gCall_b (remark_any g4.1) fun w5 h5 => ?_
        cases hn : nlI xs j with
        | none =>
          rw [hn] at hbl h5
          refine gIf_t ⟨?_, ?_⟩
          · rw [← hbl]; rfl
          · rw [← hbl]; exact g4.trans h5
        | some i =>
          rw [hn] at hbl h5
          replace h5 : GS w4 w5 ad b xs (i + 1) := h5
          have := nlI_bd hn hj
          exact gIf_f ⟨⟨i + 1, f, by omega, by omega, hbl, g4.trans h5⟩, by dsimp only; rw [atS_SG h5.1, atS_SG h1.1]; omega⟩
      · rw [if_neg n35] at hbl
        refine gNil_some (gLoad_i (g4.1.1.cell (j := 1) rfl) ?_)
        rw [← hbl]
        exact ⟨by simp, g4⟩
  · rw [if_neg hlt] at hbl
    rw [decide_eq_false hlt, Bool.false_and]
    refine gIf_f (gCall_b (is_any (pf := fun c => c == 35) (by kernel_rfl) hash_any g2.1) fun w4 h4 => ?_)
    have g4 := g2.ev h4
    rw [decide_eq_false hlt, Bool.false_and]
    refine gIf_f (gNil_some (gLoad_i (g4.1.1.cell (j := 1) rfl) ?_))
    rw [← hbl]
    exact ⟨by simp, g4⟩
end
end Go.Proofs.YtflchmhhmkkooaaV
