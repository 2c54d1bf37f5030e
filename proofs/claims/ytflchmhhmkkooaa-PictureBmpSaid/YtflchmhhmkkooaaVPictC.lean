/- Package picture: number; the same of valiseref16; white of valiseref16. -/
import Derived.Test.YtflchmhhmkkooaaVPictB
namespace Go.Proofs.YtflchmhhmkkooaaV
open Go Go.RowKit
def digB (c : Int) : Bool := decide (c ≥ 48) && decide (c ≤ 57)
/-- How many digits stand from a on, at most so many; and the number. -/
def runL (xs : List Int) : Nat → Nat → Int → Nat × Int
  | 0, _, v => (0, v)
  | f + 1, a, v => if a < xs.length ∧ digB (rd xs a) = true then ((runL xs f (a + 1) (10 * v + (rd xs a - 48))).1 + 1, (runL xs f (a + 1) (10 * v + (rd xs a - 48))).2) else (0, v)
theorem runL_bd {xs : List Int} : ∀ {f a : Nat} {v : Int}, a ≤ xs.length → (runL xs f a v).1 ≤ f ∧ a + (runL xs f a v).1 ≤ xs.length
  | 0, a, v, h => by simp [runL]; exact h
  | f + 1, a, v, h => by
    rw [runL]; split
    · have := runL_bd (xs := xs) (f := f) (a := a + 1) (v := 10 * v + (rd xs a - 48)) (by omega)
      dsimp only; omega
    · exact ⟨Nat.zero_le _, h⟩
theorem digB_iff {c : Int} : digB c = true ↔ 48 ≤ c ∧ c ≤ 57 := by simp [digB]
theorem runL_rng {xs : List Int} : ∀ {f a : Nat} {v m : Int}, 0 ≤ v → v < m → 0 ≤ (runL xs f a v).2 ∧ (runL xs f a v).2 < m * ((10 ^ f : Nat) : Int)
  | 0, a, v, m, h0, h1 => by simp [runL]; omega
  | f + 1, a, v, m, h0, h1 => by
    have e : m * ((10 ^ (f + 1) : Nat) : Int) = (m * 10) * ((10 ^ f : Nat) : Int) := by rw [Nat.pow_succ, Int.natCast_mul, Int.mul_assoc, Int.mul_comm ((10 ^ f : Nat) : Int)]; rfl
    rw [runL]; split
    · rename_i h
      have hd := digB_iff.1 h.2
      have := runL_rng (xs := xs) (f := f) (a := a + 1) (v := 10 * v + (rd xs a - 48)) (m := m * 10) (by omega) (by omega)
      rw [e]; exact this
    · refine ⟨h0, ?_⟩
      have h10 : (1 : Int) ≤ ((10 ^ (f + 1) : Nat) : Int) := by have := Nat.pow_pos (n := f + 1) (show 0 < 10 by decide); omega
      have : m * 1 ≤ m * ((10 ^ (f + 1) : Nat) : Int) := Int.mul_le_mul_of_nonneg_left h10 (by omega)
      dsimp only; omega
def numPI (xs : List Int) (a : Nat) (most : Int) : Int × Nat :=
  if (runL xs 6 a 0).1 ≥ 6 then (0, a + 5) else if (runL xs 6 a 0).2 > most then (0, a + (runL xs 6 a 0).1) else ((runL xs 6 a 0).2, a + (runL xs 6 a 0).1)
section
variable {ad : Addr} {b : Value} {xs : List Int} {a : Nat} {w : World}
theorem dig_any {c : Int} {w : World} : Calls P n_picture_signs_number_1 #[.int .u8 c] w (fun e w' => e = .returned (.bool (digB c)) ∧ w' = w) := by
  refine of_picture_signs_number_1 (gIf_dec (fun h => ⟨?_, rfl⟩) (fun h => ⟨?_, rfl⟩)) <;> simp [digB, h]
theorem number_any {most : Int} (h : SG w ad b xs a) : Calls P n_picture_signs_number #[.pointer (some ad), .int .i64 most] w (fun e w' => e = .returned (.int .i64 (numPI xs a most).1) ∧ GS w w' ad b xs (numPI xs a most).2) := by
  have hl := h.2.2.2.2
  have ha := h.2.2.2.1
  refine of_picture_signs_number (gNil_some (gLoadB_i (at1 (h.1.cell (j := 1) rfl)) ⟨fun n w' => ∃ k : Nat, k ≤ 5 ∧ 0 ≤ n ∧ n < 100000 ∧ a + k ≤ xs.length ∧ runL xs 6 a 0 = (k + (runL xs (6 - k) (a + k) n).1, (runL xs (6 - k) (a + k) n).2) ∧ n < ((10 ^ k : Nat) : Int) ∧ GS w w' ad b xs (a + k), fun _ w' => xs.length - atS w' ad, ⟨0, by omega, by omega, by omega, by omega, by simp, by decide, (h.step).ev (Ev.drew0 w)⟩, ?_⟩))
  rintro _ n w1 ⟨k, hk, hn0, hn1, hak, hr, hnk, h1⟩
  refine gCall_b (is_any (pf := digB) (by kernel_rfl) dig_any h1.1) fun w2 h2 => ?_
  have g2 := h1.ev h2
  generalize hR0 : runL xs 6 a 0 = r0 at hr
  rw [show 6 - k = (5 - k) + 1 by omega, runL] at hr
  by_cases hc : a + k < xs.length ∧ digB (rd xs ((a + k : Nat) : Int)) = true
  · rw [if_pos hc] at hr
    dsimp only at hr
    rw [decide_eq_true hc.1, hc.2]
    have hd := digB_iff.1 hc.2
    refine gIf_t (gNil_some (gLoad_i (g2.1.1.cell (j := 1) rfl) ?_))
    rw [i64_id (n := ((a + k : Nat) : Int) - a) (by omega) (by omega)]
    refine gIf_dec (fun h5 => ?_) (fun h5 => ?_)
    · have : k = 5 := by omega
      subst this
      unfold numPI
      rw [hR0, hr, if_pos (by dsimp only; omega)]
      exact ⟨rfl, g2⟩
    · refine gNil_some (gLoadB_v (at1 (g2.1.1.cell (j := 0) rfl)) (gNil_some (gLoadB_i (at1 (g2.1.1.cell (j := 1) rfl)) (gIdx_nm g2.1.2.1 (by omega) (by omega) fun a1 c1 _ => gLoadB_i (at1 c1) (gNil_some (gLoad_i ((g2.1.ev (Ev.drew0 _)).1.cell (j := 1) rfl) (gNil_some (gStore_st (g2.1.ev (Ev.drew0 _)).1 (j := 1) (by simp) rfl rfl fun w3 h3 _ hS3 => ?_))))))))
      have hp : ((10 ^ (k + 1) : Nat) : Int) = ((10 ^ k : Nat) : Int) * 10 := by rw [Nat.pow_succ, Int.natCast_mul]; rfl
      have hq : ((10 ^ k : Nat) : Int) ≤ ((10000 : Nat) : Int) := Int.ofNat_le.2 (Nat.le_trans (Nat.pow_le_pow_right (by decide) (show k ≤ 4 by omega)) (by decide))
      rw [u8_id (n := rd xs ((a + k : Nat) : Int) - 48) (by omega) (by omega), i64_id (n := rd xs ((a + k : Nat) : Int) - 48) (by omega) (by omega), i64_id (n := 10 * n) (by omega) (by omega), i64_id (n := 10 * n + _) (by omega) (by omega)]
      rw [show i64 (((a + k : Nat) : Int) + 1) = ((a + (k + 1) : Nat) : Int) by rw [i64_id (by omega) (by omega)]; omega] at hS3
      have g3 := (g2.1.ev (Ev.drew0 w2)).set (a2 := a + (k + 1)) h3 hS3 (by omega)
      refine ⟨⟨k + 1, by omega, by omega, by omega, by omega, ?_, by rw [hp]; omega, (g2.ev (Ev.drew0 w2)).trans g3⟩, by dsimp only; rw [atS_SG g3.1, atS_SG h1.1]; omega⟩
      rw [hr, show 6 - (k + 1) = 5 - k by omega, show a + (k + 1) = a + k + 1 by omega]
      congr 1; omega
  · rw [if_neg hc] at hr
    have hf : (decide (a + k < xs.length) && digB (rd xs ((a + k : Nat) : Int))) = false := by
      rw [Bool.eq_false_iff]; intro hh; rw [Bool.and_eq_true, decide_eq_true_eq] at hh; exact hc hh
    rw [hf]
    unfold numPI
    rw [hR0, hr]
    dsimp only
    rw [if_neg (by omega)]
    refine gIf_f (gIf_dec (fun hg => ?_) (fun hg => ?_))
    · rw [if_pos hg]; exact ⟨rfl, by simpa using g2⟩
    · rw [if_neg hg]; exact ⟨rfl, by simpa using g2⟩
end
end Go.Proofs.YtflchmhhmkkooaaV
