/- Package bits: nil readers, New; package valiseref01: the reader. -/
import Derived.Test.YtnhlnpjfnoabcaaVBitsC
namespace Go.Proofs.YtnhlnpjfnoabcaaV
open Go Go.RowKit

theorem Bits_Rnil {n : Int} {w : World} : Calls P n_bits_Reader_Bits #[.pointer none, .int .i64 n] w (fun e w' => e = .returned (.int .u32 0) ∧ w' = w) := of_bits_Reader_Bits ⟨fun _ => False, gCall_p0 in_nil (gEq_pnil (gIf_nt ⟨rfl, rfl⟩)), fun _ _ h => h.elim⟩
theorem Unary_Rnil {n : Int} {w : World} : Calls P n_bits_Reader_Unary #[.pointer none, .int .i64 n] w (fun e w' => e = .returned (.int .i64 0) ∧ w' = w) := of_bits_Reader_Unary ⟨fun _ => False, gCall_p0 in_nil (gEq_pnil (gIf_nt ⟨rfl, rfl⟩)), fun _ _ h => h.elim⟩
theorem pLeft_nil {w : World} : Calls P n_bits_place_Left #[.pointer none] w (fun e w' => e = .returned (.int .i64 0) ∧ w' = w) := of_bits_place_Left (gEq_pnil (gIf_t ⟨rfl, rfl⟩))
theorem pErr_nil {w : World} : Calls P n_bits_place_Err #[.pointer none] w (fun e w' => e = .returned (.int .i64 2) ∧ w' = w) := of_bits_place_Err (gEq_pnil (gIf_t ⟨rfl, rfl⟩))
theorem Err_Rnil {w : World} : Calls P n_bits_Reader_Err #[.pointer none] w (fun e w' => e = .returned (.int .i64 2) ∧ w' = w) := of_bits_Reader_Err (gCall_p0 in_nil (gCall_i0 pErr_nil ⟨rfl, rfl⟩))
theorem bNew_any {b : Value} {xs : List Int} {w : World} (hb : Nm .u8 w b xs) (hl : xs.length ≤ 1000000000) : Calls P n_bits_New #[b] w (fun e w' => ∃ rad pad y, e = .returned (.pointer (some rad)) ∧ Ev w w' ∧ w.heap.size ≤ rad.block ∧ w.heap.size ≤ pad.block ∧ (∀ g, y.ownBlock = some g → w.heap.size ≤ g) ∧ RB w' rad pad y xs 0 0) := by
  refine of_bits_New (gApp_on (ON.nil .u8 eB w w.heap.size) hb (by simp; omega) (Nat.le_refl _) fun y w1 hy hc hm => ⟨hy.one, gBox_of fun pad w2 h2 hpad hs hS => gBox_of fun rad w3 h3 hrad hs3 hS3 => ?_⟩)
  have h1 : Ev w w1 := hc.mono fun _ _ _ hh => by cases hh
  refine ⟨rad, pad, y, rfl, h1.trans (h2.trans h3), ?_, by rw [hpad]; exact h1.size, fun g hg => (hy.base hg).1, hS3, ⟨hS.ev h3, by simpa using (hy.ev (h2.trans h3)).nm, fun _ hh => ?_, by omega, hl⟩, ?_⟩
  · rw [hrad]; exact (h1.trans h2).size
  · have := (hy.base hh).2
    rw [hpad] at this; dsimp only at this; omega
  · rw [hrad, hpad]; dsimp only; omega
/-! ### valiseref01 -/
section
variable {ad : Addr} {b : Value} {xs : List Int} {a : Nat} {er : Int} {w : World}
theorem fleft_any (h : PR w ad b xs a er) : Calls P n_valiseref01_Reader_left #[.pointer (some ad)] w (fun e w' => e = .returned (.int .i64 (8 * (xs.length : Int) - a)) ∧ Ev w w') := by
  have h1 := h.2.2.2.1
  have h2 := h.2.2.2.2
  refine of_valiseref01_Reader_left (gNil_some (gLoadB_v (at1 (h.1.cell (j := 0) rfl)) (gLen_nm h.2.1 (gNil_some (gLoadB_i (at1 (h.1.cell (j := 1) rfl)) ⟨?_, Ev.drew0 w⟩)))))
  rw [i64_id (n := 8 * (xs.length : Int)) (by omega) (by omega), i64_id (by omega) (by omega)]
theorem fat_any {k : Nat} (h : PR w ad b xs a er) (hk : k < 8 * xs.length) : Calls P n_valiseref01_Reader_at #[.pointer (some ad), .int .i64 k] w (fun e w' => e = .returned (.int .i64 (bitAt xs k)) ∧ w' = w) := by
  have h2 := h.2.2.2.2
  have et : u64 (i64 (7 - Int.tmod (k : Int) 8)) = ((7 - k % 8 : Nat) : Int) := by rw [Int.tmod_eq_emod_of_nonneg (by omega), i64_id (by omega) (by omega), u64_def]; omega
  have ed : i64 (Int.tdiv (k : Int) 8) = ((k / 8 : Nat) : Int) := by rw [Int.tdiv_eq_ediv_of_nonneg (by omega), i64_id (by omega) (by omega)]; omega
  refine of_valiseref01_Reader_at (gNil_some (gLoad_v (h.1.cell (j := 0) rfl) ?_))
  rw [ed]
  refine gIdx_nm h.2.1 (by omega) (by omega) fun a1 c1 _ => gLoad_i c1 ?_
  rw [et]
  refine gBin_shr (by omega) ⟨?_, rfl⟩
  rw [shr_bit (rd_u8 h.2.1.2 _) (by omega)]; rfl
theorem fBits_any {n : Int} (h : PR w ad b xs a er) : Calls P n_valiseref01_Reader_Bits #[.pointer (some ad), .int .i64 n] w (fun e w' => e = .returned (.int .u32 (bitsR xs a er n).1) ∧ PS w w' ad b xs (bitsR xs a er n).2.1 (bitsR xs a er n).2.2) := by
  have := cl32_le n
  have ha := h.2.2.2.1
  have hl := h.2.2.2.2
  refine of_valiseref01_Reader_Bits ?_
  rw [cl32b]
  unfold bitsR
  refine gNil_some (gLoad_i (h.1.cell (j := 2) rfl) (gIf_neq (fun hne => by rw [if_pos hne]; exact ⟨rfl, h.step⟩) (fun he => ?_)))
  subst he
  rw [if_neg (show ¬ ((0 : Int) ≠ 0) by simp)]
  refine gCall_i (fleft_any h) fun w1 h1 => gIf_dec (fun hlt => ?_) (fun hge => ?_)
  · rw [if_pos hlt]
    refine gNil_some (gStore_st (h.ev h1).1 (j := 2) (by simp) rfl rfl fun w2 h2 _ hS2 => ⟨rfl, PS.pre h1 ((h.ev h1).set (j := 2) (a2 := a) (er2 := 3) (by decide) h2 hS2 rfl ha)⟩)
  · rw [if_neg hge]
    refine ⟨fun v i w' => ∃ j : Nat, i = j ∧ j ≤ cl32 n ∧ v = bitsVal xs a j ∧ PS w w' ad b xs (a + j) 0, fun _ i _ => cl32 n - i.toNat, ⟨0, rfl, by omega, rfl, h.step.ev h1⟩, ?_⟩
    rintro _ v i w4 ⟨j, rfl, hj, rfl, h4⟩
    refine gIf_dec (fun hlt => gNil_some (gLoad_i (h4.1.1.cell (j := 1) rfl) (gCall_i0 (fat_any h4.1 (by omega)) (gNil_some (gLoad_i (h4.1.1.cell (j := 1) rfl) (gNil_some (gStore_st h4.1.1 (j := 1) (by simp) rfl rfl fun w5 h5 _ hS5 => ?_))))))) (fun hend => ?_)
    · rw [shl_bit (bitsVal_bd xs a j) (by omega) (bitAt_01 xs (a + j)), i64_id (n := (j : Int) + 1) (by omega) (by omega)]
      exact ⟨⟨j + 1, by omega, by omega, rfl, h4.trans (h4.1.set (j := 1) (a2 := a + (j + 1)) (er2 := 0) (by decide) h5 hS5 (by rw [i64_id (by omega) (by omega)]; rfl) (by omega))⟩, by dsimp only; omega⟩
    · rw [show cl32 n = j by omega]; exact ⟨rfl, h4⟩
theorem fUnary_any {most : Int} (h : PR w ad b xs a er) : Calls P n_valiseref01_Reader_Unary #[.pointer (some ad), .int .i64 most] w (fun e w' => e = .returned (.int .i64 (unaryR xs a er most).1) ∧ PS w w' ad b xs (unaryR xs a er most).2.1 (unaryR xs a er most).2.2) := by
  have ha := h.2.2.2.1
  have hl := h.2.2.2.2
  refine of_valiseref01_Reader_Unary ?_
  unfold unaryR
  refine gNil_some (gLoad_i (h.1.cell (j := 2) rfl) (gIf_neq (fun hne => by rw [if_pos hne]; exact ⟨rfl, h.step⟩) (fun he => ?_)))
  subst he
  rw [if_neg (show ¬ ((0 : Int) ≠ 0) by simp)]
  refine ⟨fun i w' => ∃ n : Nat, i = n ∧ a + n ≤ 8 * xs.length ∧ uL xs a most (8 * xs.length + 1 - a - n) n = uL xs a most (8 * xs.length + 1 - a) 0 ∧ Ev w w', fun i _ => 8 * xs.length + 1 - i.toNat, ⟨0, rfl, by omega, rfl, Ch.refl _ w⟩, ?_⟩
  rintro _ i w3 ⟨n, rfl, hn, hu, h3⟩
  rw [show 8 * xs.length + 1 - a - n = (8 * xs.length - a - n) + 1 by omega, uL] at hu
  rw [← hu]
  have hR := h.ev h3
  refine gIf_dec (fun hlt => ?_) (fun hge => ?_)
  · rw [if_neg (by omega)]
    refine gNil_some (gLoadB_i (at1 (hR.1.cell (j := 1) rfl)) (gNil_some (gLoadB_v (at1 (hR.1.cell (j := 0) rfl)) (gLen_nm hR.2.1 ?_))))
    rw [show i64 ((a : Int) + n) = ((a + n : Nat) : Int) by rw [i64_id (by omega) (by omega)]; omega, show i64 (8 * (xs.length : Int)) = ((8 * xs.length : Nat) : Int) by rw [i64_id (by omega) (by omega)]; omega]
    refine gIf_dec (fun hend => ?_) (fun hin => ?_)
    · rw [if_pos (by omega)]
      exact gNil_some (gStore_st hR.drew.1 (j := 2) (by simp) rfl rfl fun w5 h5 _ hS5 => ⟨rfl, PS.pre h3.drew (hR.drew.set (j := 2) (a2 := a) (er2 := 3) (by decide) h5 hS5 rfl ha)⟩)
    · rw [if_neg (by omega)]
      refine gNil_some (gLoad_i (hR.drew.1.cell (j := 1) rfl) ?_)
      rw [show i64 ((a : Int) + n) = ((a + n : Nat) : Int) by rw [i64_id (by omega) (by omega)]; omega]
      refine gCall_i0 (fat_any hR.drew (by omega)) (gIf_eq (fun e0 => ?_) (fun e0 => ?_))
      · rw [if_pos e0]
        refine gNil_some (gLoad_i (hR.drew.1.cell (j := 1) rfl) (gNil_some (gStore_st hR.drew.1 (j := 1) (by simp) rfl rfl fun w5 h5 _ hS5 => ⟨rfl, PS.pre h3.drew (hR.drew.set (j := 1) (a2 := a + n + 1) (er2 := 0) (by decide) h5 hS5 ?_ (by omega))⟩)))
        rw [i64_id (n := (a : Int) + n) (by omega) (by omega), i64_id (by omega) (by omega)]; rfl
      · rw [if_neg e0, i64_id (n := (n : Int) + 1) (by omega) (by omega)]
        exact ⟨⟨n + 1, by omega, by omega, by congr 1; omega, h3.drew⟩, by dsimp only; omega⟩
  · rw [if_pos (by omega)]
    refine gNil_some (gLoad_i (hR.1.cell (j := 1) rfl) (gNil_some (gStore_st hR.1 (j := 1) (by simp) rfl rfl fun w5 h5 _ hS5 => ⟨rfl, PS.pre h3 (hR.set (j := 1) (a2 := a + n) (er2 := 0) (by decide) h5 hS5 ?_ (by omega))⟩)))
    rw [i64_id (n := (a : Int) + n) (by omega) (by omega)]; rfl
end
end Go.Proofs.YtnhlnpjfnoabcaaV
