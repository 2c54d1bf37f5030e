/- Package num: Text, Zig, Little, Big; folding. -/
import Derived.Test.YtnhlnpjfnoabcaaVNumA
namespace Go.Proofs.YtnhlnpjfnoabcaaV
open Go Go.RowKit

def foldI (v : Int) : Int := if v ≥ 0 then 2 * v else -2 * v - 1
def unfoldI (u : Int) : Int := if u % 2 = 0 then u / 2 else -(u / 2) - 1
theorem foldI_rng {v : Int} (h : -9223372036854775808 ≤ v ∧ v ≤ 9223372036854775807) : 0 ≤ foldI v ∧ foldI v < 18446744073709551616 := by unfold foldI; split <;> omega
theorem unfoldI_rng {u : Int} (h : 0 ≤ u ∧ u < 18446744073709551616) : -9223372036854775808 ≤ unfoldI u ∧ unfoldI u ≤ 9223372036854775807 := by unfold unfoldI; split <;> omega
theorem unfold_fold (v : Int) : unfoldI (foldI v) = v := by unfold foldI unfoldI; split <;> split <;> omega
theorem fold_unfold {u : Int} (h : 0 ≤ u) : foldI (unfoldI u) = u := by unfold foldI unfoldI; split <;> split <;> omega
theorem xor_ones {k : IntKind} {a : Nat} (ha : a < 2 ^ k.bits) : iXor k (a : Int) (-1) = k.wrap ((2 ^ k.bits - 1 - a : Nat) : Int) := by
  unfold iXor
  have h1 : BitVec.ofInt k.bits (-1) = BitVec.allOnes k.bits := by cases k <;> decide
  rw [h1, BitVec.xor_allOnes, BitVec.toNat_not, ofInt_nat, BitVec.toNat_ofNat, Nat.mod_eq_of_lt ha]
theorem xor_zero {k : IntKind} (a : Int) (h : k.wrap a = a) (h0 : 0 ≤ a) (ha : a < 2 ^ k.bits) : iXor k a 0 = a := by
  obtain ⟨a, rfl⟩ := Int.eq_ofNat_of_zero_le h0
  unfold iXor
  have h1 : BitVec.ofInt k.bits 0 = 0#k.bits := rfl
  rw [h1, BitVec.xor_zero, ofInt_nat, BitVec.toNat_ofNat, Nat.mod_eq_of_lt (by exact_mod_cast ha), h]
theorem Fold_any {v : Int} {w : World} (h : -9223372036854775808 ≤ v ∧ v ≤ 9223372036854775807) : Calls P n_num_Fold #[.int .i64 v] w (fun e w' => e = .returned (.int .u64 (foldI v)) ∧ w' = w) := by
  refine of_num_Fold ⟨?_, rfl⟩
  have e2 : iShr .i64 v 63 = if v ≥ 0 then 0 else -1 := by
    unfold iShr
    rw [show min (Int.toNat 63) IntKind.i64.bits = 63 from rfl, show (2 : Int) ^ 63 = 9223372036854775808 by decide, Int.fdiv_eq_ediv_of_nonneg _ (by decide)]
    split <;> omega
  have e1 : iShl .u64 (u64 v) 1 = (u64 v * 2) % 18446744073709551616 := by
    have := iShl_u (k := .u64) (a := u64 v) (n := 1) rfl (by decide) (by rw [u64_def]; omega)
    rw [show ((1 : Nat) : Int) = 1 from rfl] at this
    rw [this, bits64]; rfl
  rw [e1, e2, u64_def]
  unfold foldI
  split
  · rename_i h0
    rw [show u64 0 = 0 by decide, xor_zero _ ?_ (by omega) (by rw [show (2 : Int) ^ IntKind.u64.bits = 18446744073709551616 by decide]; omega)]
    · congr 2; omega
    · show u64 _ = _; rw [u64_def]; omega
  · rename_i h0
    have e3 : u64 (-1) = 18446744073709551615 := by decide
    have e4 : v % 18446744073709551616 * 2 % 18446744073709551616 = ((2 * v + 18446744073709551616).toNat : Int) := by omega
    have e5 : BitVec.ofInt IntKind.u64.bits 18446744073709551615 = BitVec.ofInt IntKind.u64.bits (-1) := by decide
    have e6 : ∀ a : Int, iXor .u64 a 18446744073709551615 = iXor .u64 a (-1) := fun a => by unfold iXor; rw [e5]
    rw [e3, e4, e6, xor_ones (by rw [bits64]; omega), bits64]
    congr 2
    show u64 _ = _; rw [u64_def]; omega
theorem Unfold_any {u : Int} {w : World} (h : 0 ≤ u ∧ u < 18446744073709551616) : Calls P n_num_Unfold #[.int .u64 u] w (fun e w' => e = .returned (.int .i64 (unfoldI u)) ∧ w' = w) := by
  refine of_num_Unfold ⟨?_, rfl⟩
  have e1 : iShr .u64 u 1 = u / 2 := by
    have := iShr_div (k := .u64) (a := u) (n := 1) (by decide) (by omega)
    rw [show ((1 : Nat) : Int) = 1 from rfl] at this
    rw [this]; rfl
  have e2 : iAnd .u64 u 1 = u % 2 := by
    have := iAnd_mask (k := .u64) (a := u) (m := 1) (n := 1) rfl (by omega) (by rw [show (2 : Int) ^ IntKind.u64.bits = 18446744073709551616 by decide]; omega) rfl (by decide)
    rw [show ((1 : Nat) : Int) = 1 from rfl] at this
    rw [this]; rfl
  rw [e1, e2, i64_id (n := u / 2) (by omega) (by omega), i64_id (n := u % 2) (by omega) (by omega)]
  unfold unfoldI
  split
  · rename_i h0
    rw [h0, show i64 (0 - 0) = 0 by decide, xor_zero _ (i64_id (by omega) (by omega)) (by omega) (by rw [show (2 : Int) ^ IntKind.i64.bits = 18446744073709551616 by decide]; omega)]
  · rename_i h0
    rw [show u % 2 = 1 by omega, show i64 (0 - 1) = -1 by decide]
    have e4 : u / 2 = ((u / 2).toNat : Int) := by omega
    rw [e4, xor_ones (by rw [show (2 : Nat) ^ IntKind.i64.bits = 18446744073709551616 by decide]; omega), show (2 : Nat) ^ IntKind.i64.bits = 18446744073709551616 by decide]
    congr 2
    show i64 _ = _; rw [i64_def]; omega
theorem numB_len64 {n : Nat} (h : n < 18446744073709551616) : (numB n).length ≤ 10 := numB_len 9 n (by rw [show (128 : Nat) ^ (9 + 1) = 1180591620717411303424 by decide]; omega)
def clN (n : Int) : Nat := (if 8 < n then 8 else n).toNat
theorem clN_le (n : Int) : clN n ≤ 8 := by unfold clN; split <;> omega
theorem cl1 (n : Int) : (if 0 > (if 8 < n then 8 else n) then 0 else (if 8 < n then 8 else n)) = (clN n : Int) := by unfold clN; split <;> split <;> omega
theorem cl2 (n : Int) : (if (if 8 < n then 8 else n) > 0 then (if 8 < n then 8 else n) else 0) = (clN n : Int) := by unfold clN; split <;> split <;> omega
def byteAt (v : Int) (k : Nat) : Int := v / ((2 ^ (8 * k) : Nat) : Int) % 256
def littleB (v : Int) : Nat → List Int
  | 0 => []
  | k + 1 => littleB v k ++ [byteAt v k]
def bigB (v : Int) : Nat → List Int
  | 0 => []
  | k + 1 => byteAt v k :: bigB v k
theorem littleB_len (v : Int) : ∀ k, (littleB v k).length = k
  | 0 => rfl
  | k + 1 => by simp [littleB, littleB_len v k]
theorem bigB_len (v : Int) : ∀ k, (bigB v k).length = k
  | 0 => rfl
  | k + 1 => by simp [bigB, bigB_len v k]
theorem byteAt_rng (v : Int) (k : Nat) : 0 ≤ byteAt v k ∧ byteAt v k < 256 := by unfold byteAt; omega
theorem shr8 {v : Int} {j : Nat} (hv : 0 ≤ v) (hj : j ≤ 8) : u8 (iShr .u64 v (i64 (8 * (j : Int)))) = byteAt v j := by
  rw [show i64 (8 * (j : Int)) = ((8 * j : Nat) : Int) by rw [i64_id (by omega) (by omega)]; omega, iShr_div (by have : IntKind.u64.bits = 64 := rfl; omega) hv, u8_def]; rfl
/-! ### A nil writer -/
theorem iOr_u8 (a b : Int) : 0 ≤ iOr .u8 a b ∧ iOr .u8 a b < 256 := by unfold iOr; show 0 ≤ u8 _ ∧ u8 _ < 256; rw [u8_def]; omega
end Go.Proofs.YtnhlnpjfnoabcaaV
