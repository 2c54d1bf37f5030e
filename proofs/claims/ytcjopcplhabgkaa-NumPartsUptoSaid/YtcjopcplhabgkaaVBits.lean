/- Bit operations, as sums. -/
import Derived.Test.YtcjopcplhabgkaaVMem
namespace Go.Proofs.YtcjopcplhabgkaaV
open Go Go.RowKit

theorem bits8 : (2 : Nat) ^ IntKind.u8.bits = 256 := rfl
theorem bits64 : (2 : Nat) ^ IntKind.u64.bits = 18446744073709551616 := rfl
theorem bits32 : (2 : Nat) ^ IntKind.u32.bits = 4294967296 := rfl
theorem wrap_u {k : IntKind} (hk : k.signed = false) (n : Nat) : k.wrap (n : Int) = ((n % 2 ^ k.bits : Nat) : Int) := by
  simp only [IntKind.wrap, hk]; simp
theorem ofInt_nat (b n : Nat) : BitVec.ofInt b (n : Int) = BitVec.ofNat b n := BitVec.ofInt_natCast b n
theorem iAnd_nat {k : IntKind} (hk : k.signed = false) {a b : Nat} (ha : a < 2 ^ k.bits) (hb : b < 2 ^ k.bits) : iAnd k a b = ((a &&& b : Nat) : Int) := by
  unfold iAnd; rw [ofInt_nat, ofInt_nat, BitVec.toNat_and, BitVec.toNat_ofNat, BitVec.toNat_ofNat, Nat.mod_eq_of_lt ha, Nat.mod_eq_of_lt hb, wrap_u hk, Nat.mod_eq_of_lt (Nat.lt_of_le_of_lt Nat.and_le_left ha)]
theorem iOr_nat {k : IntKind} (hk : k.signed = false) {a b : Nat} (ha : a < 2 ^ k.bits) (hb : b < 2 ^ k.bits) : iOr k a b = ((a ||| b : Nat) : Int) := by
  unfold iOr; rw [ofInt_nat, ofInt_nat, BitVec.toNat_or, BitVec.toNat_ofNat, BitVec.toNat_ofNat, Nat.mod_eq_of_lt ha, Nat.mod_eq_of_lt hb, wrap_u hk, Nat.mod_eq_of_lt (Nat.or_lt_two_pow ha hb)]
theorem iXor_nat {k : IntKind} (hk : k.signed = false) {a b : Nat} (ha : a < 2 ^ k.bits) (hb : b < 2 ^ k.bits) : iXor k a b = ((a ^^^ b : Nat) : Int) := by
  unfold iXor; rw [ofInt_nat, ofInt_nat, BitVec.toNat_xor, BitVec.toNat_ofNat, BitVec.toNat_ofNat, Nat.mod_eq_of_lt ha, Nat.mod_eq_of_lt hb, wrap_u hk, Nat.mod_eq_of_lt (Nat.xor_lt_two_pow ha hb)]
/-- A mask of the lowest bits. -/
theorem iAnd_mask {k : IntKind} (hk : k.signed = false) {a : Int} {m n : Nat} (h0 : 0 ≤ a) (ha : a < 2 ^ k.bits) (hm : 2 ^ m - 1 = n) (hn : n < 2 ^ k.bits) : iAnd k a n = a % ((2 ^ m : Nat) : Int) := by
  obtain ⟨a, rfl⟩ := Int.eq_ofNat_of_zero_le h0
  have ha' : a < 2 ^ k.bits := by exact_mod_cast ha
  rw [iAnd_nat hk ha' hn, ← hm, Nat.and_two_pow_sub_one_eq_mod]; rfl
theorem Nat.lor_add {a b m : Nat} (ha : a < 2 ^ m) : a ||| b * 2 ^ m = a + b * 2 ^ m := by
  rw [Nat.or_comm, Nat.mul_comm, ← Nat.two_pow_add_eq_or_of_lt ha, Nat.add_comm]
/-- Bits that do not meet. -/
theorem iOr_add {k : IntKind} (hk : k.signed = false) {a b : Int} {m : Nat} (ha0 : 0 ≤ a) (ha : a < ((2 ^ m : Nat) : Int)) (hb0 : 0 ≤ b) (hs : a + b * ((2 ^ m : Nat) : Int) < ((2 ^ k.bits : Nat) : Int)) : iOr k a (b * ((2 ^ m : Nat) : Int)) = a + b * ((2 ^ m : Nat) : Int) := by
  obtain ⟨a, rfl⟩ := Int.eq_ofNat_of_zero_le ha0
  obtain ⟨b, rfl⟩ := Int.eq_ofNat_of_zero_le hb0
  have e : ((b : Int) * ((2 ^ m : Nat) : Int)) = ((b * 2 ^ m : Nat) : Int) := (Int.natCast_mul _ _).symm
  rw [e] at hs ⊢
  have hs' : a + b * 2 ^ m < 2 ^ k.bits := by exact_mod_cast hs
  rw [iOr_nat hk (by omega) (by omega), Nat.lor_add (by exact_mod_cast ha)]; rfl
theorem iOr_add' {k : IntKind} (hk : k.signed = false) {a b : Int} {m : Nat} (ha0 : 0 ≤ a) (ha : a < ((2 ^ m : Nat) : Int)) (hb0 : 0 ≤ b) (hs : a + b * ((2 ^ m : Nat) : Int) < ((2 ^ k.bits : Nat) : Int)) : iOr k (b * ((2 ^ m : Nat) : Int)) a = a + b * ((2 ^ m : Nat) : Int) := by
  rw [← iOr_add hk ha0 ha hb0 hs]; unfold iOr; rw [BitVec.or_comm]
theorem iShl_u {k : IntKind} (hk : k.signed = false) {a : Int} {n : Nat} (hn : n ≤ k.bits) (h0 : 0 ≤ a) : iShl k a n = (a * ((2 ^ n : Nat) : Int)) % ((2 ^ k.bits : Nat) : Int) := by
  obtain ⟨a, rfl⟩ := Int.eq_ofNat_of_zero_le h0
  unfold iShl
  rw [Int.toNat_natCast, Nat.min_eq_left hn]
  have e : ((a : Int) * 2 ^ n) = ((a * 2 ^ n : Nat) : Int) := by rw [Int.natCast_mul]; congr 1
  rw [e, wrap_u hk, Int.natCast_emod, Int.natCast_mul]
theorem iShr_div {k : IntKind} {a : Int} {n : Nat} (hn : n ≤ k.bits) (h0 : 0 ≤ a) : iShr k a n = a / ((2 ^ n : Nat) : Int) := by
  unfold iShr
  rw [Int.toNat_natCast, Nat.min_eq_left hn, Int.fdiv_eq_ediv_of_nonneg _ (Int.le_of_lt (Int.pow_pos (by decide)))]
  congr 1
end Go.Proofs.YtcjopcplhabgkaaV
