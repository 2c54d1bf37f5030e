/- Package num: Text, Zig, Little, Big; folding. -/
import Derived.Test.YtlkjbilmfgfopaaVNumA
namespace Go.Proofs.YtlkjbilmfgfopaaV
open Go Go.RowKit

def foldI (v : Int) : Int := if v ≥ 0 then 2 * v else -2 * v - 1
def unfoldI (u : Int) : Int := if u % 2 = 0 then u / 2 else -(u / 2) - 1
theorem foldI_rng {v : Int} (h : -9223372036854775808 ≤ v ∧ v ≤ 9223372036854775807) : 0 ≤ foldI v ∧ foldI v < 18446744073709551616 := by unfold foldI; split <;> omega
theorem unfoldI_rng {u : Int} (h : 0 ≤ u ∧ u < 18446744073709551616) : -9223372036854775808 ≤ unfoldI u ∧ unfoldI u ≤ 9223372036854775807 := by unfold unfoldI; split <;> omega
theorem unfold_fold (v : Int) : unfoldI (foldI v) = v := by unfold foldI unfoldI; split <;> split <;> omega
theorem fold_unfold {u : Int} (h : 0 ≤ u) : foldI (unfoldI u) = u := by unfold foldI unfoldI; split <;> split <;> omega
theorem xor_ones {k : IntKind} {a : Nat} (ha : a < 2 ^ k.bits) : iXor k (a : Int) (-1) = k.wrap ((2 ^ k.bits - 1 - a : Nat) : Int) := by
  unfold iXor
  have h1 : BitVec.ofInt k.bits (-1) = BitVec.allOnes k.bits := by cases k <;> decide
  rw [h1, BitVec.xor_allOnes, BitVec.toNat_not, ofInt_nat, BitVec.toNat_ofNat, Nat.mod_eq_of_lt ha]
theorem xor_zero {k : IntKind} (a : Int) (h : k.wrap a = a) (h0 : 0 ≤ a) (ha : a < 2 ^ k.bits) : iXor k a 0 = a := by
  obtain ⟨a, rfl⟩ := Int.eq_ofNat_of_zero_le h0
  unfold iXor
  have h1 : BitVec.ofInt k.bits 0 = 0#k.bits := rfl
  rw [h1, BitVec.xor_zero, ofInt_nat, BitVec.toNat_ofNat, Nat.mod_eq_of_lt (by exact_mod_cast ha), h]
theorem numB_len64 {n : Nat} (h : n < 18446744073709551616) : (numB n).length ≤ 10 := numB_len 9 n (by rw [show (128 : Nat) ^ (9 + 1) = 1180591620717411303424 by decide]; omega)
def clN (n : Int) : Nat := (if 8 < n then 8 else n).toNat
theorem clN_le (n : Int) : clN n ≤ 8 := by unfold clN; split <;> omega
theorem cl1 (n : Int) : (if 0 > (if 8 < n then 8 else n) then 0 else (if 8 < n then 8 else n)) = (clN n : Int) := by unfold clN; split <;> split <;> omega
theorem cl2 (n : Int) : (if (if 8 < n then 8 else n) > 0 then (if 8 < n then 8 else n) else 0) = (clN n : Int) := by unfold clN; split <;> split <;> omega
def byteAt (v : Int) (k : Nat) : Int := v / ((2 ^ (8 * k) : Nat) : Int) % 256
def littleB (v : Int) : Nat → List Int
  | 0 => []
  | k + 1 => littleB v k ++ [byteAt v k]
def bigB (v : Int) : Nat → List Int
  | 0 => []
  | k + 1 => byteAt v k :: bigB v k
theorem littleB_len (v : Int) : ∀ k, (littleB v k).length = k
  | 0 => rfl
  | k + 1 => by simp [littleB, littleB_len v k]
theorem bigB_len (v : Int) : ∀ k, (bigB v k).length = k
  | 0 => rfl
  | k + 1 => by simp [bigB, bigB_len v k]
theorem byteAt_rng (v : Int) (k : Nat) : 0 ≤ byteAt v k ∧ byteAt v k < 256 := by unfold byteAt; omega
theorem shr8 {v : Int} {j : Nat} (hv : 0 ≤ v) (hj : j ≤ 8) : u8 (iShr .u64 v (i64 (8 * (j : Int)))) = byteAt v j := by
  rw [show i64 (8 * (j : Int)) = ((8 * j : Nat) : Int) by rw [i64_id (by omega) (by omega)]; omega, iShr_div (by have : IntKind.u64.bits = 64 := rfl; omega) hv, u8_def]; rfl
/-! ### A nil writer -/
theorem Raw_nil {p : Value} {w : World} : Calls P n_num_Writer_Raw #[.pointer none, p] w (fun e w' => e = .returned (.tuple #[]) ∧ w' = w) := of_num_Writer_Raw (gNe_pnil (gIf_f ⟨rfl, rfl⟩))
theorem raw1_nil {x : Value} {w : World} {K : World → Prop} (hx : x.cells = #[x]) (hk : ∀ w', Ev w w' → K w') : gLit P t_sl_sl_uint8 1 #[(0, x)] w fun (p : Value) w1 => gCall P n_num_Writer_Raw shU #[.pointer none, p] w1 K :=
  gLit_1 [x] rfl rfl (by decide) (by simpa using hx) fun p w1 h1 hp => gCall_u Raw_nil fun w2 e => by rw [e]; exact hk w1 h1
theorem rawb_nil {x : Int} {w : World} {K : World → Prop} (hx : 0 ≤ x ∧ x < 256) (hk : ∀ w', Ev w w' → K w') : gLit P t_sl_uint8 1 #[(0, .int .u8 x)] w fun (y : Value) w1 => gLit P t_sl_sl_uint8 1 #[(0, y)] w1 fun (p : Value) w2 => gCall P n_num_Writer_Raw shU #[.pointer none, p] w2 K :=
  gLit_n (k := .u8) [x] rfl rfl (by decide) (fun y hy => by simp at hy; subst hy; exact u8i hx) fun y w1 h1 hy => raw1_nil hy.one fun w2 h2 => hk w2 (h1.trans h2)
theorem iOr_u8 (a b : Int) : 0 ≤ iOr .u8 a b ∧ iOr .u8 a b < 256 := by unfold iOr; show 0 ≤ u8 _ ∧ u8 _ < 256; rw [u8_def]; omega
theorem Num_nil {n : Int} {w : World} (hn : 0 ≤ n) : Calls P n_num_Writer_Num #[.pointer none, .int .u64 n] w (fun e w' => e = .returned (.tuple #[]) ∧ Ev w w') := by
  refine of_num_Writer_Num ⟨fun m w1 => 0 ≤ m ∧ Ev w w1, fun m _ => m.toNat, ⟨hn, Ch.refl _ w⟩, ?_⟩
  rintro _ m w1 ⟨hm, h1⟩
  refine gIf_dec (fun hge => rawb_nil (iOr_u8 _ _) fun w2 h2 => ?_) (fun hlt => rawb_nil (by rw [u8_def]; omega) fun w2 h2 => ⟨rfl, h1.trans h2⟩)
  have e2 : iShr .u64 m 7 = m / 128 := by
    have := iShr_div (k := .u64) (a := m) (n := 7) (by decide) (by omega)
    rw [show ((7 : Nat) : Int) = 7 from rfl] at this
    rw [this]; rfl
  rw [e2]
  exact ⟨⟨by omega, h1.trans h2⟩, by dsimp only; omega⟩
theorem Bytes_nil {w : World} : Calls P n_num_Writer_Bytes #[.pointer none] w (fun e w' => e = .returned (.slice none 0 0) ∧ w' = w) := of_num_Writer_Bytes (gEq_pnil (gIf_t ⟨rfl, rfl⟩))
end Go.Proofs.YtlkjbilmfgfopaaV
