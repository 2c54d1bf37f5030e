/- Package num: Text, Zig, Little, Big; folding. -/
import Derived.Test.YtcjopcplhabgkaaVNumA
namespace Go.Proofs.YtcjopcplhabgkaaV
open Go Go.RowKit

def foldI (v : Int) : Int := if v ≥ 0 then 2 * v else -2 * v - 1
def unfoldI (u : Int) : Int := if u % 2 = 0 then u / 2 else -(u / 2) - 1
theorem foldI_rng {v : Int} (h : -9223372036854775808 ≤ v ∧ v ≤ 9223372036854775807) : 0 ≤ foldI v ∧ foldI v < 18446744073709551616 := by unfold foldI; split <;> omega
theorem unfoldI_rng {u : Int} (h : 0 ≤ u ∧ u < 18446744073709551616) : -9223372036854775808 ≤ unfoldI u ∧ unfoldI u ≤ 9223372036854775807 := by unfold unfoldI; split <;> omega
theorem unfold_fold (v : Int) : unfoldI (foldI v) = v := by unfold foldI unfoldI; split <;> split <;> omega
theorem fold_unfold {u : Int} (h : 0 ≤ u) : foldI (unfoldI u) = u := by unfold foldI unfoldI; split <;> split <;> omega
theorem xor_ones {k : IntKind} {a : Nat} (ha : a < 2 ^ k.bits) : iXor k (a : Int) (-1) = k.wrap ((2 ^ k.bits - 1 - a : Nat) : Int) := by
  unfold iXor
  have h1 : BitVec.ofInt k.bits (-1) = BitVec.allOnes k.bits := by cases k <;> decide
  rw [h1, BitVec.xor_allOnes, BitVec.toNat_not, ofInt_nat, BitVec.toNat_ofNat, Nat.mod_eq_of_lt ha]
theorem xor_zero {k : IntKind} (a : Int) (h : k.wrap a = a) (h0 : 0 ≤ a) (ha : a < 2 ^ k.bits) : iXor k a 0 = a := by
  obtain ⟨a, rfl⟩ := Int.eq_ofNat_of_zero_le h0
  unfold iXor
  have h1 : BitVec.ofInt k.bits 0 = 0#k.bits := rfl
  rw [h1, BitVec.xor_zero, ofInt_nat, BitVec.toNat_ofNat, Nat.mod_eq_of_lt (by exact_mod_cast ha), h]
theorem Fold_any {v : Int} {w : World} (h : -9223372036854775808 ≤ v ∧ v ≤ 9223372036854775807) : Calls P n_num_Fold #[.int .i64 v] w (fun e w' => e = .returned (.int .u64 (foldI v)) ∧ w' = w) := by
  refine of_num_Fold ⟨?_, rfl⟩
  have e2 : iShr .i64 v 63 = if v ≥ 0 then 0 else -1 := by
    unfold iShr
    rw [show min (Int.toNat 63) IntKind.i64.bits = 63 from rfl, show (2 : Int) ^ 63 = 9223372036854775808 by decide, Int.fdiv_eq_ediv_of_nonneg _ (by decide)]
    split <;> omega
  have e1 : iShl .u64 (u64 v) 1 = (u64 v * 2) % 18446744073709551616 := by
    have := iShl_u (k := .u64) (a := u64 v) (n := 1) rfl (by decide) (by rw [u64_def]; omega)
    rw [show ((1 : Nat) : Int) = 1 from rfl] at this
    rw [this, bits64]; rfl
  rw [e1, e2, u64_def]
  unfold foldI
  split
  · rename_i h0
    rw [show u64 0 = 0 by decide, xor_zero _ ?_ (by omega) (by rw [show (2 : Int) ^ IntKind.u64.bits = 18446744073709551616 by decide]; omega)]
    · congr 2; omega
    · show u64 _ = _; rw [u64_def]; omega
  · rename_i h0
    have e3 : u64 (-1) = 18446744073709551615 := by decide
    have e4 : v % 18446744073709551616 * 2 % 18446744073709551616 = ((2 * v + 18446744073709551616).toNat : Int) := by omega
    have e5 : BitVec.ofInt IntKind.u64.bits 18446744073709551615 = BitVec.ofInt IntKind.u64.bits (-1) := by decide
    have e6 : ∀ a : Int, iXor .u64 a 18446744073709551615 = iXor .u64 a (-1) := fun a => by unfold iXor; rw [e5]
    rw [e3, e4, e6, xor_ones (by rw [bits64]; omega), bits64]
    congr 2
    show u64 _ = _; rw [u64_def]; omega
theorem Unfold_any {u : Int} {w : World} (h : 0 ≤ u ∧ u < 18446744073709551616) : Calls P n_num_Unfold #[.int .u64 u] w (fun e w' => e = .returned (.int .i64 (unfoldI u)) ∧ w' = w) := by
  refine of_num_Unfold ⟨?_, rfl⟩
  have e1 : iShr .u64 u 1 = u / 2 := by
    have := iShr_div (k := .u64) (a := u) (n := 1) (by decide) (by omega)
    rw [show ((1 : Nat) : Int) = 1 from rfl] at this
    rw [this]; rfl
  have e2 : iAnd .u64 u 1 = u % 2 := by
    have := iAnd_mask (k := .u64) (a := u) (m := 1) (n := 1) rfl (by omega) (by rw [show (2 : Int) ^ IntKind.u64.bits = 18446744073709551616 by decide]; omega) rfl (by decide)
    rw [show ((1 : Nat) : Int) = 1 from rfl] at this
    rw [this]; rfl
  rw [e1, e2, i64_id (n := u / 2) (by omega) (by omega), i64_id (n := u % 2) (by omega) (by omega)]
  unfold unfoldI
  split
  · rename_i h0
    rw [h0, show i64 (0 - 0) = 0 by decide, xor_zero _ (i64_id (by omega) (by omega)) (by omega) (by rw [show (2 : Int) ^ IntKind.i64.bits = 18446744073709551616 by decide]; omega)]
  · rename_i h0
    rw [show u % 2 = 1 by omega, show i64 (0 - 1) = -1 by decide]
    have e4 : u / 2 = ((u / 2).toNat : Int) := by omega
    rw [e4, xor_ones (by rw [show (2 : Nat) ^ IntKind.i64.bits = 18446744073709551616 by decide]; omega), show (2 : Nat) ^ IntKind.i64.bits = 18446744073709551616 by decide]
    congr 2
    show i64 _ = _; rw [i64_def]; omega
theorem Zig_any {ad : Addr} {v : Value} {xs : List Int} {z : Int} {w : World} (h : W1 w ad v xs) (hz : -9223372036854775808 ≤ z ∧ z ≤ 9223372036854775807) (hl : xs.length + 10 ≤ 10000000000) :
    Calls P n_num_Writer_Zig #[.pointer (some ad), .int .i64 z] w (fun e w' => e = .returned (.tuple #[]) ∧ ∃ v', WS w w' ad v v' (xs ++ numB (foldI z).toNat)) :=
  of_num_Writer_Zig (gCall_i0 (Fold_any hz) (gCall_u (Num_any h (foldI_rng hz) hl) fun _ hw => ⟨rfl, hw⟩))
theorem numB_len64 {n : Nat} (h : n < 18446744073709551616) : (numB n).length ≤ 10 := numB_len 9 n (by rw [show (128 : Nat) ^ (9 + 1) = 1180591620717411303424 by decide]; omega)
theorem Text_any {ad : Addr} {v b : Value} {xs ys : List Int} {w : World} (h : W1 w ad v xs) (hb : Stab (Ft ad v) w fun w' => Nm .u8 w' b ys) (hl : xs.length + ys.length + 10 ≤ 10000000000) :
    Calls P n_num_Writer_Text #[.pointer (some ad), b] w (fun e w' => e = .returned (.tuple #[]) ∧ ∃ v', WS w w' ad v v' (xs ++ numB ys.length ++ ys)) := by
  refine of_num_Writer_Text (gLen_nm hb.now ?_)
  rw [show u64 (ys.length : Int) = ys.length by rw [u64_def]; omega]
  refine gCall_u (Num_any h (by omega) (by omega)) fun w1 ⟨v1, hW⟩ => ?_
  have := numB_len64 (n := ys.length) (by omega)
  rw [Int.toNat_natCast] at hW
  refine raw1_any hW.1 (fun w2 h2 => hb w2 (Ch.trans hW.2.1 h2 fun n i hn hf => ?_)) (by rw [List.length_append]; omega) fun v2 w2 hW2 => ⟨rfl, v2, hW.trans hW2⟩
  rcases hf with hf | hf
  · exact .inl hf
  · rcases hW.2.2 with hm | hm
    · exact .inr (hm ▸ hf)
    · have := hm n hf; omega
def clN (n : Int) : Nat := (if 8 < n then 8 else n).toNat
theorem clN_le (n : Int) : clN n ≤ 8 := by unfold clN; split <;> omega
theorem cl1 (n : Int) : (if 0 > (if 8 < n then 8 else n) then 0 else (if 8 < n then 8 else n)) = (clN n : Int) := by unfold clN; split <;> split <;> omega
theorem cl2 (n : Int) : (if (if 8 < n then 8 else n) > 0 then (if 8 < n then 8 else n) else 0) = (clN n : Int) := by unfold clN; split <;> split <;> omega
def byteAt (v : Int) (k : Nat) : Int := v / ((2 ^ (8 * k) : Nat) : Int) % 256
def littleB (v : Int) : Nat → List Int
  | 0 => []
  | k + 1 => littleB v k ++ [byteAt v k]
def bigB (v : Int) : Nat → List Int
  | 0 => []
  | k + 1 => byteAt v k :: bigB v k
theorem littleB_len (v : Int) : ∀ k, (littleB v k).length = k
  | 0 => rfl
  | k + 1 => by simp [littleB, littleB_len v k]
theorem bigB_len (v : Int) : ∀ k, (bigB v k).length = k
  | 0 => rfl
  | k + 1 => by simp [bigB, bigB_len v k]
theorem byteAt_rng (v : Int) (k : Nat) : 0 ≤ byteAt v k ∧ byteAt v k < 256 := by unfold byteAt; omega
theorem shr8 {v : Int} {j : Nat} (hv : 0 ≤ v) (hj : j ≤ 8) : u8 (iShr .u64 v (i64 (8 * (j : Int)))) = byteAt v j := by
  rw [show i64 (8 * (j : Int)) = ((8 * j : Nat) : Int) by rw [i64_id (by omega) (by omega)]; omega, iShr_div (by have : IntKind.u64.bits = 64 := rfl; omega) hv, u8_def]; rfl
theorem Little_any {ad : Addr} {v : Value} {xs : List Int} {z n : Int} {w : World} (h : W1 w ad v xs) (hz : 0 ≤ z ∧ z < 18446744073709551616) (hl : xs.length + 10 ≤ 10000000000) :
    Calls P n_num_Writer_Little #[.pointer (some ad), .int .u64 z, .int .i64 n] w (fun e w' => e = .returned (.tuple #[]) ∧ ∃ v', WS w w' ad v v' (xs ++ littleB z (clN n))) := by
  refine of_num_Writer_Little ?_
  rw [cl1]
  have := clN_le n
  refine ⟨fun i w1 => ∃ (j : Nat) (v' : Value), i = j ∧ j ≤ clN n ∧ WS w w1 ad v v' (xs ++ littleB z j), fun i _ => clN n - i.toNat, ⟨0, v, rfl, by omega, by simpa [littleB] using h.step⟩, ?_⟩
  rintro _ i w1 ⟨j, v', rfl, hj, hW⟩
  refine gIf_dec (fun hlt => gBin_shr (by rw [i64_id (by omega) (by omega)]; omega) ?_) (fun hge => ⟨rfl, v', ?_⟩)
  · rw [shr8 hz.1 (by omega), i64_id (n := (j : Int) + 1) (by omega) (by omega)]
    refine rawb_any hW.1 (byteAt_rng _ _) (by rw [List.length_append, littleB_len]; omega) fun v2 w2 hW2 => ⟨⟨j + 1, v2, by omega, by omega, ?_⟩, by dsimp only; omega⟩
    rw [littleB, ← List.append_assoc]; exact hW.trans hW2
  · rw [show clN n = j by omega]; exact hW
theorem Big_any {ad : Addr} {v : Value} {xs : List Int} {z n : Int} {w : World} (h : W1 w ad v xs) (hz : 0 ≤ z ∧ z < 18446744073709551616) (hl : xs.length + 10 ≤ 10000000000) :
    Calls P n_num_Writer_Big #[.pointer (some ad), .int .u64 z, .int .i64 n] w (fun e w' => e = .returned (.tuple #[]) ∧ ∃ v', WS w w' ad v v' (xs ++ bigB z (clN n))) := by
  refine of_num_Writer_Big ?_
  rw [cl2]
  have := clN_le n
  rw [i64_id (n := (clN n : Int) - 1) (by omega) (by omega)]
  refine ⟨fun i w1 => ∃ (j : Nat) (v' : Value) (ys : List Int), i = (j : Int) - 1 ∧ j ≤ clN n ∧ bigB z (clN n) = ys ++ bigB z j ∧ WS w w1 ad v v' (xs ++ ys), fun i _ => (i + 1).toNat, ⟨clN n, v, [], rfl, by omega, rfl, by simpa using h.step⟩, ?_⟩
  rintro _ i w1 ⟨j, v', ys, rfl, hj, hb, hW⟩
  have hlen := congrArg List.length hb
  rw [List.length_append, bigB_len, bigB_len] at hlen
  refine gIf_dec (fun hge => ?_) (fun hlt => ⟨rfl, v', ?_⟩)
  · obtain ⟨q, rfl⟩ : ∃ q, j = q + 1 := ⟨j - 1, by omega⟩
    rw [show ((q + 1 : Nat) : Int) - 1 = (q : Int) by omega]
    refine gBin_shr (by rw [i64_id (by omega) (by omega)]; omega) ?_
    rw [shr8 hz.1 (by omega), i64_id (n := (q : Int) - 1) (by omega) (by omega)]
    refine rawb_any hW.1 (byteAt_rng _ _) (by rw [List.length_append]; omega) fun v2 w2 hW2 => ⟨⟨q, v2, ys ++ [byteAt z q], rfl, by omega, ?_, ?_⟩, by dsimp only; omega⟩
    · rw [hb, bigB]; simp
    · rw [← List.append_assoc]; exact hW.trans hW2
  · obtain rfl : j = 0 := by omega
    rw [hb, bigB, List.append_nil]; exact hW
/-! ### A nil writer -/
theorem Raw_nil {p : Value} {w : World} : Calls P n_num_Writer_Raw #[.pointer none, p] w (fun e w' => e = .returned (.tuple #[]) ∧ w' = w) := of_num_Writer_Raw (gNe_pnil (gIf_f ⟨rfl, rfl⟩))
theorem raw1_nil {x : Value} {w : World} {K : World → Prop} (hx : x.cells = #[x]) (hk : ∀ w', Ev w w' → K w') : gLit P t_sl_sl_uint8 1 #[(0, x)] w fun (p : Value) w1 => gCall P n_num_Writer_Raw shU #[.pointer none, p] w1 K :=
  gLit_1 [x] rfl rfl (by decide) (by simpa using hx) fun p w1 h1 hp => gCall_u Raw_nil fun w2 e => by rw [e]; exact hk w1 h1
theorem rawb_nil {x : Int} {w : World} {K : World → Prop} (hx : 0 ≤ x ∧ x < 256) (hk : ∀ w', Ev w w' → K w') : gLit P t_sl_uint8 1 #[(0, .int .u8 x)] w fun (y : Value) w1 => gLit P t_sl_sl_uint8 1 #[(0, y)] w1 fun (p : Value) w2 => gCall P n_num_Writer_Raw shU #[.pointer none, p] w2 K :=
  gLit_n (k := .u8) [x] rfl rfl (by decide) (fun y hy => by simp at hy; subst hy; exact u8i hx) fun y w1 h1 hy => raw1_nil hy.one fun w2 h2 => hk w2 (h1.trans h2)
theorem iOr_u8 (a b : Int) : 0 ≤ iOr .u8 a b ∧ iOr .u8 a b < 256 := by unfold iOr; show 0 ≤ u8 _ ∧ u8 _ < 256; rw [u8_def]; omega
theorem Num_nil {n : Int} {w : World} (hn : 0 ≤ n) : Calls P n_num_Writer_Num #[.pointer none, .int .u64 n] w (fun e w' => e = .returned (.tuple #[]) ∧ Ev w w') := by
  refine of_num_Writer_Num ⟨fun m w1 => 0 ≤ m ∧ Ev w w1, fun m _ => m.toNat, ⟨hn, Ch.refl _ w⟩, ?_⟩
  rintro _ m w1 ⟨hm, h1⟩
  refine gIf_dec (fun hge => rawb_nil (iOr_u8 _ _) fun w2 h2 => ?_) (fun hlt => rawb_nil (by rw [u8_def]; omega) fun w2 h2 => ⟨rfl, h1.trans h2⟩)
  have e2 : iShr .u64 m 7 = m / 128 := by
    have := iShr_div (k := .u64) (a := m) (n := 7) (by decide) (by omega)
    rw [show ((7 : Nat) : Int) = 7 from rfl] at this
    rw [this]; rfl
  rw [e2]
  exact ⟨⟨by omega, h1.trans h2⟩, by dsimp only; omega⟩
theorem Text_nil {b : Value} {ys : List Int} {w : World} (hb : Nm .u8 w b ys) : Calls P n_num_Writer_Text #[.pointer none, b] w (fun e w' => e = .returned (.tuple #[]) ∧ Ev w w') :=
  of_num_Writer_Text (gLen_nm hb (gCall_u (Num_nil (by rw [u64_def]; omega)) fun w1 h1 => raw1_nil hb.one fun w2 h2 => ⟨rfl, h1.trans h2⟩))
theorem Little_nil {z n : Int} {w : World} : Calls P n_num_Writer_Little #[.pointer none, .int .u64 z, .int .i64 n] w (fun e w' => e = .returned (.tuple #[]) ∧ Ev w w') := by
  refine of_num_Writer_Little ?_
  rw [cl1]
  have := clN_le n
  refine ⟨fun i w1 => ∃ (j : Nat), i = j ∧ j ≤ clN n ∧ Ev w w1, fun i _ => clN n - i.toNat, ⟨0, rfl, by omega, Ch.refl _ w⟩, ?_⟩
  rintro _ i w1 ⟨j, rfl, hj, h1⟩
  refine gIf_dec (fun hlt => gBin_shr (by rw [i64_id (by omega) (by omega)]; omega) ?_) (fun hge => ⟨rfl, h1⟩)
  refine rawb_nil (by rw [u8_def]; omega) fun w2 h2 => ?_
  rw [i64_id (n := (j : Int) + 1) (by omega) (by omega)]
  exact ⟨⟨j + 1, by omega, by omega, h1.trans h2⟩, by dsimp only; omega⟩
theorem Bytes_nil {w : World} : Calls P n_num_Writer_Bytes #[.pointer none] w (fun e w' => e = .returned (.slice none 0 0) ∧ w' = w) := of_num_Writer_Bytes (gEq_pnil (gIf_t ⟨rfl, rfl⟩))
end Go.Proofs.YtcjopcplhabgkaaV
