/- Package bits: the writer's calls. -/
import Derived.Test.YtnhlnpjfnoabcaaVBitsA
namespace Go.Proofs.YtnhlnpjfnoabcaaV
open Go Go.RowKit

theorem Bit_any {ad : Addr} {v : Value} {bs : List Int} {b : Int} {w : World} (h : Wb w ad v bs) (hl : bs.length ≤ 10000000000) :
    Calls P n_bits_Writer_Bit #[.pointer (some ad), .int .i64 b] w (fun e w' => e = .returned (.tuple #[]) ∧ ∃ v', WbS w w' ad v v' (bs ++ [bitI b])) := by
  obtain ⟨xs, hS, hO, hv, hP⟩ := h
  have hxl := hP.1
  have et : Int.tmod (bs.length : Int) 8 = ((bs.length % 8 : Nat) : Int) := by rw [Int.tmod_eq_emod_of_nonneg (by omega)]; omega
  have ed : i64 (Int.tdiv (bs.length : Int) 8) = ((bs.length / 8 : Nat) : Int) := by rw [Int.tdiv_eq_ediv_of_nonneg (by omega), i64_id (by omega) (by omega)]; omega
  refine of_bits_Writer_Bit (gEq_pnil (gIf_f ?_))
  refine ⟨fun w' => ∃ v' ys, St w' ad [v', .int .i64 bs.length] ∧ ON .u8 eB w' 0 v' ys ∧ v'.ownBlock ≠ some ad.block ∧ ys.length = (bs.length + 1 + 7) / 8 ∧ (∀ k, k < 8 * ys.length → bitAt ys k = bs.getD k 0) ∧ Ch (Ft ad v) w w' ∧ Moved w v v', ?_, ?_⟩
  · refine gNil_some (gLoad_i (hS.cell (j := 1) rfl) ?_)
    rw [et]
    refine gIf_eq (fun h0 => ?_) (fun h0 => ⟨v, xs, hS, hO, hv, by omega, hP.2, Ch.refl _ w, .inl rfl⟩)
    refine gNil_some (gLoad_v (v := v) (hS.cell (j := 0) rfl) (gLit_n (k := .u8) [0] rfl rfl (by decide) (fun x hx => by simp at hx; subst hx; decide) fun y w1 h1 hy => ?_))
    refine gApp_on (hO.ev h1) hy.nm (by simp; omega) (Nat.zero_le _) fun v2 w2 hO2 hc2 hm2 => gNil_some ?_
    have hS2 : St w2 ad [v, .int .i64 bs.length] := (hS.ev h1).ch hc2 fun _ _ hh => hv hh
    rw [Addr.add_zero']
    refine gStore_st0 hS2 (by simp) (by obtain ⟨a, c, rfl, _⟩ := hO2.nm.shape; rfl) hO2.one fun w3 h3 hs3 hS3 => ?_
    have hlt := hS.lt
    have hv2 : v2.ownBlock ≠ some ad.block := by
      rcases hm2 with h | h
      · rw [h]; exact hv
      · intro hh; have := h _ hh; have := h1.size; omega
    refine ⟨v2, xs ++ [0], by simpa using hS3, hO2.ch h3 fun g i hg hh => hv2 (by rw [hg, hh.1]), hv2, by simp; omega, fun k _ => hP.grow (by omega) k, ?_, ?_⟩
    · refine Ch.trans (Ch.trans (h1.mono fun _ _ _ h => h.elim) (hc2.mono fun _ _ _ h => .inr h) fun _ _ _ h => h) h3 fun n i _ hh => .inl hh.1
    · rcases hm2 with h | h
      · exact .inl h
      · exact .inr fun g hg => Nat.le_trans h1.size (h g hg)
  · rintro _ w4 ⟨v4, ys, hS4, hO4, hv4, hyl, hyb, hc4, hm4⟩
    have hlt : ad.block < w.heap.size := hS.lt
    -- one bit more is counted
    have fin : ∀ {w5 : World} {zs : List Int} {cs : List Int}, St w5 ad [v4, .int .i64 bs.length] → ON .u8 eB w5 0 v4 zs → Packs zs cs → cs.length = bs.length + 1 → Ch (Ft ad v) w w5 →
        gNil (some ad) fun (t43 : Addr) => gLoad P t_int (shI .i64) (.pointer (some (Addr.add t43 1))) w5 fun (t45 : Int) => gNil (some ad) fun (t47 : Addr) => gStore P t_int (.pointer (some (Addr.add t47 1))) (.int .i64 (i64 (t45 + 1))) w5 fun ww6 => (Ending.returned (.tuple #[]) = Ending.returned (.tuple #[]) ∧ ∃ v', WbS w ww6 ad v v' cs) := fun {w5 zs cs} k1 k2 k3 k4 k5 => by
      refine gNil_some (gLoad_i (k1.cell (j := 1) rfl) (gNil_some (gStore_st k1 (j := 1) (by simp) rfl rfl fun w6 h6 _ hS6 => ⟨rfl, v4, ⟨zs, ?_, k2.ch h6 fun g i hg hh => ?_, hv4, k3⟩, Ch.trans k5 h6 fun n i _ hh => ?_, hm4⟩)))
      · have e : i64 ((bs.length : Int) + 1) = ((cs.length : Nat) : Int) := by rw [i64_id (by omega) (by omega)]; omega
        rw [e] at hS6; exact hS6
      · have := hh.1; rw [Addr.add_none hS.1] at this; exact hv4 (by rw [hg, this])
      · have := hh.1; rw [Addr.add_none hS.1] at this; exact .inl this
    refine gIf_neq (fun hb => ?_) (fun hb => ?_)
    · refine ⟨fun w' => St w' ad [v4, .int .i64 bs.length], hS4.drew, gNil_some (gLoadB_v (v := v4) (fun w' h => h.cell (j := 0) rfl) (gNil_some (gLoadB_i (fun w' h => h.cell (j := 1) rfl) ?_)))⟩
      rw [ed]
      have hi : ((bs.length / 8 : Nat) : Int) < ys.length := by omega
      refine gIdx_nm hO4.drew.nm (by omega) hi fun a1 c1 _ => gNil_some (gLoadB_i (fun w' h => h.cell (j := 1) rfl) ?_)
      rw [et]
      refine gBin_shr (by omega) (gLoad_i c1 ⟨hS4.drew, gIdx_on hO4.drew (by omega) hi fun a2 s2 _ => ?_⟩)
      obtain ⟨p1, p2⟩ := Packs.set hO4.2 hyl hyb
      obtain ⟨q1, q2, _⟩ := bit_or (rd_u8 hO4.2 ((bs.length / 8 : Nat) : Int)) (r := bs.length % 8) (by omega)
      refine gStore_on hO4.drew s2 (by omega) hi (u8i ⟨q1, q2⟩) fun w5 h5 _ hO5 => ⟨hS4.drew.ch h5 fun _ _ hh => hv4 hh, ?_⟩
      rw [Int.toNat_natCast] at hO5
      have e1 : bitI b = 1 := by unfold bitI; rw [if_pos hb]
      rw [e1]
      refine fin (hS4.drew.ch h5 fun _ _ hh => hv4 hh) hO5 p1 (by simp) ?_
      refine Ch.trans hc4.drew h5 fun n i hn hh => ?_
      rcases hm4 with h | h
      · exact .inr (h ▸ hh)
      · have := h n hh; omega
    · have e0 : bitI b = 0 := by unfold bitI; rw [if_neg (by simpa using hb)]
      rw [e0]
      exact fin hS4 hO4 (Packs.zero hyl hyb) (by simp) hc4
theorem Bit_nil {b : Int} {w : World} : Calls P n_bits_Writer_Bit #[.pointer none, .int .i64 b] w (fun e w' => e = .returned (.tuple #[]) ∧ w' = w) := of_bits_Writer_Bit (gEq_pnil (gIf_t ⟨rfl, rfl⟩))
def cl32 (n : Int) : Nat := (if 32 < n then 32 else n).toNat
theorem cl32_le (n : Int) : cl32 n ≤ 32 := by unfold cl32; split <;> omega
theorem cl32a (n : Int) : (if 0 > (if 32 < n then 32 else n) then 0 else (if 32 < n then 32 else n)) = (cl32 n : Int) := by unfold cl32; split <;> split <;> omega
theorem cl32b (n : Int) : (if (if 32 < n then 32 else n) > 0 then (if 32 < n then 32 else n) else 0) = (cl32 n : Int) := by unfold cl32; split <;> split <;> omega
/-- The lowest bits of a number, the highest of them first. -/
def bitsL (v : Int) : Nat → List Int
  | 0 => []
  | k + 1 => v / ((2 ^ k : Nat) : Int) % 2 :: bitsL v k
theorem bitsL_len (v : Int) : ∀ k, (bitsL v k).length = k
  | 0 => rfl
  | k + 1 => by simp [bitsL, bitsL_len v k]
theorem and1 {x : Int} (h : 0 ≤ x ∧ x < 4294967296) : i64 (iAnd .u32 x 1) = x % 2 := by
  have := iAnd_mask (k := .u32) (a := x) (m := 1) (n := 1) rfl h.1 (by rw [show (2 : Int) ^ IntKind.u32.bits = 4294967296 by decide]; omega) rfl (by decide)
  rw [show ((1 : Nat) : Int) = 1 from rfl] at this
  rw [this, show ((2 ^ 1 : Nat) : Int) = 2 from rfl, i64_id (by omega) (by omega)]
theorem shr32 {v : Int} {k : Nat} (hv : 0 ≤ v ∧ v < 4294967296) (hk : k ≤ 32) : iShr .u32 v k = v / ((2 ^ k : Nat) : Int) ∧ 0 ≤ v / ((2 ^ k : Nat) : Int) ∧ v / ((2 ^ k : Nat) : Int) < 4294967296 := by
  refine ⟨iShr_div (by have : IntKind.u32.bits = 32 := rfl; omega) hv.1, Int.ediv_nonneg hv.1 (Int.natCast_nonneg _), ?_⟩
  have := Int.ediv_le_self (a := v) ((2 ^ k : Nat) : Int) hv.1
  omega
theorem bit01 {x : Int} : bitI (x % 2) = x % 2 := by unfold bitI; split <;> omega
theorem Bits_any {ad : Addr} {v : Value} {bs : List Int} {x n : Int} {w : World} (h : Wb w ad v bs) (hx : 0 ≤ x ∧ x < 4294967296) (hl : bs.length + 32 ≤ 10000000000) :
    Calls P n_bits_Writer_Bits #[.pointer (some ad), .int .u32 x, .int .i64 n] w (fun e w' => e = .returned (.tuple #[]) ∧ ∃ v', WbS w w' ad v v' (bs ++ bitsL x (cl32 n))) := by
  refine of_bits_Writer_Bits ?_
  rw [cl32b]
  have := cl32_le n
  rw [i64_id (n := (cl32 n : Int) - 1) (by omega) (by omega)]
  refine ⟨fun i w1 => ∃ (j : Nat) (v' : Value) (ys : List Int), i = (j : Int) - 1 ∧ j ≤ cl32 n ∧ bitsL x (cl32 n) = ys ++ bitsL x j ∧ WbS w w1 ad v v' (bs ++ ys), fun i _ => (i + 1).toNat, ⟨cl32 n, v, [], rfl, by omega, rfl, by simpa using h.step⟩, ?_⟩
  rintro _ i w1 ⟨j, v', ys, rfl, hj, hb, hW⟩
  have hlen := congrArg List.length hb
  rw [List.length_append, bitsL_len, bitsL_len] at hlen
  refine gIf_dec (fun hge => ?_) (fun hlt => ⟨rfl, v', ?_⟩)
  · obtain ⟨q, rfl⟩ : ∃ q, j = q + 1 := ⟨j - 1, by omega⟩
    rw [show ((q + 1 : Nat) : Int) - 1 = (q : Int) by omega]
    refine gBin_shr (by omega) ?_
    obtain ⟨e1, e2⟩ := shr32 hx (k := q) (by omega)
    rw [e1, and1 e2, i64_id (n := (q : Int) - 1) (by omega) (by omega)]
    refine gCall_u (Bit_any hW.1 (by rw [List.length_append]; omega)) fun w2 ⟨v2, hW2⟩ => ⟨⟨q, v2, ys ++ [x / ((2 ^ q : Nat) : Int) % 2], rfl, by omega, ?_, ?_⟩, by dsimp only; omega⟩
    · rw [hb, bitsL]; simp
    · rw [bit01] at hW2
      rw [← List.append_assoc]; exact hW.trans hW2
  · obtain rfl : j = 0 := by omega
    rw [hb, bitsL, List.append_nil]; exact hW
theorem Bits_nil {x n : Int} {w : World} : Calls P n_bits_Writer_Bits #[.pointer none, .int .u32 x, .int .i64 n] w (fun e w' => e = .returned (.tuple #[]) ∧ w' = w) := by
  refine of_bits_Writer_Bits ?_
  rw [cl32b]
  have := cl32_le n
  rw [i64_id (n := (cl32 n : Int) - 1) (by omega) (by omega)]
  refine ⟨fun i w1 => -1 ≤ i ∧ i ≤ 31 ∧ w1 = w, fun i _ => (i + 1).toNat, ⟨by omega, by omega, rfl⟩, ?_⟩
  rintro _ i _ ⟨h1, h2, rfl⟩
  refine gIf_dec (fun hge => gBin_shr hge (gCall_u Bit_nil fun w' e => ?_)) (fun _ => ⟨rfl, rfl⟩)
  rw [i64_id (n := i - 1) (by omega) (by omega), e]
  exact ⟨⟨by omega, by omega, rfl⟩, by dsimp only; omega⟩
def cl4096 (n : Int) : Nat := (if 4096 < n then 4096 else n).toNat
theorem cl4096_le (n : Int) : cl4096 n ≤ 4096 := by unfold cl4096; split <;> omega
theorem cl4096a (n : Int) : (if 0 > (if 4096 < n then 4096 else n) then 0 else (if 4096 < n then 4096 else n)) = (cl4096 n : Int) := by unfold cl4096; split <;> split <;> omega
theorem Unary_any {ad : Addr} {v : Value} {bs : List Int} {n : Int} {w : World} (h : Wb w ad v bs) (hl : bs.length + 5000 ≤ 10000000000) :
    Calls P n_bits_Writer_Unary #[.pointer (some ad), .int .i64 n] w (fun e w' => e = .returned (.tuple #[]) ∧ ∃ v', WbS w w' ad v v' (bs ++ (List.replicate (cl4096 n) 1 ++ [0]))) := by
  refine of_bits_Writer_Unary ?_
  rw [cl4096a]
  have := cl4096_le n
  refine ⟨fun i w1 => ∃ (j : Nat) (v' : Value), i = j ∧ j ≤ cl4096 n ∧ WbS w w1 ad v v' (bs ++ List.replicate j 1), fun i _ => cl4096 n - i.toNat, ⟨0, v, rfl, by omega, by simpa using h.step⟩, ?_⟩
  rintro _ i w1 ⟨j, v', rfl, hj, hW⟩
  refine gIf_dec (fun hlt => ?_) (fun hge => ?_)
  · rw [i64_id (n := (j : Int) + 1) (by omega) (by omega)]
    refine gCall_u (Bit_any hW.1 (by simp; omega)) fun w2 ⟨v2, hW2⟩ => ⟨⟨j + 1, v2, by omega, by omega, ?_⟩, by dsimp only; omega⟩
    rw [List.replicate_succ', ← List.append_assoc]; exact hW.trans hW2
  · have : j = cl4096 n := by omega
    subst this
    refine gCall_u (Bit_any hW.1 (by simp; omega)) fun w2 ⟨v2, hW2⟩ => ⟨rfl, v2, ?_⟩
    rw [← List.append_assoc]; exact hW.trans hW2
theorem Unary_nil {n : Int} {w : World} : Calls P n_bits_Writer_Unary #[.pointer none, .int .i64 n] w (fun e w' => e = .returned (.tuple #[]) ∧ w' = w) := by
  refine of_bits_Writer_Unary ?_
  rw [cl4096a]
  have := cl4096_le n
  refine ⟨fun i w1 => 0 ≤ i ∧ i ≤ 4096 ∧ w1 = w, fun i _ => 4096 - i.toNat, ⟨by omega, by omega, rfl⟩, ?_⟩
  rintro _ i _ ⟨h1, h2, rfl⟩
  refine gIf_dec (fun hlt => gCall_u Bit_nil fun w' e => ?_) (fun _ => gCall_u Bit_nil fun w' e => ⟨rfl, e⟩)
  rw [i64_id (n := i + 1) (by omega) (by omega), e]
  exact ⟨⟨by omega, by omega, rfl⟩, by dsimp only; omega⟩
theorem wBytes_any {ad : Addr} {v : Value} {bs : List Int} {w : World} (h : Wb w ad v bs) (hl : bs.length ≤ 10000000000) : Calls P n_bits_Writer_Bytes #[.pointer (some ad)] w (fun e w' => ∃ y, e = .returned y ∧ Ev w w' ∧ ∃ xs, ON .u8 eB w' w.heap.size y xs ∧ Packs xs bs) := by
  obtain ⟨xs, hS, hO, hv, hP⟩ := h
  have := hP.1
  refine of_bits_Writer_Bytes (gEq_pnil (gIf_f (gNil_some (gLoad_v (v := v) (hS.cell (j := 0) rfl) (gApp_on (ON.nil .u8 eB w w.heap.size) hO.nm (by simp; omega) (Nat.le_refl _) fun y w' hy hc hm => ⟨y, rfl, ?_, xs, by simpa using hy, hP⟩)))))
  exact hc.mono fun _ _ _ hh => by cases hh
theorem wBytes_nil {w : World} : Calls P n_bits_Writer_Bytes #[.pointer none] w (fun e w' => e = .returned (.slice none 0 0) ∧ w' = w) := of_bits_Writer_Bytes (gEq_pnil (gIf_t ⟨rfl, rfl⟩))
end Go.Proofs.YtnhlnpjfnoabcaaV
