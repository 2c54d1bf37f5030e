/- Package num: what is written is read; the laws NumNil and NumBack. -/
import Derived.Test.YtcjopcplhabgkaaVNumE
namespace Go.Proofs.YtcjopcplhabgkaaV
open Go Go.RowKit

theorem drop_head {xs ys : List Int} {a : Nat} {c : Int} (h : xs.drop a = c :: ys) : a < xs.length ∧ rd xs a = c ∧ xs.drop (a + 1) = ys := by
  have hl : a < xs.length := by
    rcases Nat.lt_or_ge a xs.length with h1 | h1
    · exact h1
    · rw [List.drop_of_length_le h1] at h; cases h
  refine ⟨hl, ?_, ?_⟩
  · rw [List.drop_eq_getElem_cons hl] at h
    rw [rd_nat xs a hl]; exact (List.cons.inj h).1
  · rw [List.drop_eq_getElem_cons hl] at h; exact (List.cons.inj h).2
theorem drop_head' {xs : List Int} {a : Nat} (h : a < xs.length) : xs.drop a = rd xs a :: xs.drop (a + 1) := by
  rw [List.drop_eq_getElem_cons h, rd_nat xs a h]
theorem pow7_succ (n : Nat) : ((2 ^ (7 * (n + 1)) : Nat) : Int) = ((2 ^ (7 * n) : Nat) : Int) * 128 := by
  rw [show 7 * (n + 1) = 7 * n + 7 by omega, Nat.pow_add, Int.natCast_mul]; rfl
theorem lookL_numB {xs rest : List Int} {a : Nat}  (f n q : Nat) (v : Int) (hf : f + n = 10) (hq : n > 0 → q > 0) (hb : (q : Int) * ((2 ^ (7 * n) : Nat) : Int) < 18446744073709551616) (hx : xs.drop (a + n) = numB q ++ rest) :
    lookL xs a f n v = (v + (q : Int) * ((2 ^ (7 * n) : Nat) : Int), ((a + n + (numB q).length : Nat) : Int), 0) := by
  induction f generalizing n q v with
  | zero =>
    have hn : n = 10 := by omega
    subst hn
    have := hq (by omega)
    rw [show ((2 ^ (7 * 10) : Nat) : Int) = 1180591620717411303424 from rfl] at hb
    omega
  | succ f ih =>
    have hn9 : n = 9 → q ≤ 1 := fun h9 => by
      subst h9
      rw [show ((2 ^ (7 * 9) : Nat) : Int) = 9223372036854775808 by decide] at hb
      omega
    by_cases h : q < 128
    · rw [numB_lt h] at hx ⊢
      obtain ⟨h1, h2, h3⟩ := drop_head (by simpa using hx)
      rw [lookL, if_neg (by omega), h2, if_neg (fun hh => by have := hn9 hh.1; omega), if_pos (by omega), if_neg (fun hh => by have := hq hh.2; omega), Int.emod_eq_of_lt (by omega) (by omega)]
      rfl
    · rw [numB_ge h] at hx ⊢
      obtain ⟨h1, h2, h3⟩ := drop_head (c := ((q % 128 + 128 : Nat) : Int)) (ys := numB (q / 128) ++ rest) (by rw [hx]; rfl)
      have hn : n ≠ 9 := fun h9 => by have := hn9 h9; omega
      rw [lookL, if_neg (by omega), h2, if_neg (fun hh => hn hh.1), if_neg (by omega)]
      have hdm : ((q % 128 + 128 : Nat) : Int) % 128 = ((q % 128 : Nat) : Int) := by omega
      have hsum : ((q % 128 : Nat) : Int) * ((2 ^ (7 * n) : Nat) : Int) + ((q / 128 : Nat) : Int) * (((2 ^ (7 * n) : Nat) : Int) * 128) = (q : Int) * ((2 ^ (7 * n) : Nat) : Int) := by
        have : (q : Int) = ((q % 128 : Nat) : Int) + ((q / 128 : Nat) : Int) * 128 := by omega
        rw [this, Int.add_mul, Int.mul_assoc, Int.mul_comm 128]
      have hm0 : 0 ≤ ((q % 128 : Nat) : Int) * ((2 ^ (7 * n) : Nat) : Int) := Int.mul_nonneg (by omega) (Int.natCast_nonneg _)
      rw [ih (n + 1) (q / 128) _ (by omega) (fun _ => by omega) (by rw [pow7_succ]; omega) (by rw [← h3, Nat.add_assoc]), hdm, pow7_succ, Int.add_assoc, hsum, List.length_cons]
      congr 2
      omega
theorem lookI_numB {xs rest : List Int} {a q : Nat} (hq : q < 18446744073709551616) (hx : xs.drop a = numB q ++ rest) : lookI xs a = ((q : Int), ((a + (numB q).length : Nat) : Int), 0) := by
  have := lookL_numB 10 0 q 0 (a := a) rfl (by omega) (by rw [show ((2 ^ (7 * 0) : Nat) : Int) = 1 by decide]; omega) hx
  unfold lookI
  rw [this, show ((2 ^ (7 * 0) : Nat) : Int) = 1 by decide]; simp
theorem numB_lookL {xs : List Int} {a : Nat} (hx : inR .u8 xs) : ∀ (f n : Nat) (v : Int), (lookL xs a f n v).2.2 = 0 → ∃ q : Nat, (lookL xs a f n v).1 = v + (q : Int) * ((2 ^ (7 * n) : Nat) : Int) ∧ (lookL xs a f n v).2.1 = ((a + n + (numB q).length : Nat) : Int) ∧ (n > 0 → q > 0) ∧ ∃ rest, xs.drop (a + n) = numB q ++ rest
  | 0, n, v, h => by simp [lookL] at h
  | f + 1, n, v, h => by
    rw [lookL] at h ⊢
    split at h
    · simp at h
    · rename_i h1
      rw [if_neg h1]
      have hc := rd_u8 hx ((a + n : Nat) : Int)
      have hd := drop_head' (xs := xs) (a := a + n) (by omega)
      generalize rd xs ((a + n : Nat) : Int) = c at *
      split at h
      · simp at h
      · rename_i h2
        rw [if_neg h2]
        split at h
        · rename_i h3
          rw [if_pos h3]
          split at h
          · simp at h
          · rename_i h4
            rw [if_neg h4]
            refine ⟨c.toNat, ?_, ?_, by omega, xs.drop (a + n + 1), ?_⟩
            · dsimp only; rw [Int.emod_eq_of_lt hc.1 h3, Int.toNat_of_nonneg hc.1]
            · rw [numB_lt (by omega)]; rfl
            · rw [numB_lt (by omega), hd, Int.toNat_of_nonneg hc.1]; rfl
        · rename_i h3
          rw [if_neg h3]
          obtain ⟨q, e1, e2, e3, rest, e4⟩ := numB_lookL hx f (n + 1) _ h
          have hq := e3 (by omega)
          have hnb : numB ((c % 128).toNat + q * 128) = c :: numB q := by
            rw [numB_ge (by omega), show ((c % 128).toNat + q * 128) / 128 = q by omega]
            congr 1; omega
          refine ⟨(c % 128).toNat + q * 128, ?_, ?_, fun _ => by omega, rest, ?_⟩
          · rw [e1, pow7_succ, Int.add_assoc]
            congr 1
            have : (((c % 128).toNat + q * 128 : Nat) : Int) = c % 128 + (q : Int) * 128 := by omega
            rw [this, Int.add_mul, Int.mul_assoc, Int.mul_comm 128]
          · rw [e2, hnb, List.length_cons]; congr 1; omega
          · rw [hnb, hd, show a + n + 1 = a + (n + 1) by omega, e4]; rfl
theorem numB_lookI {xs : List Int} {a : Nat} (hx : inR .u8 xs) (h : (lookI xs a).2.2 = 0) : ∃ q : Nat, (lookI xs a).1 = q ∧ (lookI xs a).2.1 = ((a + (numB q).length : Nat) : Int) ∧ ∃ rest, xs.drop a = numB q ++ rest := by
  obtain ⟨q, e1, e2, _, rest, e4⟩ := numB_lookL hx 10 0 0 h
  exact ⟨q, by unfold lookI; rw [e1, show ((2 ^ (7 * 0) : Nat) : Int) = 1 by decide]; simp, e2, rest, e4⟩
theorem le_little {v : Int} (h : 0 ≤ v ∧ v < 18446744073709551616) : leN (littleB v 8) = v := by simp [littleB, byteAt, leN]; omega
theorem be_big {v : Int} (h : 0 ≤ v ∧ v < 18446744073709551616) : beN 0 (bigB v 8) = v := by simp [bigB, byteAt, beN]; omega
theorem numR_of {xs rest : List Int} {a q : Nat} {m : Int} (hq : q < 18446744073709551616) (hm : (q : Int) ≤ m) (hx : xs.drop a = numB q ++ rest) : numR xs a 0 m = ((q : Int), a + (numB q).length, 0) := by
  unfold numR
  rw [lookI_numB hq hx, if_neg (by simp), if_neg (by simp; omega), if_neg (by simp)]; rfl
theorem drop_app {xs ys rest : List Int} {a : Nat} (hx : xs.drop a = ys ++ rest) : xs.drop (a + ys.length) = rest := by
  rw [← List.drop_drop, hx, List.drop_left]
theorem drop_len {xs ys rest : List Int} {a : Nat} (hx : xs.drop a = ys ++ rest) : ys.length ≤ xs.length - a := by
  have := congrArg List.length hx; simp at this; omega
theorem rawR_of {xs ys rest : List Int} {a : Nat} {m : Int} (hm : m = ys.length) (ha : a ≤ xs.length) (hx : xs.drop a = ys ++ rest) : rawR xs a 0 m = (ys, a + ys.length, 0) := by
  have hl := drop_len hx
  subst hm
  unfold rawR
  by_cases h0 : ys.length = 0
  · have : ys = [] := List.eq_nil_of_length_eq_zero h0
    subst this; rw [if_pos (by simp)]; rfl
  · rw [if_neg (by omega), if_neg (by omega), Int.toNat_natCast, hx, List.take_left]
theorem textR_of {xs ys rest : List Int} {a : Nat} {m : Int} (hq : ys.length < 18446744073709551616) (hm : (ys.length : Int) ≤ m) (ha : a ≤ xs.length) (hx : xs.drop a = numB ys.length ++ (ys ++ rest)) : textR xs a 0 m = (ys, a + (numB ys.length).length + ys.length, 0) := by
  unfold textR
  have hd := drop_app hx
  have hl := drop_len hx
  have : (if 0 > m then 0 else m) = m := by split <;> omega
  rw [if_neg (by simp), this, numR_of hq hm hx]
  dsimp only
  rw [rawR_of (ys := ys) rfl (by omega) hd, if_neg (by simp)]

/-! ### Laws -/
/-- A writer in memory that is new since w0. -/
def FWr (w0 w : World) (ad : Addr) (xs : List Int) : Prop := ∃ v, W1 w ad v xs ∧ Ev w0 w ∧ w0.heap.size ≤ ad.block ∧ ∀ g, v.ownBlock = some g → w0.heap.size ≤ g
theorem FWr.to {w0 w w' : World} {ad : Addr} {v : Value} {ys : List Int} (h1 : Ev w0 w) (h2 : w0.heap.size ≤ ad.block) (h3 : ∀ g, v.ownBlock = some g → w0.heap.size ≤ g) (h : ∃ v', WS w w' ad v v' ys) : FWr w0 w' ad ys := by
  obtain ⟨v', hW⟩ := h
  have := WrS.evn h1 hW h2 h3
  exact ⟨v', hW.1, this.1, h2, this.2⟩
theorem FWr.ev {w0 w w' : World} {ad : Addr} {xs : List Int} (h : FWr w0 w ad xs) (he : Ev w w') : FWr w0 w' ad xs := by
  obtain ⟨v, h1, h2, h3, h4⟩ := h; exact ⟨v, h1.ev he, h2.trans he, h3, h4⟩
theorem newW {w0 w : World} {K : Addr → World → Prop} (h0 : Ev w0 w) (hk : ∀ ad w', FWr w0 w' ad [] → K ad w') : gAlloc P t_num_Writer w K :=
  gAlloc_of (z := .agg #[.slice none 0 0]) (by kernel_rfl) fun ad w' h1 had hs hS => hk ad w' ⟨.slice none 0 0, ⟨hS, ON.nil _ _ _ _, fun h => by cases h⟩, h0.trans h1, by rw [had]; exact h0.size, fun g hg => by cases hg⟩
theorem lNum {w0 w : World} {ad : Addr} {xs : List Int} {n : Int} {K : World → Prop} (h : FWr w0 w ad xs) (hn : 0 ≤ n ∧ n < 18446744073709551616) (hl : xs.length + 10 ≤ 10000000000) (hk : ∀ w', FWr w0 w' ad (xs ++ numB n.toNat) → K w') : gCall P n_num_Writer_Num shU #[.pointer (some ad), .int .u64 n] w K := by
  obtain ⟨v, h1, h2, h3, h4⟩ := h; exact gCall_u (Num_any h1 hn hl) fun w' hw => hk w' (FWr.to h2 h3 h4 hw)
theorem lZig {w0 w : World} {ad : Addr} {xs : List Int} {n : Int} {K : World → Prop} (h : FWr w0 w ad xs) (hn : -9223372036854775808 ≤ n ∧ n ≤ 9223372036854775807) (hl : xs.length + 10 ≤ 10000000000) (hk : ∀ w', FWr w0 w' ad (xs ++ numB (foldI n).toNat) → K w') : gCall P n_num_Writer_Zig shU #[.pointer (some ad), .int .i64 n] w K := by
  obtain ⟨v, h1, h2, h3, h4⟩ := h; exact gCall_u (Zig_any h1 hn hl) fun w' hw => hk w' (FWr.to h2 h3 h4 hw)
theorem lText {w0 w : World} {ad : Addr} {b : Value} {xs ys : List Int} {K : World → Prop} (h : FWr w0 w ad xs) (hb : Nm .u8 w0 b ys) (hl : xs.length + ys.length + 10 ≤ 10000000000) (hk : ∀ w', FWr w0 w' ad (xs ++ numB ys.length ++ ys) → K w') : gCall P n_num_Writer_Text shU #[.pointer (some ad), b] w K := by
  obtain ⟨v, h1, h2, h3, h4⟩ := h
  refine gCall_u (Text_any h1 (fun w' hc => hb.ev (h2.new hc fun n i hf => ?_)) hl) fun w' hw => hk w' (FWr.to h2 h3 h4 hw)
  rcases hf with rfl | hf
  · exact h3
  · exact h4 _ hf
theorem lLittle {w0 w : World} {ad : Addr} {xs : List Int} {z n : Int} {K : World → Prop} (h : FWr w0 w ad xs) (hn : 0 ≤ z ∧ z < 18446744073709551616) (hl : xs.length + 10 ≤ 10000000000) (hk : ∀ w', FWr w0 w' ad (xs ++ littleB z (clN n)) → K w') : gCall P n_num_Writer_Little shU #[.pointer (some ad), .int .u64 z, .int .i64 n] w K := by
  obtain ⟨v, h1, h2, h3, h4⟩ := h; exact gCall_u (Little_any h1 hn hl) fun w' hw => hk w' (FWr.to h2 h3 h4 hw)
theorem lBig {w0 w : World} {ad : Addr} {xs : List Int} {z n : Int} {K : World → Prop} (h : FWr w0 w ad xs) (hn : 0 ≤ z ∧ z < 18446744073709551616) (hl : xs.length + 10 ≤ 10000000000) (hk : ∀ w', FWr w0 w' ad (xs ++ bigB z (clN n)) → K w') : gCall P n_num_Writer_Big shU #[.pointer (some ad), .int .u64 z, .int .i64 n] w K := by
  obtain ⟨v, h1, h2, h3, h4⟩ := h; exact gCall_u (Big_any h1 hn hl) fun w' hw => hk w' (FWr.to h2 h3 h4 hw)
theorem lBytes {w0 w : World} {ad : Addr} {xs : List Int} {K : Value → World → Prop} (h : FWr w0 w ad xs) (hl : xs.length ≤ 10000000000) (hk : ∀ y w', Ev w w' → ON .u8 eB w' w.heap.size y xs → K y w') : gCall P n_num_Writer_Bytes shV #[.pointer (some ad)] w K := by
  obtain ⟨v, h1, h2, h3, h4⟩ := h; exact gCall_v (Bytes_W h1 hl) fun y w' hw => hk y w' hw.1 hw.2
theorem awake02_any {w : World} : Calls P n_valiselaw02_awake #[] w (fun e w' => e = .returned (.bool true) ∧ Ev w w') := by
  refine of_valiselaw02_awake (newW (Ch.refl _ w) fun ad w1 h1 => lNum h1 (by decide) (by decide) fun w2 h2 => lBig h2 (by decide) ?_ fun w3 h3 => lBytes h3 ?_ fun y w4 h4 hy => ?_)
  · have := numB_len64 (n := 300) (by decide)
    rw [show Int.toNat 300 = 300 from rfl, List.nil_append]; omega
  · have := numB_len64 (n := 300) (by decide)
    rw [show Int.toNat 300 = 300 from rfl, List.nil_append, List.length_append, bigB_len]; have := clN_le 2; omega
  have e : [] ++ numB (Int.toNat 300) ++ bigB 258 (clN 2) = [172, 2, 1, 2] := by
    rw [show Int.toNat 300 = 300 from rfl, numB_ge (by decide), numB_lt (by decide)]; decide
  rw [e] at hy
  have hev : Ev w w3 := by obtain ⟨_, _, h, _⟩ := h3; exact h
  exact gLen_nm hy.nm (gIf_t (gIdx_nm hy.nm (by decide) (by decide) fun a1 c1 _ => gLoad_i c1 (gIf_t (gIdx_nm hy.nm (by decide) (by decide) fun a2 c2 _ => gLoad_i c2 (gIf_t (gIdx_nm hy.nm (by decide) (by decide) fun a3 c3 _ => gLoad_i c3 (gIf_t (gIdx_nm hy.nm (by decide) (by decide) fun a4 c4 _ => gLoad_i c4 ⟨rfl, hev.trans h4⟩))))))))
theorem awake02_end {w : World} : gCall P n_valiselaw02_awake shB #[] w fun t ww => Holds w (.returned (.bool t)) ww := gCall_b awake02_any fun _ h => ⟨rfl, h⟩
theorem NumNil_law {v n : Int} {b : Value} {ys : List Int} {w : World} (hv : IntKind.u64.min ≤ v ∧ v ≤ IntKind.u64.max) (hb : Nm .u8 w b ys) (hn : IntKind.i64.min ≤ n ∧ n ≤ IntKind.i64.max) :
    Calls P n_valiselaw02_NumNil #[.int .u64 v, b, .int .i64 n] w (Holds w) := by
  replace hv := u64_rng hv
  refine of_valiselaw02_NumNil (gCall_u (Num_nil hv.1) fun w1 h1 => gCall_u (Text_nil (hb.ev h1)) fun w2 h2 => gCall_u Little_nil fun w3 h3 => raw1_nil (hb.ev h1).one fun w4 h4 => gCall_b awake02_any fun w5 h5 => gIf_t ?_)
  have he : Ev w w5 := h1.trans (h2.trans (h3.trans (h4.trans h5)))
  exact gCall_v0 Bytes_nil (gLen_sl (gIf_t (gCall_i0 rNum_nil (gIf_t (gCall_i0 rZig_nil (gIf_t (gCall_v0 rText_nil (gLen_sl (gIf_t (gCall_i0 rLittle_nil (gIf_t (gCall_i0 rBig_nil (gIf_t (gCall_v0 rRaw_nil (gLen_sl (gIf_t (gCall_i0 rLeft_nil (gIf_t (gCall_i0 rErr_nil (gIf_t (gCall_i0 rEnd_nil ⟨rfl, he⟩)))))))))))))))))))))
end Go.Proofs.YtcjopcplhabgkaaV
