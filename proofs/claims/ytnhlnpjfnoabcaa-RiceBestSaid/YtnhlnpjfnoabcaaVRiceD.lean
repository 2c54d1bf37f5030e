/- Packages valiseref01 (the writer) and valiseref10: what their calls do. -/
import Derived.Test.YtnhlnpjfnoabcaaVRiceC
namespace Go.Proofs.YtnhlnpjfnoabcaaV
open Go Go.RowKit
/-! ### valiseref01: a list of zeros and ones -/
section
variable {ad : Addr} {v : Value} {bs : List Int} {w : World}
theorem in01 {b : Int} (h : b = 0 ∨ b = 1) : inR .u8 [b] := fun x hx => by
  simp at hx; subst hx
  rcases h with rfl | rfl <;> decide
theorem rfBit_any {b : Int} (h : Wr eB w ad v bs) (hl : bs.length ≤ 10000000000) :
    Calls P n_valiseref01_Writer_Bit #[.pointer (some ad), .int .i64 b] w (fun e w' => e = .returned (.tuple #[]) ∧ ∃ v', WrS eB w w' ad v v' (bs ++ [bitI b])) := by
  refine of_valiseref01_Writer_Bit (gIf_neq (fun hb => ?_) (fun hb => ?_))
  · have e1 : bitI b = 1 := by unfold bitI; rw [if_pos hb]
    rw [e1]
    exact gNil_some (gLoad_v (h.1.cell (j := 0) rfl) (gLit_n (k := .u8) [1] rfl rfl (by decide) (in01 (.inr rfl)) fun y w1 h1 hy => wrApp (h.ev h1) hy.nm (by simp; omega) fun v' w' hs => ⟨rfl, v', WrS.pre h1 hs⟩))
  · have e1 : bitI b = 0 := by unfold bitI; rw [if_neg (by simpa using hb)]
    rw [e1]
    exact gNil_some (gLoad_v (h.1.cell (j := 0) rfl) (gLit_n (k := .u8) [0] rfl rfl (by decide) (in01 (.inl rfl)) fun y w1 h1 hy => wrApp (h.ev h1) hy.nm (by simp; omega) fun v' w' hs => ⟨rfl, v', WrS.pre h1 hs⟩))
theorem and1' {x : Int} (h : 0 ≤ x ∧ x < 4294967296) : u8 (iAnd .u32 x 1) = x % 2 := by
  have := iAnd_mask (k := .u32) (a := x) (m := 1) (n := 1) rfl h.1 (by rw [show (2 : Int) ^ IntKind.u32.bits = 4294967296 by decide]; omega) rfl (by decide)
  rw [show ((1 : Nat) : Int) = 1 from rfl] at this
  rw [this, show ((2 ^ 1 : Nat) : Int) = 2 from rfl, u8_def]; omega
theorem rfBits_any {x n : Int} (h : Wr eB w ad v bs) (hx : 0 ≤ x ∧ x < 4294967296) (hl : bs.length + 32 ≤ 10000000000) :
    Calls P n_valiseref01_Writer_Bits #[.pointer (some ad), .int .u32 x, .int .i64 n] w (fun e w' => e = .returned (.tuple #[]) ∧ ∃ v', WrS eB w w' ad v v' (bs ++ bitsL x (cl32 n))) := by
  refine of_valiseref01_Writer_Bits ?_
  rw [cl32b]
  have := cl32_le n
  rw [i64_id (n := (cl32 n : Int) - 1) (by omega) (by omega)]
  refine ⟨fun i w1 => ∃ (j : Nat) (v' : Value) (ys : List Int), i = (j : Int) - 1 ∧ j ≤ cl32 n ∧ bitsL x (cl32 n) = ys ++ bitsL x j ∧ WrS eB w w1 ad v v' (bs ++ ys), fun i _ => (i + 1).toNat, ⟨cl32 n, v, [], rfl, by omega, rfl, by simpa using h.step⟩, ?_⟩
  rintro _ i w1 ⟨j, v', ys, rfl, hj, hb, hW⟩
  have hlen := congrArg List.length hb
  rw [List.length_append, bitsL_len, bitsL_len] at hlen
  refine gIf_dec (fun hge => ?_) (fun hlt => ⟨rfl, v', ?_⟩)
  · obtain ⟨q, rfl⟩ : ∃ q, j = q + 1 := ⟨j - 1, by omega⟩
    rw [show ((q + 1 : Nat) : Int) - 1 = (q : Int) by omega, show u64 (q : Int) = (q : Int) by rw [u64_def]; omega]
    refine gNil_some (gLoad_v (hW.1.1.cell (j := 0) rfl) (gBin_shr (by omega) ?_))
    obtain ⟨e1, e2⟩ := shr32 hx (k := q) (by omega)
    rw [e1, and1' e2, i64_id (n := (q : Int) - 1) (by omega) (by omega)]
    refine gLit_n (k := .u8) [x / ((2 ^ q : Nat) : Int) % 2] rfl rfl (by decide) (in01 (by omega)) fun y w2 h2 hy => wrApp (hW.1.ev h2) hy.nm (by simp; omega) fun v3 w3 hs => ⟨⟨q, v3, ys ++ [x / ((2 ^ q : Nat) : Int) % 2], rfl, by omega, ?_, ?_⟩, by dsimp only; omega⟩
    · rw [hb, bitsL]; simp
    · rw [← List.append_assoc]; exact (hW.ev h2).trans hs
  · obtain rfl : j = 0 := by omega
    rw [hb, bitsL, List.append_nil]; exact hW
theorem cl4096b (n : Int) : (if (if 4096 < n then 4096 else n) > 0 then (if 4096 < n then 4096 else n) else 0) = (cl4096 n : Int) := by unfold cl4096; split <;> split <;> omega
theorem rfUnary_any {n : Int} (h : Wr eB w ad v bs) (hl : bs.length + 5000 ≤ 10000000000) :
    Calls P n_valiseref01_Writer_Unary #[.pointer (some ad), .int .i64 n] w (fun e w' => e = .returned (.tuple #[]) ∧ ∃ v', WrS eB w w' ad v v' (bs ++ (List.replicate (cl4096 n) 1 ++ [0]))) := by
  refine of_valiseref01_Writer_Unary ?_
  rw [cl4096b]
  have := cl4096_le n
  refine ⟨fun i w1 => ∃ (j : Nat) (v' : Value), i = j ∧ j ≤ cl4096 n ∧ WrS eB w w1 ad v v' (bs ++ List.replicate j 1), fun i _ => cl4096 n - i.toNat, ⟨0, v, rfl, by omega, by simpa using h.step⟩, ?_⟩
  rintro _ i w1 ⟨j, v', rfl, hj, hW⟩
  refine gIf_dec (fun hlt => ?_) (fun hge => ?_)
  · rw [i64_id (n := (j : Int) + 1) (by omega) (by omega)]
    refine gCall_u (rfBit_any hW.1 (by simp; omega)) fun w2 ⟨v2, hW2⟩ => ⟨⟨j + 1, v2, by omega, by omega, ?_⟩, by dsimp only; omega⟩
    rw [List.replicate_succ', ← List.append_assoc]; exact hW.trans hW2
  · have : j = cl4096 n := by omega
    subst this
    refine gCall_u (rfBit_any hW.1 (by simp; omega)) fun w2 ⟨v2, hW2⟩ => ⟨rfl, v2, ?_⟩
    rw [← List.append_assoc]; exact hW.trans hW2
theorem set_rd {xs : List Int} {i : Nat} (h : i < xs.length) : xs.set i (rd xs i) = xs := by
  refine List.ext_getElem (by simp) fun j h1 h2 => ?_
  rw [List.getElem_set]
  split
  · rename_i e; subst e; rw [rd_nat xs _ h]
  · rfl
theorem iOr_zero {a : Int} (h : 0 ≤ a ∧ a < 256) : iOr .u8 a 0 = a := by
  obtain ⟨a, rfl⟩ := Int.eq_ofNat_of_zero_le h.1
  have := iOr_nat (k := .u8) rfl (a := a) (b := 0) (by rw [bits8]; omega) (by rw [bits8]; omega)
  rw [show ((0 : Nat) : Int) = 0 from rfl, Nat.or_zero] at this
  exact this
theorem shl01 : ∀ r : Nat, r < 8 → iShl .u8 1 ((7 - r : Nat) : Int) = iShr .u8 128 r ∧ iShl .u8 0 ((7 - r : Nat) : Int) = 0 := by decide
theorem rfBytes_any (h : Wr eB w ad v bs) (hb : B01 bs) (hl : bs.length ≤ 10000000000) : Calls P n_valiseref01_Writer_Bytes #[.pointer (some ad)] w (fun e w' => ∃ y, e = .returned y ∧ Ev w w' ∧ ∃ xs, ON .u8 eB w' w.heap.size y xs ∧ Packs xs bs) := by
  refine of_valiseref01_Writer_Bytes ⟨fun out i w' => ∃ (j : Nat) (ys : List Int), i = j ∧ j ≤ bs.length ∧ Fr w w' [oIt .u8 eB out ys] ∧ Packs ys (bs.take j), fun _ i _ => bs.length - i.toNat, ⟨0, [], rfl, by omega, (Fr.start w).nil0 _ _, Packs.nil⟩, ?_⟩
  rintro _ out i w1 ⟨j, ys, rfl, hj, f1, hp⟩
  have htl : (bs.take j).length = j := by rw [List.length_take]; omega
  have hpl := hp.1
  rw [htl] at hpl
  have et : Int.tmod (j : Int) 8 = ((j % 8 : Nat) : Int) := by rw [Int.tmod_eq_emod_of_nonneg (by omega)]; omega
  have ed : i64 (Int.tdiv (j : Int) 8) = ((j / 8 : Nat) : Int) := by rw [Int.tdiv_eq_ediv_of_nonneg (by omega), i64_id (by omega) (by omega)]; omega
  have es : u64 (i64 (7 - Int.tmod (j : Int) 8)) = ((7 - j % 8 : Nat) : Int) := by rw [et, i64_id (by omega) (by omega), u64_def]; omega
  have hW1 := h.ev f1.old
  refine gNil_some (gLoad_v (hW1.1.cell (j := 0) rfl) (gLen_nm hW1.2.1.nm (gIf_dec (fun hlt => ?_) (fun hge => ?_))))
  · rw [ed, es, et]
    refine ⟨fun out w' => ∃ zs, Fr w w' [oIt .u8 eB out zs] ∧ zs.length = ((bs.take j).length + 1 + 7) / 8 ∧ ∀ k, k < 8 * zs.length → bitAt zs k = (bs.take j).getD k 0, ?_, ?_⟩
    · refine gIf_eq (fun e0 => ?_) (fun e0 => ⟨ys, f1, by omega, hp.2⟩)
      refine fLit_n [0] f1 rfl rfl (in01 (.inl rfl)) fun t w2 f2 => fApp f2 1 rfl (f2.nm 0 rfl) (by simp; omega) fun o w3 f3 => ⟨ys ++ [0], f3.drop 0, by simp; omega, fun k _ => hp.grow (by omega) k⟩
    rintro _ o w2 ⟨zs, f2, hzl, hz⟩
    have f2 := f2.drew
    have hW2 := h.ev f2.old
    have hN := f2.nm 0 rfl
    have hbr : rd bs j = 0 ∨ rd bs j = 1 := hb _ (rd_mem (by omega) (by omega))
    have hi : j / 8 < zs.length := by omega
    refine ⟨fun w' => Wr eB w' ad v bs, hW2, gIdx_nm hN (by omega) (by omega) fun a1 c1 _ => gNil_some (gLoadB_v (fun w' h => h.1.cell (j := 0) rfl) (gIdx_nm hW2.2.1.nm (by omega) hlt fun a2 c2 _ => ?_))⟩
    have fin : gIdx P t_sl_uint8 o (.int .i64 ((j / 8 : Nat) : Int)) fun (t41 : Addr) => gStore P t_uint8 (.pointer (some t41)) (.int .u8 (iOr .u8 (rd zs ((j / 8 : Nat) : Int)) (iShl .u8 (rd bs j) ((7 - j % 8 : Nat) : Int)))) w2.drew fun ww5 => Wr eB ww5 ad v bs ∧ (∃ (j_1 : Nat) (ys : List Int), i64 ((j : Int) + 1) = (j_1 : Int) ∧ j_1 ≤ bs.length ∧ Fr w ww5 [oIt .u8 eB o ys] ∧ Packs ys (bs.take j_1)) ∧ bs.length - (i64 ((j : Int) + 1)).toNat < bs.length - (j : Int).toNat := by
      refine gIdx_on (f2.on 0 rfl) (by omega) (by omega) fun a3 s3 _ => ?_
      have key : Packs (zs.set (j / 8) (iOr .u8 (rd zs ((j / 8 : Nat) : Int)) (iShl .u8 (rd bs j) ((7 - j % 8 : Nat) : Int)))) (bs.take (j + 1)) ∧ IntKind.u8.min ≤ iOr .u8 (rd zs ((j / 8 : Nat) : Int)) (iShl .u8 (rd bs j) ((7 - j % 8 : Nat) : Int)) ∧ iOr .u8 (rd zs ((j / 8 : Nat) : Int)) (iShl .u8 (rd bs j) ((7 - j % 8 : Nat) : Int)) ≤ IntKind.u8.max := by
        obtain ⟨s1, s2⟩ := shl01 (j % 8) (by omega)
        rw [List.take_succ_eq_append_getElem (by omega), ← rd_nat bs j (by omega)]
        rcases hbr with e | e
        · rw [e, s2, iOr_zero (rd_u8 hN.2 _), set_rd hi]
          exact ⟨Packs.zero hzl hz, u8i (rd_u8 hN.2 _)⟩
        · rw [e, s1]
          have hs := (Packs.set hN.2 hzl hz).1
          obtain ⟨q1, q2, _⟩ := bit_or (rd_u8 hN.2 ((j / 8 : Nat) : Int)) (r := j % 8) (by omega)
          rw [htl] at hs
          exact ⟨hs, u8i ⟨q1, q2⟩⟩
      have f2b := f2
      refine gStore_on (f2.on 0 rfl) s3 (by omega) (by omega) key.2 fun w3 h3 _ hO3 => ?_
      rw [Int.toNat_natCast] at hO3
      have f3 : Fr w w3 [oIt .u8 eB o _] := f2b.upd (jt := oIt .u8 eB o _) 0 rfl h3 (fun k _ hh => .inl hh) (hO3.low (Nat.zero_le _)) fun k hk => .inl hk
      rw [i64_id (n := (j : Int) + 1) (by omega) (by omega)]
      exact ⟨h.ev f3.old, ⟨j + 1, _, rfl, by omega, f3, key.1⟩, by omega⟩
    exact ⟨gLoad_i c1 ⟨hW2, gLoad_i c2 ⟨hW2, gBin_shl (by omega) fin⟩⟩, gLoad_i c2 ⟨hW2, gBin_shl (by omega) (gLoad_i c1 ⟨hW2, fin⟩)⟩⟩
  · obtain rfl : j = bs.length := by omega
    rw [List.take_length] at hp
    exact ⟨out, rfl, f1.old, ys, f1.on 0 rfl, hp⟩
end
/-! ### valiseref10 -/
theorem rfFold_any {v : Int} {w : World} (h : -9223372036854775808 ≤ v ∧ v ≤ 9223372036854775807) : Calls P n_valiseref02_Fold #[.int .i64 v] w (fun e w' => e = .returned (.int .u64 (foldI v)) ∧ w' = w) := by
  refine of_valiseref02_Fold (gIf_dec (fun h0 => ⟨?_, rfl⟩) (fun h0 => ⟨?_, rfl⟩)) <;> unfold foldI
  · rw [if_pos h0, u64_def, u64_def]; congr 2; omega
  · rw [if_neg h0, u64_def, u64_def, u64_def, i64_id (n := v + 1) (by omega) (by omega), i64_id (by omega) (by omega)]; congr 2; omega
theorem rfUnfold_any {u : Int} {w : World} (h : 0 ≤ u ∧ u < 18446744073709551616) : Calls P n_valiseref02_Unfold #[.int .u64 u] w (fun e w' => e = .returned (.int .i64 (unfoldI u)) ∧ w' = w) := by
  have e1 : Int.tdiv u 2 = u / 2 := by rw [Int.tdiv_eq_ediv_of_nonneg h.1]
  have e2 : Int.tmod u 2 = u % 2 := by rw [Int.tmod_eq_emod_of_nonneg h.1]
  refine of_valiseref02_Unfold ?_
  rw [e1, e2, show u64 (u / 2) = u / 2 by rw [u64_def]; omega]
  refine gIf_eq (fun h0 => ⟨?_, rfl⟩) (fun h0 => ⟨?_, rfl⟩) <;> unfold unfoldI
  · rw [if_pos h0, i64_id (by omega) (by omega)]
  · rw [if_neg h0, i64_id (n := u / 2) (by omega) (by omega), i64_id (n := 0 - u / 2) (by omega) (by omega), i64_id (by omega) (by omega)]; congr 2; omega
theorem rfput_any {ad : Addr} {v : Value} {bs : List Int} {x : Int} {k : Nat} {w : World} (h : Wr eB w ad v bs) (hx : -2147483648 ≤ x ∧ x ≤ 2147483647) (hk : k ≤ 24) (hl : bs.length + 10000 ≤ 10000000000) :
    Calls P n_valiseref10_put #[.pointer (some ad), .int .i32 x, .int .i64 k] w (fun e w' => e = .returned (.tuple #[]) ∧ ∃ v', WrS eB w w' ad v v' (bs ++ numL x k)) := by
  have hf := foldI32 hx
  refine of_valiseref10_put ?_
  rw [i64_id (n := x) (by omega) (by omega), show u64 (k : Int) = (k : Int) by rw [u64_def]; omega]
  refine gCall_i0 (rfFold_any (by omega)) (gBin_shr (by omega) ?_)
  rw [show u32 (foldI x) = foldI x by rw [u32_def]; omega]
  obtain ⟨e1, e2, e3⟩ := shr32 hf (k := k) (by omega)
  rw [e1]
  unfold numL
  refine gIf_dec (fun hlt => ?_) (fun hge => ?_)
  · rw [if_pos hlt, i64_id (n := foldI x / _) (by omega) (by omega)]
    refine gCall_u (rfUnary_any h (by omega)) fun w1 ⟨v1, h1⟩ => ?_
    have hc : cl4096 (foldI x / ((2 ^ k : Nat) : Int)) = (foldI x / ((2 ^ k : Nat) : Int)).toNat := by unfold cl4096; split <;> omega
    rw [hc] at h1
    refine gCall_u (rfBits_any h1.1 hf (by rw [List.length_append, List.length_append, List.length_replicate, List.length_singleton]; omega)) fun w2 ⟨v2, h2⟩ => ⟨rfl, v2, ?_⟩
    rw [show cl32 (k : Int) = k by unfold cl32; split <;> omega] at h2
    have := h1.trans h2
    rwa [List.append_assoc] at this
  · rw [if_neg hge]
    refine ⟨fun i w1 => ∃ (j : Nat) (v' : Value), i = j ∧ j ≤ 24 ∧ WrS eB w w1 ad v v' (bs ++ List.replicate j 1), fun i _ => 24 - i.toNat, ⟨0, v, rfl, by omega, by simpa using h.step⟩, ?_⟩
    rintro _ i w1 ⟨j, v', rfl, hj, hW⟩
    refine gIf_dec (fun hlt => ?_) (fun hend => ?_)
    · rw [i64_id (n := (j : Int) + 1) (by omega) (by omega)]
      refine gCall_u (rfBit_any hW.1 (by simp; omega)) fun w2 ⟨v2, hW2⟩ => ⟨⟨j + 1, v2, by omega, by omega, ?_⟩, by dsimp only; omega⟩
      rw [List.replicate_succ', ← List.append_assoc]; exact hW.trans hW2
    · obtain rfl : j = 24 := by omega
      refine gCall_u (rfBits_any hW.1 hf (by simp; omega)) fun w2 ⟨v2, h2⟩ => ⟨rfl, v2, ?_⟩
      have := hW.trans h2
      rwa [List.append_assoc] at this
theorem rfCost_any {l0 : Value} {l : List Int} {k : Int} {w : World} (h : Nm .i32 w l0 l) (hl : l.length ≤ 1000000000) :
    Calls P n_valiseref10_Cost #[l0, .int .i64 k] w (fun e w' => e = .returned (.int .i64 (costL (cl24 k) l)) ∧ w' = w) := by
  have hk := cl24_le k
  refine of_valiseref10_Cost ?_
  rw [cl24a, show u64 (cl24 k : Int) = (cl24 k : Int) by rw [u64_def]; omega]
  refine ⟨fun n i w' => ∃ j : Nat, i = j ∧ j ≤ l.length ∧ n = costL (cl24 k) (l.take j) ∧ w' = w, fun _ i _ => l.length - i.toNat, ⟨0, rfl, by omega, rfl, rfl⟩, ?_⟩
  rintro _ _ i _ ⟨j, rfl, hj, rfl, rfl⟩
  refine gLen_nm h (gIf_dec (fun hlt => ?_) (fun hge => ⟨by rw [List.take_of_length_le (by omega)], rfl⟩))
  refine gIdx_nm h (by omega) hlt fun ad c _ => gLoad_i c ?_
  have hx := rd_i32 h.2 j
  have hf := foldI32 hx
  rw [i64_id (n := rd l j) (by omega) (by omega)]
  refine gCall_i0 (rfFold_any (by omega)) (gBin_shr (by omega) ?_)
  rw [show u32 (foldI (rd l j)) = foldI (rd l j) by rw [u32_def]; omega]
  obtain ⟨e1, e2, e3⟩ := shr32 hf (k := cl24 k) (by omega)
  rw [e1]
  have hb := costL_bd hk (l.take j)
  rw [List.length_take, Nat.min_eq_left hj] at hb
  have hs := costL_take (l := l) (k := cl24 k) (j := j) (by omega)
  unfold costN at hs
  rw [i64_id (n := (j : Int) + 1) (by omega) (by omega), i64_id (n := foldI _ / _) (by omega) (by omega)]
  refine gIf_dec (fun hq => ?_) (fun hq => ?_)
  · rw [if_pos hq] at hs
    rw [i64_id (n := _ + foldI _ / _) (by omega) (by omega), i64_id (n := _ + foldI _ / _ + 1) (by omega) (by omega), i64_id (by omega) (by omega)]
    exact ⟨⟨j + 1, by omega, by omega, by omega, rfl⟩, by dsimp only; omega⟩
  · rw [if_neg hq] at hs
    rw [i64_id (n := _ + 24) (by omega) (by omega), i64_id (by omega) (by omega)]
    exact ⟨⟨j + 1, by omega, by omega, by omega, rfl⟩, by dsimp only; omega⟩
theorem rfBest_any {l0 : Value} {l : List Int} {w : World} (h : Nm .i32 w l0 l) (hl : l.length ≤ 1000000000) :
    Calls P n_valiseref10_Best #[l0] w (fun e w' => e = .returned (.int .i64 (bestL l)) ∧ w' = w) := by
  refine of_valiseref10_Best ⟨fun b k w' => ∃ j : Nat, k = ((j + 1 : Nat) : Int) ∧ j ≤ 24 ∧ b = (bestU l j : Int) ∧ w' = w, fun _ k _ => 25 - k.toNat, ⟨0, rfl, by omega, rfl, rfl⟩, ?_⟩
  rintro _ _ k _ ⟨j, rfl, hj, rfl, rfl⟩
  have hb := bestU_le l j
  refine gIf_dec (fun hlt => gCall_i0 (rfCost_any h hl) (gCall_i0 (rfCost_any h hl) ?_)) (fun hge => ⟨by rw [show j = 24 by omega]; rfl, rfl⟩)
  rw [cl24_id (k := j + 1) (by omega), cl24_id (k := bestU l j) (by omega), i64_id (n := ((j + 1 : Nat) : Int) + 1) (by omega) (by omega)]
  refine gIf_dec (fun hc => ⟨⟨j + 1, rfl, by omega, ?_, rfl⟩, by dsimp only; omega⟩) (fun hc => ⟨⟨j + 1, rfl, by omega, ?_, rfl⟩, by dsimp only; omega⟩) <;> simp only [bestU, hc, if_true, if_false]
theorem B01.flat (l : List Int) {j : Nat} (h : j ≤ chN 64 l.length) : B01 (flatB l (List.range j)) := by rw [flatB_range l j h]; exact B01.pack _ _
theorem rfPack_any {l0 : Value} {l : List Int} {w : World} (h : Nm .i32 w l0 l) : Calls P n_valiseref10_Pack #[l0] w (TupE w (packE l)) := by
  refine of_valiseref10_Pack (gLen_nm h (gIf_dec (fun hbig => ?_) (fun hle => ?_)))
  · unfold packE
    rw [if_pos (by omega)]
    exact ⟨_, rfl, Ch.refl _ w, ON.nil _ _ _ _⟩
  have hle : l.length ≤ 1048576 := by omega
  refine fBox (Fr.start w) fun pk w1 f1 => ?_
  have f1 := f1.asW (e := eB) 0 (ad := pk) rfl
  refine ⟨fun i w' => ∃ (j : Nat) (v : Value), i = ((64 * j : Nat) : Int) ∧ j ≤ chN 64 l.length ∧ Fr w w' [wIt eB pk v (flatB l (List.range j))], fun i _ => l.length - i.toNat, ⟨0, _, rfl, by omega, f1⟩, ?_⟩
  rintro _ i w2 ⟨j, v, rfl, hj, f2⟩
  have hflen := flatB_len l (List.range j)
  rw [List.length_range] at hflen
  have hjl := chN_lt (len := l.length) (j := j) (n := 64) (by decide)
  have hN := h.ev f2.old
  refine gLen_nm h (gIf_dec (fun hlt => gLen_nm h ?_) (fun hge => ?_))
  · have hmin : (if (l.length : Int) < i64 (((64 * j : Nat) : Int) + 64) then (l.length : Int) else i64 (((64 * j : Nat) : Int) + 64)) = ((min (64 * j + 64) l.length : Nat) : Int) := by
      rw [i64_id (by omega) (by omega)]; split <;> omega
    rw [hmin]
    have hsub := hN.sub (64 * j) (min (64 * j + 64) l.length) (by omega) (by omega)
    have hpart : (l.drop (64 * j)).take (min (64 * j + 64) l.length - 64 * j) = part64 l j := by
      unfold part64
      rw [Nat.mul_comm j 64]
      by_cases hc : 64 * j + 64 ≤ l.length
      · rw [Nat.min_eq_left hc, Nat.add_sub_cancel_left]
      · rw [Nat.min_eq_right (by omega), List.take_of_length_le (by simp), List.take_of_length_le (by simp; omega)]
    rw [hpart] at hsub
    obtain ⟨sa, sc, rfl, hsc⟩ := h.shape
    refine gSlice_any (sz := 1) (l := 64 * j) (h := min (64 * j + 64) l.length) (.inr ⟨_, rfl⟩) (.inr ⟨_, rfl⟩) (by omega) (by omega) ?_ (by kernel_rfl)
    have hpl := part64_len l j
    have hbl := bestL_le (part64 l j)
    refine gCall_i0 (rfBest_any hsub (by omega)) ?_
    rw [show u32 ((bestL (part64 l j) : Nat) : Int) = ((bestL (part64 l j) : Nat) : Int) by rw [u32_def]; omega]
    refine gCall_u (rfBits_any (f2.get 0 rfl) (by omega) (by omega)) fun w3 ⟨v3, g3⟩ => ?_
    rw [show cl32 5 = 5 by decide] at g3
    have f3 := f2.wr 0 rfl g3
    refine ⟨fun i w' => ∃ (t : Nat) (v' : Value), i = t ∧ t ≤ (part64 l j).length ∧ Fr w w' [wIt eB pk v' (flatB l (List.range j) ++ bitsL (bestL (part64 l j)) 5 ++ numsTo (part64 l j) (bestL (part64 l j)) t)],
      fun i _ => (part64 l j).length - i.toNat, ⟨0, v3, rfl, by omega, by simpa [numsTo] using f3⟩, ?_⟩
    rintro _ i w4 ⟨t, v4, rfl, ht, f4⟩
    have hsub4 : Nm .i32 w4 (subV 1 (.slice sa l.length sc) (64 * j) (min (64 * j + 64) l.length)) (part64 l j) := by
      have := (h.ev f4.old).sub (64 * j) (min (64 * j + 64) l.length) (by omega) (by omega)
      rwa [hpart] at this
    have hnl := numsTo_len (part64 l j) hbl t
    refine gLen_nm hsub4 (gIf_dec (fun hlt2 => ?_) (fun hge => ?_))
    · refine gIdx_nm hsub4 (by omega) hlt2 fun ad c _ => gLoad_i c ?_
      refine gCall_u (rfput_any (f4.get 0 rfl) (rd_i32 hsub4.2 t) hbl (by simp [bitsL_len]; omega)) fun w5 ⟨v5, g5⟩ => ?_
      rw [i64_id (n := (t : Int) + 1) (by omega) (by omega)]
      refine ⟨⟨t + 1, v5, rfl, by omega, ?_⟩, by dsimp only; omega⟩
      have e : flatB l (List.range j) ++ bitsL (bestL (part64 l j)) 5 ++ numsTo (part64 l j) (bestL (part64 l j)) (t + 1) = flatB l (List.range j) ++ bitsL (bestL (part64 l j)) 5 ++ numsTo (part64 l j) (bestL (part64 l j)) t ++ numL (rd (part64 l j) t) (bestL (part64 l j)) := by rw [numsTo, List.append_assoc (_ ++ _)]
      rw [e]
      exact f4.wr 0 rfl g5
    · have ht2 : t = (part64 l j).length := by omega
      subst ht2
      rw [i64_id (n := ((64 * j : Nat) : Int) + 64) (by omega) (by omega)]
      refine ⟨⟨j + 1, v4, by omega, by omega, ?_⟩, by dsimp only; omega⟩
      rw [List.range_succ, flatB_snoc, ← List.append_assoc]
      exact f4
  · have : j = chN 64 l.length := by omega
    subst this
    have hcn : chN 64 l.length ≤ l.length := by unfold chN; omega
    refine gCall_v (rfBytes_any (f2.get 0 rfl) (B01.flat l (Nat.le_refl _)) (by omega)) fun y w3 ⟨h3, xs, hy, hp⟩ => ?_
    rw [flatB_all] at hp
    unfold packE
    rw [if_neg (by omega), pkB_eq hy.2 hp]
    have f3 := f2.newO h3 hy
    exact ⟨y, rfl, f3.old, f3.on 0 rfl⟩
theorem rfUnpack_any {b0 : Value} {xs : List Int} {n : Int} {w : World} (hb : Nm .u8 w b0 xs) (hl : xs.length ≤ 1000000000) : Calls P n_valiseref10_Unpack #[b0, .int .i64 n] w (TupI w (unpE false xs n)) := by
  unfold unpE
  refine of_valiseref10_Unpack (gIf_dec (fun h0 => by rw [if_pos h0]; exact TupI.err w w (Ch.refl _ w) 1) (fun h0 => ?_))
  rw [if_neg h0]
  refine gIf_dec (fun h1 => by rw [if_pos h1]; exact TupI.err w w (Ch.refl _ w) 5) (fun h1 => ?_)
  rw [if_neg h1]
  obtain ⟨m, rfl⟩ := Int.eq_ofNat_of_zero_le (show 0 ≤ n by omega)
  rw [Int.toNat_natCast]
  refine fApp0 (Fr.start w) hb (by omega) fun y w1 f1 => ⟨(f1.on 0 rfl).one, fBox f1 fun pad w2 f2 => ?_⟩
  have f2 := f2.nil0 .i32 e32
  refine ⟨fun lv kv iv ww => ∃ (zs : List Int) (k a : Nat), kv = k ∧ k ≤ 31 ∧ iv = (zs.length : Int) ∧ zs.length ≤ m ∧ a ≤ 8 * xs.length ∧ (readN false xs (m - zs.length) zs.length k a).map (zs ++ ·) = readN false xs m 0 0 0 ∧
      Fr w ww [oIt .i32 e32 lv zs, sIt pad [y, .int .i64 a, .int .i64 0], oIt .u8 eB y xs], fun _ _ iv _ => m - iv.toNat, ⟨[], 0, 0, rfl, by omega, rfl, by simp, by omega, ?_, f2⟩, ?_⟩
  · show (readN false xs m 0 0 0).map _ = _
    cases readN false xs m 0 0 0 <;> rfl
  rintro _ lv kv iv w3 ⟨zs, k, a, rfl, hk, rfl, hzm, ha, hr, f3⟩
  have hz := f3.nm 0 rfl
  refine gIf_dec (fun hlt => ?_) (fun hge => ?_)
  · have hk31 : 0 ≤ (headK xs zs.length k a).1 ∧ (headK xs zs.length k a).1 ≤ 31 := by
      by_cases hk24 : k ≤ 24
      · exact headK_rng hk24
      · by_cases e : zs.length % 64 = 0
        · have := headK_rng (xs := xs) (i := zs.length) (k := 0) (a := a) (by omega)
          unfold headK at this ⊢
          rwa [if_pos e] at this ⊢
        · unfold headK; rw [if_neg e]; dsimp only; omega
    refine ⟨fun kv ww => kv = (headK xs zs.length k a).1 ∧ (headK xs zs.length k a).2.1 ≤ 8 * xs.length ∧ Fr w ww [oIt .i32 e32 lv zs, sIt pad [y, .int .i64 (headK xs zs.length k a).2.1, .int .i64 (headK xs zs.length k a).2.2], oIt .u8 eB y xs], gIf_eq (fun e => gCall_i (fBits_any (f3.pr 1 2 rfl rfl (by decide) ha hl)) fun w4 h4 => ?_) (fun e => ?_), ?_⟩
    · rw [tmod64] at e
      have f4 := f3.ps 1 rfl h4
      unfold headK at hk31 ⊢
      rw [if_pos e] at hk31 ⊢
      exact ⟨i64_id (by omega) (by omega), h4.1.2.2.2.1, f4⟩
    · rw [Ne, tmod64] at e
      unfold headK
      rw [if_neg e]
      exact ⟨rfl, ha, f3⟩
    rintro _ kv w4 ⟨rfl, ha4, f4⟩
    obtain ⟨q, hq⟩ := Int.eq_ofNat_of_zero_le hk31.1
    rw [hq]
    have hmin : (if 24 < (q : Int) then 24 else (q : Int)) = ((min q 24 : Nat) : Int) := by split <;> omega
    rw [hmin, show u64 ((min q 24 : Nat) : Int) = ((min q 24 : Nat) : Int) by rw [u64_def]; omega]
    have hm1 : m - zs.length = (m - (zs.length + 1)) + 1 := by omega
    rw [hm1, readN_step] at hr
    unfold stepR at hr
    dsimp only at hr
    rw [hq, Int.toNat_natCast] at hr
    generalize (headK xs zs.length k a).2.1 = a1 at *
    generalize (headK xs zs.length k a).2.2 = er1 at *
    have hu := unaryR_rng xs a1 er1
    have hin := nextV_rng xs a1 er1 (min q 24)
    refine gCall_i (fUnary_any (f4.pr 1 2 rfl rfl (by decide) ha4 hl)) fun w5 h5 => ?_
    have f5 := f4.ps 1 rfl h5
    have hp5 := f5.pr 1 2 rfl rfl (by decide) h5.1.2.2.2.1 hl
    refine ⟨fun u ww => (0 ≤ u ∧ u < 4294967296) ∧ unf u = (nextV xs a1 er1 (min q 24)).1 ∧ (nextV xs a1 er1 (min q 24)).2.1 ≤ 8 * xs.length ∧ Fr w ww [oIt .i32 e32 lv zs, sIt pad [y, .int .i64 (nextV xs a1 er1 (min q 24)).2.1, .int .i64 (nextV xs a1 er1 (min q 24)).2.2], oIt .u8 eB y xs], gIf_dec (fun hlt => ?_) (fun hge => ?_), ?_⟩
    · rw [show u32 (unaryR xs a1 er1 24).1 = (unaryR xs a1 er1 24).1 by rw [u32_def]; omega]
      refine gBin_shl (by omega) (gCall_i (fBits_any hp5) fun w6 h6 => ?_)
      have e : ¬ (unaryR xs a1 er1 24).1 = 24 := by omega
      unfold nextV
      dsimp only
      rw [if_neg e]
      exact ⟨iOr_u32 _ _, rfl, h6.1.2.2.2.1, f5.ps 1 rfl h6⟩
    · refine gCall_i (fBits_any hp5) fun w6 h6 => ?_
      have e : (unaryR xs a1 er1 24).1 = 24 := by omega
      unfold nextV
      dsimp only
      rw [if_pos e]
      exact ⟨bitsR_bd 32, rfl, h6.1.2.2.2.1, f5.ps 1 rfl h6⟩
    rintro _ u w6 ⟨hur, huf, ha6, f6⟩
    refine gNil_some (fLoad_i (n := (nextV xs a1 er1 (min q 24)).2.2) f6 1 2 rfl rfl (gIf_neq (fun hne => ?_) (fun he => ?_)))
    · rw [if_pos hne] at hr
      rw [← hr]; exact TupI.err w w6 f6.old 4
    · rw [if_neg (by simpa using he)] at hr
      dsimp only at hr
      rw [if_neg (by simp), Option.map_map] at hr
      rw [show u64 u = u by rw [u64_def]; omega]
      refine gCall_i0 (rfUnfold_any (by omega)) ?_
      have hv : i32 (unfoldI u) = (nextV xs a1 er1 (min q 24)).1 := huf
      rw [hv]
      refine fLit_n [(nextV xs a1 er1 (min q 24)).1] f6 rfl rfl (fun x hx => by simp at hx; subst hx; exact i32i hin) fun t w7 f7 => fApp f7 1 rfl (f7.nm 0 rfl) (by simp; omega) fun l2 w8 f8 => ?_
      have f8 := f8.drop 0
      rw [he] at f8
      rw [i64_id (n := (zs.length : Int) + 1) (by omega) (by omega)]
      refine ⟨⟨zs ++ [(nextV xs a1 er1 (min q 24)).1], q, (nextV xs a1 er1 (min q 24)).2.1, rfl, by omega, by simp, by simp; omega, ha6, ?_, f8⟩, by dsimp only; omega⟩
      rw [← hr, List.length_append, List.length_singleton]
      congr 1
      funext l; simp
  · have hzl : zs.length = m := by omega
    rw [hzl, Nat.sub_self, readN] at hr
    have hr' : readN false xs m 0 0 0 = some zs := by rw [← hr]; simp
    rw [hr']
    have hp : packE zs = (pkB (packTo zs zs.length), 0) := by unfold packE; rw [if_neg (by omega)]
    refine fCallTE f3 (rfPack_any hz) fun v w4 f4 => ?_
    rw [hp] at f4
    refine gCall_b (Bytes_any (f4.nm 0 rfl) (hb.ev f4.old)) fun w5 e5 => ?_
    subst e5
    dsimp only
    refine gIf_ndec (fun hne => ?_) (fun he => ?_)
    · rw [if_neg hne]; exact TupI.err w _ f4.old 4
    · rw [if_pos he]; exact ⟨lv, rfl, f4.old, f4.on 1 rfl⟩
end Go.Proofs.YtnhlnpjfnoabcaaV
