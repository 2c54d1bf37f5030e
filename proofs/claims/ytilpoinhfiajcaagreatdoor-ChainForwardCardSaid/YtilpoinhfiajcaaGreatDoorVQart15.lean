import Derived.Test.YtilpoinhfiajcaaGreatDoorVQart14
set_option linter.unusedVariables false
set_option linter.unusedSimpArgs false
/- The other forms of the packs: numbers, texts, Apart, table and words. -/
namespace Go.Proofs.YtilpoinhfiajcaaGreatDoorV
open Go Go.RowKit
section
variable {w0 w : World} {F : List It}
theorem refNum_any {q : Nat} (h : q < 18446744073709551616) : Calls P n_valiseref02_Num #[.int .u64 (q : Int)] w (NewB w (numB q)) := by
  refine of_valiseref02_Num ⟨fun v out w' => ∃ (p : Nat) (pre : List Int), v = (p : Int) ∧ p ≤ q ∧ pre ++ numB p = numB q ∧ Fr w w' [oIt .u8 eB out pre], fun v _ _ => v.toNat, ⟨q, [], rfl, Nat.le_refl _, rfl, (Fr.start w).nil0 .u8 eB⟩, ?_⟩
  rintro _ v out w1 ⟨p, pre, rfl, hp, he, f1⟩
  have hpl : pre.length ≤ 10 := by
    have h1 := congrArg List.length he
    rw [List.length_append] at h1
    have := numB_len64 h
    omega
  refine gIf_dec (fun hge => ?_) (fun hlt => ?_)
  · have e1 : u8 (u8 (Int.tmod (p : Int) 128) + 128) = ((p % 128 + 128 : Nat) : Int) := by rw [Int.tmod_eq_emod_of_nonneg (by omega), u8_def, u8_def]; omega
    have e2 : u64 (Int.tdiv (p : Int) 128) = ((p / 128 : Nat) : Int) := by rw [Int.tdiv_eq_ediv_of_nonneg (by omega), u64_def]; omega
    rw [e1, e2]
    refine fAppB rfl f1 (by omega) (by omega) fun b' w2 f2 => ⟨⟨p / 128, _, rfl, by omega, ?_, f2⟩, by dsimp only; omega⟩
    rw [← he, numB_ge (v := p) (by omega), List.append_assoc]; rfl
  · have e1 : u8 (p : Int) = p := by rw [u8_def]; omega
    rw [e1]
    refine fAppB rfl f1 (by omega) (by omega) fun b' w2 f2 => ⟨b', rfl, f2.old, ?_⟩
    rw [← he, numB_lt (by omega)]; exact f2.on 0 rfl
theorem refText_any {b : Value} {xs : List Int} (hb : Nm .u8 w b xs) (hl : xs.length ≤ 1000000000) : Calls P n_valiseref02_Text #[b] w (NewB w (numB xs.length ++ xs)) := by
  refine of_valiseref02_Text (gLen_nm hb ?_)
  have hn := numB_len64 (n := xs.length) (by omega)
  rw [show u64 (xs.length : Int) = (xs.length : Int) by rw [u64_def]; omega]
  refine gCall_v (refNum_any (by omega)) fun t w1 ⟨h1, o1⟩ => fApp ((Fr.start w).newO h1 o1) 0 rfl (hb.ev h1) (by omega) fun v w2 f2 => ⟨v, rfl, f2.old, f2.on 0 rfl⟩
theorem refApart_any {b : Value} {xs : List Int} {n : Int} (hb : Nm .u8 w b xs) (hl : xs.length ≤ 1000000000) : Calls P n_valiseref18_Apart #[b, .int .i64 n] w (NewB w (apartL xs (cl16 n))) := by
  refine of_valiseref18_Apart (gLen_nm hb ?_)
  rw [cl16_eq]
  have hn := cl16_bd n
  generalize cl16 n = N at hn
  refine gBin_quo (by omega) ?_
  rw [quo_nat hl]
  obtain ⟨q, hq⟩ : ∃ q, q = xs.length / N := ⟨_, rfl⟩
  have hqn : q * N ≤ xs.length := by rw [hq]; exact Nat.div_mul_le_self _ _
  have hql : q ≤ xs.length := by rw [hq]; exact Nat.div_le_self _ _
  obtain ⟨A, hA⟩ : ∃ A, A = apartL xs N := ⟨_, rfl⟩
  have hAl : A.length = xs.length := by rw [hA, apartL_len]
  rw [← hq, ← hA]
  have hat : ∀ {j a : Nat}, a < q → j < N → j * q + a < q * N ∧ ∀ h : j * q + a < A.length, A[j * q + a] = rd xs ((a * N + j : Nat) : Int) := fun {j a} ha hj => by
    obtain ⟨g1, g2, g3⟩ := grid (n := q) (m := N) (i := j) (k := a) hj ha
    refine ⟨g1, fun h => ?_⟩
    rw [← rd_nat A _ h, hA]
    unfold apartL
    rw [rd_tab (by omega), apAt, ← hq, if_pos (show j * q + a < N * q by rw [Nat.mul_comm N q]; exact g1), g2, g3]
  refine ⟨fun out k w' => ∃ j : Nat, k = (j : Int) ∧ j ≤ N ∧ Fr w w' [oIt .u8 eB out (A.take (j * q))], fun _ k _ => (N - k).toNat, ⟨0, rfl, Nat.zero_le _, by rw [Nat.zero_mul, List.take_zero]; exact (Fr.start w).nil0 .u8 eB⟩, ?_⟩
  rintro _ out k w1 ⟨j, rfl, hj, f1⟩
  have hjq : j * q ≤ q * N := by rw [Nat.mul_comm q N]; exact Nat.mul_le_mul_right _ hj
  refine gIf_dec (fun hlt => ⟨fun out i w' => ∃ a : Nat, i = (a : Int) ∧ a ≤ q ∧ Fr w w' [oIt .u8 eB out (A.take (j * q + a))], fun _ i _ => (q - i).toNat, ⟨0, rfl, Nat.zero_le _, f1⟩, ?_⟩) (fun hge => ?_)
  · rintro _ out2 i w2 ⟨a, rfl, ha, f2⟩
    refine gIf_dec (fun hlt2 => ?_) (fun hge2 => ?_)
    · obtain ⟨g1, g2⟩ := hat (j := j) (a := a) (by omega) (by omega)
      have g3 := grid (n := N) (m := q) (i := a) (k := j) (by omega) (by omega)
      have g4 : a * N + j < xs.length := Nat.lt_of_lt_of_le g3.1 (by rw [Nat.mul_comm]; exact hqn)
      have e0 : i64 ((a : Int) * (N : Int)) = ((a * N : Nat) : Int) := by rw [← Int.natCast_mul]; exact i64_id (by omega) (by omega)
      have e1 : i64 (i64 ((a : Int) * (N : Int)) + (j : Int)) = ((a * N + j : Nat) : Int) := by rw [e0, i64_id (by omega) (by omega)]; omega
      rw [e1]
      refine gGet (hb.ev f2.old) (by omega) (by omega) (fAppB rfl f2 (rd_u8 hb.2 _) (by rw [List.length_take]; omega) fun b' w3 f3 => ⟨⟨a + 1, by rw [i64_id (by omega) (by omega)]; omega, by omega, ?_⟩, by dsimp only; rw [i64_id (by omega) (by omega)]; omega⟩)
      rw [← g2 (by omega), ← List.take_succ_eq_append_getElem (by omega)] at f3
      exact f3
    · obtain rfl : a = q := by omega
      refine ⟨⟨j + 1, by rw [i64_id (by omega) (by omega)]; omega, by omega, ?_⟩, by dsimp only; rw [i64_id (by omega) (by omega)]; omega⟩
      rw [Nat.succ_mul]; exact f2
  · obtain rfl : j = N := by omega
    have e0 : i64 ((q : Int) * (j : Int)) = ((q * j : Nat) : Int) := by rw [← Int.natCast_mul]; exact i64_id (by omega) (by omega)
    rw [e0]
    refine gSlice_nm (hb.ev f1.old) (q * j) xs.length (.inr ⟨_, rfl⟩) (.inl ⟨rfl, rfl⟩) hqn (Nat.le_refl _) fun hs => ?_
    rw [List.take_of_length_le (by rw [List.length_drop]; exact Nat.le_refl _)] at hs
    refine fApp f1 0 rfl hs (by rw [List.length_take, List.length_drop]; omega) fun v w2 f2 => ⟨v, rfl, f2.old, ?_⟩
    have e : A.take (j * q) ++ xs.drop (q * j) = A := by
      have : A.drop (j * q) = xs.drop (q * j) := by
        refine List.ext_getElem (by rw [List.length_drop, List.length_drop, hAl, Nat.mul_comm]) fun i h1 h2 => ?_
        rw [List.length_drop] at h1 h2
        rw [List.getElem_drop, List.getElem_drop, ← rd_nat A _ (by omega), ← rd_nat xs _ (by omega), hA]
        unfold apartL
        rw [rd_tab (by omega), apAt, ← hq, if_neg (by omega), Nat.mul_comm q j]
      rw [← this, List.take_append_drop]
    have h3 := f2.on 0 rfl
    rw [e] at h3
    exact h3
theorem refPackT_any {b : Value} {xs : List Int} (hb : Nm .u8 w b xs) (hl : xs.length ≤ 1000000000) : Calls P n_valiseref20_Pack #[b] w (TupB w (if packOk xs = true then (packL xs, true) else ([], false))) := by
  refine of_valiseref20_Pack (gCall_i (rWidth_any hb hl) fun w1 h1 => ?_)
  have hwb := widI_bd xs
  have no : packOk xs = false → TupB w (if packOk xs = true then (packL xs, true) else ([], false)) (.returned (.tuple #[.slice none 0 0, .bool false])) w1 := fun h => by
    rw [if_neg (by rw [h]; decide)]; exact ⟨_, rfl, h1, ON.nil _ _ _ _⟩
  refine ⟨fun w' => w' = w1 ∧ packOk xs = true, gIf_neqq (fun hne => gLen_nm hb (gIf_dec (fun hg => no (by simp [packOk]; omega)) (fun hg => ⟨rfl, by simp [packOk, hne]; omega⟩))) (fun h0 => no (by simp [packOk, h0])), ?_⟩
  rintro _ w2 ⟨hw2, hok⟩
  obtain rfl : w1 = w2 := hw2.symm
  have hok2 : widI xs ≠ 0 ∧ xs.length ≤ 1048576 := by simpa [packOk] using hok
  rw [if_pos hok]
  have l1 := numB_len64 (n := (widI xs).toNat) (by omega)
  have l2 := numB_len64 (n := xs.length) (by omega)
  have hdl := deltaL_len xs (wOf (widI xs))
  rw [show u64 (widI xs) = (((widI xs).toNat : Nat) : Int) by rw [u64_def]; omega]
  refine gCall_v (refNum_any (by omega)) fun t17 w3 ⟨h3, o3⟩ => gLen_nm hb ?_
  rw [show u64 (xs.length : Int) = (xs.length : Int) by rw [u64_def]; omega]
  refine gCall_v (refNum_any (by omega)) fun t21 w4 ⟨h4, o4⟩ => ?_
  have f4 := (((Fr.start w).ev h1).newO h3 o3).newO h4 o4
  refine fApp f4 1 rfl (f4.nm 0 rfl) (by omega) fun t22 w5 f5 => ?_
  refine gCall_v (rDelta_any (hb.ev f5.old) hl (by omega)) fun t26 w6 ⟨h6, o6⟩ => gCall_v (refApart_any o6.nm (by omega)) fun t28 w7 ⟨h7, o7⟩ => ?_
  have f7 := (f5.ev h6).newO h7 o7
  refine fApp f7 2 rfl (f7.nm 0 rfl) (by rw [apartL_len, List.length_append]; omega) fun t29 w8 f8 => ⟨t29, rfl, f8.old, ?_⟩
  exact f8.on 2 rfl
theorem refPlace_any {v u : Value} {L : List (List Int)} {us : List Int} (hv : NL .u8 w v L) (hu : Nm .u8 w u us) : Calls P n_valiseref21_place #[v, u] w (fun e w' => e = .returned (.int .i64 (if idxW (L.take 64) us < (L.take 64).length then (idxW (L.take 64) us : Int) else -1)) ∧ w' = w) := by
  have hMl : (L.take 64).length = min 64 L.length := List.length_take
  refine of_valiseref21_place ⟨fun i w' => ∃ k : Nat, i = (k : Int) ∧ k ≤ (L.take 64).length ∧ (∀ j (hj : j < k) (hl : j < (L.take 64).length), (L.take 64)[j] ≠ us) ∧ w' = w, fun i _ => (64 - i).toNat, ⟨0, rfl, Nat.zero_le _, (fun j hj => by omega), rfl⟩, ?_⟩
  rintro _ i w1 ⟨k, rfl, hk, hall, hw1⟩
  obtain rfl : w = w1 := hw1.symm
  have none : (L.take 64).length ≤ k → Ending.returned (.int .i64 (-1)) = .returned (.int .i64 (if idxW (L.take 64) us < (L.take 64).length then (idxW (L.take 64) us : Int) else -1)) ∧ w = w := fun h => by
    rw [idxW_none (u := us) fun j hj he => hall j (by omega) hj he, if_neg (by omega)]
    exact ⟨rfl, rfl⟩
  refine gLen_nl hv (gIf_dec (fun hlt => gIf_dec (fun h64 => hv.at (k := k) (by omega) fun x hx => gCall_b0 (Bytes_any hx hu) (gIf_b (fun h => ?_) (fun h => ?_))) (fun h64 => none (by omega))) (fun hge => none (by omega)))
  · have h := of_decide_eq_true h
    have e : idxW (L.take 64) us = k := idxW_at (by omega) (fun j hj he => hall j hj (by omega) he) (by rw [List.getElem_take]; exact h)
    rw [e, if_pos (by omega)]
    exact ⟨rfl, rfl⟩
  · have h := of_decide_eq_false h
    refine ⟨⟨k + 1, by rw [i64_id (by omega) (by omega)]; omega, by omega, fun j hj hl he => ?_, rfl⟩, by dsimp only; rw [i64_id (by omega) (by omega)]; omega⟩
    by_cases hjk : j = k
    · subst hjk; rw [List.getElem_take] at he; exact h he
    · exact hall j (by omega) hl he
theorem refApply_any {b v : Value} {L : List (List Int)} {xs : List Int} (hb : Nm .u8 w b xs) (hl : xs.length ≤ 10000000) (hv : NL .u8 w v L) : Calls P n_valiseref21_Apply #[b, v] w (NewB w (applyW (L.take 64) xs)) := by
  obtain ⟨M, hM⟩ : ∃ M, M = L.take 64 := ⟨_, rfl⟩
  have hMl : M.length ≤ 64 := by rw [hM, List.length_take]; omega
  rw [← hM]
  refine of_valiseref21_Apply ⟨fun out i w' => ∃ (p : Nat) (ys : List Int), i = (p : Int) ∧ p ≤ xs.length ∧ ys ++ applyW M (xs.drop p) = applyW M xs ∧ ys.length ≤ 2 * p ∧ Fr w w' [oIt .u8 eB out ys], fun _ i _ => (xs.length - i).toNat, ⟨0, [], rfl, Nat.zero_le _, by rw [List.drop_zero]; rfl, Nat.le_refl _, (Fr.start w).nil0 .u8 eB⟩, ?_⟩
  rintro _ out i w1 ⟨p, ys, rfl, hp, hys, hyl, f1⟩
  have hdl : (xs.drop p).length = xs.length - p := List.length_drop
  have hb1 := hb.ev f1.old
  refine gLen_nm hb1 (gIf_dec (fun hlt => gCall_i0 (refRun_any hb1 hp (by omega)) ?_) (fun hge => ?_))
  · have hrl := runN_le (xs.drop p)
    have hne : xs.drop p ≠ [] := fun h => by rw [h] at hdl; simp at hdl; omega
    have hst := applyW_step (L := M) hne
    have htl := tokW_len M (xs.drop p)
    have htok : tokW M (xs.drop p) = if 0 < runN (xs.drop p) ∧ idxW M ((xs.drop p).take (runN (xs.drop p))) < M.length then [128 + (idxW M ((xs.drop p).take (runN (xs.drop p))) : Int)] else if 0 < runN (xs.drop p) then (xs.drop p).take (runN (xs.drop p)) else if rd (xs.drop p) 0 ≥ 128 then [255, rd (xs.drop p) 0] else [rd (xs.drop p) 0] := rfl
    have hmx : mxR (xs.drop p) = if 1 > runN (xs.drop p) then 1 else runN (xs.drop p) := rfl
    obtain ⟨n, hn⟩ : ∃ n, n = runN (xs.drop p) := ⟨_, rfl⟩
    rw [← hn] at hrl htok hmx ⊢
    have h00 : rd (xs.drop p) 0 = rd xs (p : Int) := rd_from xs p 0
    rw [h00] at htok
    have next : ∀ {out' : Value} {w' : World} {z : Int}, z = ((p + mxR (xs.drop p) : Nat) : Int) → Fr w w' [oIt .u8 eB out' (ys ++ tokW M (xs.drop p))] → (∃ (p' : Nat) (ys : List Int), z = (p' : Int) ∧ p' ≤ xs.length ∧ ys ++ applyW M (xs.drop p') = applyW M xs ∧ ys.length ≤ 2 * p' ∧ Fr w w' [oIt .u8 eB out' ys]) ∧ (xs.length - z).toNat < (xs.length - (p : Int)).toNat := fun {out' w' z} hz f => by
      have hm1 : 1 ≤ mxR (xs.drop p) ∧ mxR (xs.drop p) ≤ xs.length - p := by rw [hmx]; split <;> omega
      refine ⟨⟨p + mxR (xs.drop p), _, hz, by omega, ?_, ?_, f⟩, by omega⟩
      · rw [List.append_assoc, ← List.drop_drop, ← hst]; exact hys
      · rw [List.length_append]; omega
    have r0 := rd_u8 hb.2 (p : Int)
    refine gIf_dec (fun h0 => ?_) (fun h0 => ?_)
    · have hn0 : 0 < n := by omega
      have hm : mxR (xs.drop p) = n := by rw [hmx, if_neg (by omega)]
      rw [hm] at next
      refine gSlice_nm hb1 p (p + n) (.inr ⟨_, rfl⟩) (.inr ⟨_, rfl⟩) (by omega) (by omega) fun hs => ?_
      rw [show p + n - p = n by omega] at hs
      refine gCall_i0 (refPlace_any (hv.ev f1.old) hs) ?_
      rw [← hM]
      by_cases hq : idxW M ((xs.drop p).take n) < M.length
      · rw [if_pos hq]
        rw [if_pos ⟨hn0, hq⟩] at htok
        obtain ⟨q, hqe⟩ : ∃ q, q = idxW M ((xs.drop p).take n) := ⟨_, rfl⟩
        rw [← hqe] at hq htok ⊢
        refine gIf_dec (fun _ => ?_) (fun h => by omega)
        rw [i64_id (n := 128 + (q : Int)) (by omega) (by omega), show u8 (128 + (q : Int)) = 128 + (q : Int) by rw [u8_def]; omega]
        refine fAppB rfl f1 (by omega) (by omega) fun b' w2 f2 => next rfl ?_
        rw [htok]; exact f2
      · rw [if_neg hq]
        rw [if_neg fun h => hq h.2, if_pos hn0] at htok
        refine gIf_dec (fun h => by omega) (fun _ => gSlice_nm hb1 p (p + n) (.inr ⟨_, rfl⟩) (.inr ⟨_, rfl⟩) (by omega) (by omega) fun hs2 => ?_)
        rw [show p + n - p = n by omega] at hs2
        refine fApp f1 0 rfl hs2 (by rw [List.length_take]; omega) fun b' w2 f2 => next rfl ?_
        rw [htok]; exact f2
    · have hm : mxR (xs.drop p) = 1 := by rw [hmx, if_pos (by omega)]
      rw [hm] at next
      rw [if_neg fun h => by omega, if_neg (by omega)] at htok
      have e1 : i64 ((p : Int) + 1) = ((p + 1 : Nat) : Int) := by rw [i64_id (by omega) (by omega)]; omega
      refine gGet hb1 (by omega) (by omega) (gIf_dec (fun h128 => ?_) (fun h128 => ?_))
      · rw [if_pos h128] at htok
        refine fAppB rfl f1 (by omega) (by omega) fun b' w2 f2 => gGet (hb.ev f2.old) (by omega) (by omega) (fAppB rfl f2 r0 (by rw [List.length_append, List.length_singleton]; omega) fun b2 w3 f3 => next e1 ?_)
        rw [htok]
        rw [List.append_assoc] at f3; exact f3
      · rw [if_neg h128] at htok
        refine gGet hb1 (by omega) (by omega) (fAppB rfl f1 r0 (by omega) fun b2 w3 f3 => next e1 ?_)
        rw [htok]; exact f3
  · have hnil : xs.drop p = [] := List.eq_nil_of_length_eq_zero (by omega)
    rw [hnil, applyW_nil, List.append_nil] at hys
    subst hys
    exact ⟨out, rfl, f1.old, f1.on 0 rfl⟩
theorem refPackW_any {b : Value} {xs : List Int} (hb : Nm .u8 w b xs) (hl : xs.length ≤ 1000000) : Calls P n_valiseref21_Pack #[b] w (TupB w (packWd xs)) := by
  refine of_valiseref21_Pack (gLen_nm hb (gIf_dec (fun h => by omega) (fun _ => gCall_v (refFind_any hb hl) fun t w1 ⟨h1, n1⟩ => gLen_nl n1 (gIf_eq (fun h0 => ?_) (fun h0 => gLen_nl n1 ?_)))))
  · have e : findW xs = [] := List.eq_nil_of_length_eq_zero (by omega)
    unfold packWd
    rw [if_pos (.inl e)]
    exact ⟨_, rfl, h1, ON.nil _ _ _ _⟩
  have hne : findW xs ≠ [] := fun h => h0 (by rw [h]; rfl)
  obtain ⟨hL64, hLu⟩ := findW_rg xs
  have hal := applyW_len (findW xs) xs
  have htl : ∀ k, (txtB ((findW xs).take k)).length ≤ 64 * 34 := fun k => Nat.le_trans (txtB_len fun u hu => (hLu u (List.mem_of_mem_take hu)).2) (Nat.mul_le_mul_right _ (by rw [List.length_take]; omega))
  have hn := numB_len64 (n := (findW xs).length) (by omega)
  have ep : packWd xs = (numB (findW xs).length ++ txtB (findW xs) ++ applyW (findW xs) xs, true) := by
    unfold packWd
    rw [if_neg fun h => by rcases h with h | h; exact hne h; omega]
  rw [show u64 ((findW xs).length : Int) = ((findW xs).length : Int) by rw [u64_def]; omega]
  refine gCall_v (refNum_any (by omega)) fun t18 w2 ⟨h2, o2⟩ => ?_
  refine ⟨fun out i w' => ∃ k : Nat, i = (k : Int) ∧ k ≤ (findW xs).length ∧ Fr w1 w' [oIt .u8 eB out (numB (findW xs).length ++ txtB ((findW xs).take k))], fun _ i _ => ((findW xs).length - i).toNat, ⟨0, rfl, Nat.zero_le _, ?_⟩, ?_⟩
  · rw [List.take_zero, show txtB [] = [] from rfl, List.append_nil]
    exact (Fr.start w1).newO h2 o2
  rintro _ out i w3 ⟨k, rfl, hk, f3⟩
  have n3 := n1.ev f3.old
  have hk2 := htl k
  refine gLen_nl n3 (gIf_dec (fun hlt => n3.at (k := k) (by omega) fun u hu => ?_) (fun hge => ?_))
  · have hkl : k < (findW xs).length := by omega
    have hul := (hLu _ (List.getElem_mem hkl)).2
    have hn2 := numB_len64 (n := (findW xs)[k].length) (by omega)
    refine gCall_v (refText_any hu (by omega)) fun t30 w4 ⟨h4, o4⟩ => ?_
    have f4 := f3.newO h4 o4
    refine fApp f4 1 rfl (f4.nm 0 rfl) (by rw [List.length_append, List.length_append]; omega) fun v w5 f5 => ⟨⟨k + 1, by rw [i64_id (by omega) (by omega)]; omega, hkl, ?_⟩, by dsimp only; rw [i64_id (by omega) (by omega)]; omega⟩
    have f6 := f5.drop 0
    rw [txtB_next hkl, List.append_assoc (txtB _), ← List.append_assoc (numB (findW xs).length)]
    exact f6
  · obtain rfl : k = (findW xs).length := by omega
    rw [List.take_length] at hk2 f3
    refine gCall_v (refApply_any (hb.ev (h1.trans f3.old)) (by omega) n3) fun t35 w6 ⟨h6, o6⟩ => ?_
    have f6 := f3.newO h6 o6
    refine fApp f6 1 rfl (f6.nm 0 rfl) (by rw [List.length_append, List.take_of_length_le (by omega)]; omega) fun v w7 f7 => ?_
    rw [ep]
    refine ⟨v, rfl, h1.trans f7.old, ?_⟩
    have := f7.on 1 rfl
    rw [List.take_of_length_le (show (findW xs).length ≤ 64 by omega)] at this
    exact this.low h1.size
end
end Go.Proofs.YtilpoinhfiajcaaGreatDoorV

/- How long what a transform makes may be: plain. -/
namespace Go.Proofs.YtilpoinhfiajcaaGreatDoorV
open Go Go.RowKit
theorem bodyP_le {B : Nat} : ∀ {r : List (Int × List Int)}, (∀ u ∈ r, 0 ≤ u.1 ∧ u.1 ≤ 4 ∧ u.2.length ≤ B) → B ≤ 100000000 → (bodyP r).length ≤ r.length * (B + 20)
  | [], _, _ => by simp [bodyP]
  | u :: r, h, hB => by
    have h1 := h u List.mem_cons_self
    have h2 := bodyP_le (r := r) (fun x hx => h x (List.mem_cons_of_mem _ hx)) hB
    have h3 : (numB u.1.toNat).length ≤ 10 := numB_len64 (by omega)
    have h4 : (numB u.2.length).length ≤ 10 := numB_len64 (by omega)
    have e : bodyP (u :: r) = numB u.1.toNat ++ numB u.2.length ++ u.2 ++ bodyP r := rfl
    rw [e, List.length_append, List.length_append, List.length_append, List.length_cons, Nat.succ_mul]; omega
theorem packA_le {xs : List Int} : (packA xs).1.length ≤ 9 * xs.length + 80300 := by
  unfold packA
  split
  · rename_i hc
    obtain ⟨Fn, T, ch, size, n, hp, c1, c8, hs, hFT, hTN, hn, hn1⟩ := inW_nat (parseW_in hc.1)
    rw [hp]
    have e1 : (((8 * size : Nat) : Int) / 8).toNat = size := by omega
    have hs1 : 1 ≤ size := by omega
    have hch : 1 ≤ ch * size := Nat.mul_le_mul c1 hs1
    have e2 : (T - Fn) / (ch * size) = n := by rw [hn, Nat.mul_div_cancel _ (by omega)]
    have hnT : n * ch ≤ T - Fn := by rw [hn]; exact Nat.mul_le_mul_left _ (Nat.le_mul_of_pos_right _ (by omega))
    have hn2 : n ≤ T - Fn := Nat.le_trans (Nat.le_mul_of_pos_right _ (by omega)) hnT
    simp only [Int.toNat_natCast, e1, e2]
    obtain ⟨xss, hxs⟩ : ∃ xss, xss = splitN ((xs.drop Fn).take (T - Fn)) ch size (n * ch) := ⟨_, rfl⟩
    have hxm : ∀ ys ∈ xss, ys.length = n := fun ys h => splitN_mem (hxs ▸ h)
    have hxl : xss.length = ch := by rw [hxs, splitN_len]
    rw [← hxs]
    have hu : ∀ u ∈ (allI xss).1, 0 ≤ u.1 ∧ u.1 ≤ 4 ∧ u.2.length ≤ 8 * n + 10000 := fun u hu => by
      have key : ∃ ys : List Int, ys.length ≤ n ∧ u = pkT ys := by
        unfold allI at hu
        have hmap : u ∈ xss.map pkT → ∃ ys : List Int, ys.length ≤ n ∧ u = pkT ys := fun h => by
          obtain ⟨ys, h1, rfl⟩ := List.mem_map.1 h
          exact ⟨ys, by have := hxm ys h1; omega, rfl⟩
        have hgd : (xss.getD 0 []).length ≤ n := by
          rw [List.getD_eq_getElem?_getD]
          cases h : xss[0]? with
          | none => simp
          | some ys => have := hxm ys (List.mem_of_getElem? h); simp; omega
        split at hu
        · exact hmap hu
        · split at hu
          · simp only [List.mem_cons, List.not_mem_nil, or_false] at hu
            rcases hu with rfl | rfl
            · exact ⟨_, by unfold midL; rw [tab_len]; exact hgd, rfl⟩
            · exact ⟨_, by unfold sideL; rw [tab_len]; exact hgd, rfl⟩
          · exact hmap hu
      obtain ⟨ys, h1, rfl⟩ := key
      have := pkT_kind (l := ys)
      have h2 := pkT_len (l := ys) (by omega)
      exact ⟨this.1, this.2.1, by omega⟩
    have hrl : (allI xss).1.length ≤ ch := by
      unfold allI
      split
      · simp; omega
      · rename_i h2
        split
        · simp; omega
        · simp; omega
    have hb := bodyP_le hu (by omega)
    have hb2 : (allI xss).1.length * (8 * n + 10000 + 20) ≤ ch * (8 * n + 10000 + 20) := Nat.mul_le_mul_right _ hrl
    have hb3 : ch * (8 * n + 10000 + 20) = 8 * (n * ch) + 10020 * ch := by
      rw [show 8 * n + 10000 + 20 = 8 * n + 10020 from rfl, Nat.mul_add, Nat.mul_comm n ch, Nat.mul_left_comm, Nat.mul_comm ch 10020]
    have hn5 := nbsA_len (L := [(xs.length : Int), (Fn : Int), (T : Int), (ch : Int), ((8 * size : Nat) : Int)]) fun x hx => by
      simp only [List.mem_cons, List.not_mem_nil, or_false] at hx
      rcases hx with rfl | rfl | rfl | rfl | rfl <;> omega
    have hf : (numB (if (allI xss).2 = true then 1 else 0)).length ≤ 10 := numB_len64 (by split <;> omega)
    simp only [List.length_append, List.length_take, List.length_drop, List.length_cons, List.length_nil] at hn5 ⊢
    omega
  · exact Nat.zero_le _
theorem packI_le {xs : List Int} (hx : inR .u8 xs) : (packI xs).1.length ≤ 2 * xs.length + 60 := by
  unfold packI
  split
  · rename_i h
    obtain ⟨F, Wd, H, L, S, hp, a1, a2, a3, a4, a5, a6, a7⟩ := inP_nat ((parse_in hx).1 h.1)
    have hpk : packP xs (parseP xs).1 = packN xs F Wd H L S := by unfold packP; rw [hp]; simp
    have hW : Wd ≤ Wd * L := Nat.le_mul_of_pos_right _ (by omega)
    have hS : S ≤ S * H := Nat.le_mul_of_pos_right _ (by omega)
    have hH : H ≤ S * H := Nat.le_mul_of_pos_left _ (by omega)
    have := pack_len (xs := xs) (F := F) (Wd := Wd) (H := H) (L := L) (S := S) h.2 a2 a4 (by omega) a6 a7 (by omega)
    dsimp only
    rw [hpk]
    omega
  · exact Nat.zero_le _
theorem packWd_le {xs : List Int} : (packWd xs).1.length ≤ 2 * xs.length + 2200 := by
  unfold packWd
  split
  · exact Nat.zero_le _
  · obtain ⟨hL64, hLu⟩ := findW_rg xs
    have hal := applyW_len (findW xs) xs
    have htl := txtB_len (L := findW xs) fun u hu => (hLu u hu).2
    have hn : (numB (findW xs).length).length ≤ 10 := numB_len64 (by omega)
    have h2 : (findW xs).length * 34 ≤ 64 * 34 := Nat.mul_le_mul_right _ hL64
    simp only [List.length_append]
    omega
theorem packX_le {t : Int} {xs : List Int} (hx : inR .u8 xs) : (packX t xs).1.length ≤ if t = 1 then 9 * xs.length + 80300 else 2 * xs.length + 2200 := by
  unfold packX
  split
  · exact packA_le
  split
  · have := packI_le hx; omega
  split
  · split
    · rename_i h
      have hok : widI xs ≠ 0 ∧ xs.length ≤ 1048576 := by simpa [packOk] using h
      have := packL_len hok.2
      dsimp only
      omega
    · exact Nat.zero_le _
  split
  · exact packWd_le
  split
  · unfold linesT
    split
    · have := repl_len _ xs (Nat.le_refl _)
      dsimp only
      omega
    · exact Nat.zero_le _
  · unfold capsT
    split
    · have := capL_len xs
      dsimp only
      omega
    · exact Nat.zero_le _
end Go.Proofs.YtilpoinhfiajcaaGreatDoorV

/- The law ChainForward. -/
namespace Go.Proofs.YtilpoinhfiajcaaGreatDoorV
open Go Go.RowKit
/-- How long what comes of some tags may be. -/
def bdX (ts : List Int) (k : Nat) (X : List Int) : Prop := if (1 : Int) ∈ ts.take k then 1 ≤ k ∧ X.length + 2200 ≤ 100500 * 2 ^ (k - 1) else X.length + 2200 ≤ 4200 * 2 ^ k
theorem bdX_step {ts X : List Int} {k : Nat} (hr : rightB ts = true) (hk : k < ts.length) (hx : inR .u8 X) (h : bdX ts k X) : X.length ≤ 1000000 ∧ (packX (rd ts (k : Int)) X).1.length ≤ 1048576 ∧ bdX ts (k + 1) (packX (rd ts (k : Int)) X).1 ∧ bdX ts (k + 1) X := by
  have h4 := right_len hr
  have hno := (okN_t (right_ok hr) k hk).2
  have hp := packX_le (t := rd ts (k : Int)) hx
  obtain ⟨t, ht⟩ : ∃ t, t = rd ts (k : Int) := ⟨_, rfl⟩
  have htk : ts.take (k + 1) = ts.take k ++ [t] := by rw [ht, rd_nat ts k hk, List.take_succ_eq_append_getElem hk]
  rw [← ht] at hp hno ⊢
  obtain ⟨Y, hY⟩ : ∃ Y, Y = (packX t X).1 := ⟨_, rfl⟩
  rw [← hY] at hp ⊢
  unfold bdX at h ⊢
  rw [htk]
  have hk3 : k = 0 ∨ k = 1 ∨ k = 2 ∨ k = 3 := by omega
  by_cases h1 : (1 : Int) ∈ ts.take k
  · have ht1 : t ≠ 1 := fun e => hno (e ▸ h1)
    rw [if_pos h1] at h
    rw [if_neg ht1] at hp
    rw [if_pos (List.mem_append_left _ h1), if_pos (List.mem_append_left _ h1), Nat.add_sub_cancel]
    rcases hk3 with rfl | rfl | rfl | rfl
    · exact absurd h1 (by simp)
    all_goals
      simp only [Nat.reduceSub, Nat.reducePow, Nat.reduceMul] at h ⊢
      omega
  · rw [if_neg h1] at h
    by_cases ht1 : t = 1
    · have hm : (1 : Int) ∈ ts.take k ++ [t] := List.mem_append_right _ (by rw [ht1]; exact List.mem_singleton.2 rfl)
      rw [if_pos ht1] at hp
      rw [if_pos hm, if_pos hm, Nat.add_sub_cancel]
      rcases hk3 with rfl | rfl | rfl | rfl
      all_goals
        simp only [Nat.reduceSub, Nat.reducePow, Nat.reduceMul] at h ⊢
        omega
    · have hm : (1 : Int) ∉ ts.take k ++ [t] := fun hh => by
        rcases List.mem_append.1 hh with hh | hh
        · exact h1 hh
        · exact ht1 (List.mem_singleton.1 hh).symm
      rw [if_neg ht1] at hp
      rw [if_neg hm, if_neg hm]
      rcases hk3 with rfl | rfl | rfl | rfl
      all_goals
        simp only [Nat.reduceAdd, Nat.reducePow, Nat.reduceMul] at h ⊢
        omega
section
variable {w : World} {b tags : Value} {xs ts : List Int}
theorem one_any {t : Int} (ht : 1 ≤ t ∧ t ≤ 6) (hb : Nm .u8 w b xs) (hl : xs.length ≤ 1000000) : Calls P n_valiselaw23_one #[.int .i64 t, b] w (TupB w (packX t xs)) := by
  have fin : ∀ {f : FuncId} {r : List Int × Bool}, r = packX t xs → Calls P f #[b] w (TupB w r) → gCall P f (.tup [.one .val, .one .bool]) #[b] w fun (v : Value) (o : Bool) ww => TupB w (packX t xs) (.returned (.tuple #[v, .bool o])) ww := fun hr h =>
    gCall_of h fun e w' ⟨v, he, hev, hon⟩ => ⟨v, _, he, by rw [← hr]; exact ⟨v, rfl, hev, hon⟩⟩
  refine of_valiselaw23_one (gIf_eq (fun h => ?_) (fun h1 => gIf_eq (fun h => ?_) (fun h2 => gIf_eq (fun h => ?_) (fun h3 => gIf_eq (fun h => ?_) (fun h4 => gIf_eq (fun h => ?_) (fun h5 => ?_))))))
  · subst h; exact fin (packX_1 xs).symm (aPack_any hb (by omega))
  · subst h; exact fin (packX_2 xs).symm (Pack_any hb (by omega))
  · subst h; exact fin (packX_3 xs).symm (refPackT_any hb (by omega))
  · subst h; exact fin (packX_4 xs).symm (refPackW_any hb hl)
  · subst h; exact fin (packX_5 xs).symm (rLines_any hb (by omega))
  · obtain rfl : t = 6 := by omega
    exact fin (packX_6 xs).symm (rCaps_any hb (by omega))
theorem CopyBytesC_any (hb : Nm .u8 w b xs) (hl : xs.length ≤ 10000000000000) : Calls P n_valisehelp_CopyBytes #[b] w (NewB w xs) :=
  of_valisehelp_CopyBytes (fApp0 (Fr.start w) hb (by omega) fun v w' f => ⟨v, rfl, f.old, f.on 0 rfl⟩)
theorem ChainForward_law (hb : Nm .u8 w b xs) (ht : Nm .i64 w tags ts) (hM : MaxL w) : Calls P n_valiselaw23_ChainForward #[b, tags] w (Holds w) := by
  have aw := awake23_end (Ch.refl No w)
  refine of_valiselaw23_ChainForward ⟨fun w' => w' = w ∧ xs.length ≤ 2000 ∧ ts.length ≤ 40, gLen_nm hb (gIf_ndec (fun h => gLen_nm ht (gIf_dec (fun h2 => aw) (fun h2 => ⟨rfl, by omega, by omega⟩))) (fun h => aw)), ?_⟩
  rintro _ w3 ⟨hw3, hl, htl⟩
  obtain rfl : w = w3 := hw3.symm
  refine gCall_v (Own_byte_any hb (by omega) (by decide)) fun o w4 ⟨h4, ho⟩ => gCall_of (Forward_any ho.nm (ht.ev h4) (by omega) (by omega) (hM.ev h4)) ?_
  rintro _ w5 ⟨x, d, rfl, h5, nx, nd⟩
  refine ⟨_, _, rfl, fun w' => Ev w5 w', gCall_b awake23_any fun w6 h6 => gIf_nn (gCall_b (Kept_byte_any (ho.ev (h5.trans h6)) (hb.ev ((h4.trans h5).trans h6)) (by omega)) fun w7 h7 => gIf_f (h6.trans h7)), ?_⟩
  rintro _ w8 h8
  have h08 := (h4.trans h5).trans h8
  have hdl : (fwdX xs ts).2.length ≤ 4 := right_len (fwdX_right xs ts)
  refine gCall_v (CopyBytesC_any (hb.ev h08) (by omega)) fun t39 w9 ⟨h9, o9⟩ => ?_
  refine ⟨fun want did i w' => ∃ k : Nat, i = (k : Int) ∧ k ≤ ts.length ∧ (k = 0 ∨ rightB ts = true) ∧ bdX ts k (fwdN xs ts k).1 ∧ Fr w8 w' [oIt .i64 eN did (fwdN xs ts k).2, oIt .u8 eB want (fwdN xs ts k).1], fun _ _ i _ => (ts.length - i).toNat, ⟨0, rfl, Nat.zero_le _, .inl rfl, ?_, ((Fr.start w8).newO h9 o9).nil0 .i64 eN⟩, ?_⟩
  · unfold bdX
    rw [if_neg (by simp)]
    show xs.length + 2200 ≤ 4200 * 1
    omega
  rintro _ want did i w10 ⟨k, rfl, hk, hor, hbd, f10⟩
  have h010 := h08.trans f10.old
  have fin : ∀ {w' : World}, Ev w10 w' → fwdX xs ts = fwdN xs ts k → gCall P n_valisehelp_Bytes shB #[x, want] w' fun (t70 : Bool) ww12 => gIf t70 (gCall P n_valisehelp_Plain_int shB #[d, did] ww12 fun (t74 : Bool) ww13 => Holds w (.returned (.bool t74)) ww13) (Holds w (.returned (.bool false)) ww12) := fun {w'} he e => by
    have f11 := f10.ev he
    refine gCall_b0 (Bytes_any ((nx.ev h8).ev f11.old) (f11.nm 1 rfl)) ?_
    rw [e, decide_eq_true rfl]
    refine gIf_t (gCall_b (PlainI_any ((nd.ev h8).ev f11.old) (f11.nm 0 rfl) (by omega)) fun w13 h13 => ?_)
    rw [e, decide_eq_true rfl]
    exact ⟨rfl, (h08.trans f11.old).trans h13⟩
  refine ⟨fun w' => Ev w10 w' ∧ k < ts.length ∧ rightB ts = true, gLen_nm ht (gIf_dec (fun hlt => gCall_b (rRight_any (ht.ev h010) (by omega)) fun w11 h11 => gIf_b (fun hr => ⟨h11, by omega, hr⟩) (fun hr => fin h11 ?_)) (fun hge => fin (Ch.refl _ _) ?_)), ?_⟩
  · obtain rfl : k = 0 := by
      rcases hor with h | h
      · exact h
      · rw [hr] at h; cases h
    unfold fwdX
    rw [if_neg (by rw [hr]; decide)]; rfl
  · obtain rfl : k = ts.length := by omega
    have hr : rightB ts = true := by
      rcases hor with h | h
      · have : ts = [] := List.eq_nil_of_length_eq_zero h
        subst this; rfl
      · exact h
    unfold fwdX
    rw [if_pos hr]
  rintro _ w16 ⟨h16, hkl, hr⟩
  have f16 := f10.ev h16
  obtain ⟨hX, hY, hb1, hb2⟩ := bdX_step hr hkl (f16.nm 1 rfl).2 hbd
  refine gGet (ht.ev (h010.trans h16)) (by omega) (by omega) (gCall_of (one_any (right_rg hr hkl) (f16.nm 1 rfl) hX) ?_)
  rintro _ w17 ⟨y, rfl, h17, o17⟩
  have f17 := f16.newO h17 o17
  have hdl2 := fwdN_did xs ts k
  refine ⟨_, _, rfl, gIf_b (fun hp => gGet (ht.ev ((h010.trans h16).trans h17)) (by omega) (by omega) ?_) (fun hp => ?_)⟩
  · refine fLit_n [rd ts (k : Int)] f17 rfl rfl (fun z hz => ?_) fun t66 w18 f18 => fApp f18 2 rfl (f18.nm 0 rfl) (by simp; omega) fun v' w19 f19 => ⟨⟨k + 1, by rw [i64_id (by omega) (by omega)]; omega, hkl, .inr hr, ?_, ?_⟩, by dsimp only; rw [i64_id (by omega) (by omega)]; omega⟩
    · rw [List.mem_singleton.1 hz]
      have := right_rg hr hkl
      have h1 : IntKind.i64.min = -9223372036854775808 := by decide
      have h2 : IntKind.i64.max = 9223372036854775807 := by decide
      rw [h1, h2]; omega
    · rw [fwdN, if_pos ⟨hp, hY⟩]; exact hb1
    · rw [fwdN, if_pos ⟨hp, hY⟩]
      exact f19.picks [2, 1] (by decide)
  · refine ⟨⟨k + 1, by rw [i64_id (by omega) (by omega)]; omega, hkl, .inr hr, ?_, ?_⟩, by dsimp only; rw [i64_id (by omega) (by omega)]; omega⟩
    · rw [fwdN, if_neg (by rw [hp]; intro h; cases h.1)]; exact hb2
    · rw [fwdN, if_neg (by rw [hp]; intro h; cases h.1)]
      exact f17.drop 0
end
end Go.Proofs.YtilpoinhfiajcaaGreatDoorV
