/- What is turned is turned back; the law FilterBack. -/
import Derived.Test.YtcnigagagjmogaaVFilterE
namespace Go.Proofs.YtcnigagagjmogaaV
open Go Go.RowKit

theorem ofL_take {xs : List Int} {j : Nat} {i : Int} (hi : i < j) (hj : j ≤ xs.length) : ofL (xs.take j) i = ofL xs i := by
  unfold ofL
  by_cases h0 : i < 0
  · rw [if_pos (.inl h0), if_pos (.inl h0)]
  · rw [if_neg (by rw [List.length_take]; omega), if_neg (by omega)]
    unfold rd
    rw [List.getD_eq_getElem?_getD, List.getElem?_take, if_pos (by omega), ← List.getD_eq_getElem?_getD]
theorem take_rd {xs : List Int} {j : Nat} (h : j < xs.length) : xs.take (j + 1) = xs.take j ++ [rd xs j] := by
  rw [List.take_succ_eq_append_getElem h, rd_nat xs j h]
theorem unrow_row {k : Int} {xs us : List Int} {p : Int} (hx : inR .u8 xs) (hp : 1 ≤ p) : ∀ {j : Nat}, j ≤ xs.length → unrowN k (rowN k xs us p xs.length) us p j = xs.take j
  | 0, _ => by simp [unrowN]
  | j + 1, h => by
    rw [unrowN, unrow_row hx hp (show j ≤ xs.length by omega), take_rd (by omega), rowN_rd (by omega), ofL_take (by omega) (by omega)]
    have := rd_u8 hx j
    congr 2
    omega
theorem ofL_unrow {k : Int} {xs us : List Int} {p : Int} {n j : Nat} {i : Int} (hi : i < j) (hj : j ≤ n) : ofL (unrowN k xs us p n) i = ofL (unrowN k xs us p j) i := by
  unfold ofL
  by_cases h0 : i < 0
  · rw [if_pos (.inl h0), if_pos (.inl h0)]
  · rw [if_neg (by rw [unrowN_len]; omega), if_neg (by rw [unrowN_len]; omega)]
    obtain ⟨m, rfl⟩ : ∃ m : Nat, i = m := ⟨i.toNat, by omega⟩
    rw [unrowN_rd (by omega), unrowN_rd (by omega)]
theorem row_unrow {k : Int} {xs us : List Int} {p : Int} (hx : inR .u8 xs) (hp : 1 ≤ p) : ∀ {j : Nat}, j ≤ xs.length → rowN k (unrowN k xs us p xs.length) us p j = xs.take j
  | 0, _ => by simp [rowN]
  | j + 1, h => by
    rw [rowN, row_unrow hx hp (show j ≤ xs.length by omega), take_rd (by omega), unrowN_rd (by omega), ofL_unrow (n := xs.length) (j := j) (by omega) (by omega)]
    have := rd_u8 hx j
    congr 2
    omega
theorem planes_pos (p : Int) : 1 ≤ planesI p := by unfold planesI; split <;> omega
theorem mul_succ_lt {i n W : Nat} (h : i < n) : i * W + W ≤ n * W := by have := Nat.mul_le_mul_right W (show i + 1 ≤ n from h); rwa [Nat.succ_mul] at this
theorem applyN_drop {xs : List Int} {W n : Nat} {p : Int} (h : xs.length = n * W) {i : Nat} (hi : i < n) : ∀ {m}, m ≤ n → i < m →
    ∃ r, (applyN xs W p m).drop (i * (W + 1)) = [bestI (rowAt xs W i) (upAt xs W i) p] ++ rowN (bestI (rowAt xs W i) (upAt xs W i) p) (rowAt xs W i) (upAt xs W i) (planesI p) W ++ r
  | m + 1, hm, him => by
    have hl := applyN_len h (p := p) (show m ≤ n by omega)
    by_cases e : i = m
    · subst e
      refine ⟨[], ?_⟩
      rw [applyN, List.append_assoc, List.drop_append_of_le_length (by omega), List.drop_of_length_le (by omega), rowAt_len h hi]
      simp
    · obtain ⟨r, hr⟩ := applyN_drop h hi (show m ≤ n by omega) (show i < m by omega)
      have : i * (W + 1) + (W + 1) ≤ m * (W + 1) := mul_succ_lt (by omega)
      rw [applyN, List.append_assoc, List.drop_append_of_le_length (by omega), hr, List.append_assoc]
      exact ⟨_, rfl⟩
theorem rd_drop0 (xs : List Int) (a : Nat) : rd (xs.drop a) 0 = rd xs (a : Int) := by
  simp only [rd, List.getD_eq_getElem?_getD, List.getElem?_drop, Int.toNat_natCast]; rfl
theorem rowAt_u8 {xs : List Int} (hx : inR .u8 xs) (W i : Nat) : inR .u8 (rowAt xs W i) := (hx.drop _).take _
theorem undo_applyR {xs : List Int} {W n : Nat} {p : Int} (hx : inR .u8 xs) (h : xs.length = n * W) : ∀ {i}, i < n → kindAt (applyN xs W p n) W i = bestI (rowAt xs W i) (upAt xs W i) p ∧ undoR (applyN xs W p n) W p i = rowAt xs W i := by
  intro i
  induction i with
  | zero =>
    intro hi
    obtain ⟨r, hr⟩ := applyN_drop h hi (p := p) (Nat.le_refl n) hi
    have hk : kindAt (applyN xs W p n) W 0 = bestI (rowAt xs W 0) (upAt xs W 0) p := by
      have := congrArg (fun l => rd l 0) hr
      rw [rd_drop0] at this
      exact this
    have hrow : rowAt1 (applyN xs W p n) W 0 = rowN (bestI (rowAt xs W 0) (upAt xs W 0) p) (rowAt xs W 0) (upAt xs W 0) (planesI p) W := by
      unfold rowAt1; rw [← List.drop_drop, hr]
      simp [rowN_len]
    refine ⟨hk, ?_⟩
    rw [undoR, hk, hrow]
    have := unrow_row (k := bestI (rowAt xs W 0) (upAt xs W 0) p) (us := []) (p := planesI p) (rowAt_u8 hx W 0) (planes_pos p) (Nat.le_refl _)
    rw [rowAt_len h hi] at this
    rw [show upAt xs W 0 = [] from rfl] at this ⊢
    rw [this, List.take_of_length_le (by rw [rowAt_len h hi]; omega)]
  | succ i ih =>
    intro hi
    obtain ⟨r, hr⟩ := applyN_drop h hi (p := p) (Nat.le_refl n) hi
    have hk : kindAt (applyN xs W p n) W (i + 1) = bestI (rowAt xs W (i + 1)) (upAt xs W (i + 1)) p := by
      have := congrArg (fun l => rd l 0) hr
      rw [rd_drop0] at this
      exact this
    have hrow : rowAt1 (applyN xs W p n) W (i + 1) = rowN (bestI (rowAt xs W (i + 1)) (upAt xs W (i + 1)) p) (rowAt xs W (i + 1)) (upAt xs W (i + 1)) (planesI p) W := by
      unfold rowAt1; rw [← List.drop_drop, hr]
      simp [rowN_len]
    refine ⟨hk, ?_⟩
    rw [undoR, hk, hrow, (ih (by omega)).2]
    have := unrow_row (k := bestI (rowAt xs W (i + 1)) (upAt xs W (i + 1)) p) (us := rowAt xs W i) (p := planesI p) (rowAt_u8 hx W (i + 1)) (planes_pos p) (Nat.le_refl _)
    rw [rowAt_len h hi] at this
    rw [show upAt xs W (i + 1) = rowAt xs W i from rfl] at this ⊢
    rw [this, List.take_of_length_le (by rw [rowAt_len h hi]; omega)]
theorem undo_applyN {xs : List Int} {W n : Nat} {p : Int} (hx : inR .u8 xs) (h : xs.length = n * W) : ∀ {m}, m ≤ n → undoN (applyN xs W p n) W p m = xs.take (m * W)
  | 0, _ => by simp [undoN]
  | m + 1, hm => by
    rw [undoN, undo_applyN hx h (show m ≤ n by omega), (undo_applyR hx h (show m < n by omega)).2, Nat.succ_mul, List.take_add]; rfl

theorem FilterBack_law {kind planes width : Int} {row up b : Value} {xs us bs : List Int} {w : World} (_hk : IntKind.i64.min ≤ kind ∧ kind ≤ IntKind.i64.max) (hr : Nm .u8 w row xs) (hu : Nm .u8 w up us) (hp : IntKind.i64.min ≤ planes ∧ planes ≤ IntKind.i64.max) (hb : Nm .u8 w b bs) (_hw : IntKind.i64.min ≤ width ∧ width ≤ IntKind.i64.max) :
    Calls P n_valiselaw17_FilterBack #[.int .i64 kind, row, up, .int .i64 planes, b, .int .i64 width] w (Holds w) := by
  replace hp : planes ≤ 9223372036854775807 := by have := hp.2; simp [IntKind.max, IntKind.signed, IntKind.bits] at this; omega
  have short : Calls P n_valiselaw17_awake #[] w (fun e w' => e = .returned (.bool true) ∧ Ev w w') := awake_any
  refine of_valiselaw17_FilterBack ⟨fun w' => w' = w ∧ xs.length ≤ 2000 ∧ bs.length ≤ 2000, gLen_nm hr (gIf_ndec (fun h1 => gLen_nm hu (gIf_ndec (fun h2 => gLen_nm hb (gIf_dec (fun h3 => gCall_of short ?_) (fun h3 => ⟨rfl, by omega, by omega⟩))) (fun h2 => gCall_of short ?_))) (fun h1 => gCall_of short ?_)), ?_⟩
  iterate 3
    · rintro _ w1 ⟨rfl, h1⟩; exact ⟨_, rfl, rfl, h1⟩
  rintro _ w0 ⟨rfl, hxl, hbl⟩
  refine ⟨fun w' => Ev w0 w', gCall_of awake_any ?_, ?_⟩
  · rintro _ w1 ⟨rfl, h1⟩
    refine ⟨_, rfl, gIf_nn (gCall_of (Row_any (hr.ev h1) (hu.ev h1) (by omega) hp) ?_)⟩
    rintro _ w2 ⟨a, rfl, h2, ha⟩
    have e2 := h1.trans h2
    refine ⟨a, rfl, gCall_of (Unrow_any ha.nm (hu.ev e2) (by rw [rowN_len]; omega) hp) ?_⟩
    rintro _ w3 ⟨c, rfl, h3, hc⟩
    have e3 := e2.trans h3
    rw [rowN_len, unrow_row hr.2 (planes_pos planes) (Nat.le_refl _), List.take_length] at hc
    refine ⟨c, rfl, gCall_of (Bytes_any hc.nm (hr.ev e3)) ?_⟩
    rintro _ _ ⟨rfl, rfl⟩
    refine ⟨_, rfl, ?_⟩
    rw [decide_eq_true rfl]
    refine gIf_nn (gCall_of (Unrow_any (hr.ev e3) (hu.ev e3) (by omega) hp) ?_)
    rintro _ w4 ⟨d, rfl, h4, hd⟩
    have e4 := e3.trans h4
    refine ⟨d, rfl, gCall_of (Row_any hd.nm (hu.ev e4) (by rw [unrowN_len]; omega) hp) ?_⟩
    rintro _ w5 ⟨f, rfl, h5, hf⟩
    have e5 := e4.trans h5
    rw [unrowN_len, row_unrow hr.2 (planes_pos planes) (Nat.le_refl _), List.take_length] at hf
    refine ⟨f, rfl, gCall_of (Bytes_any hf.nm (hr.ev e5)) ?_⟩
    rintro _ _ ⟨rfl, rfl⟩
    refine ⟨_, rfl, ?_⟩
    rw [decide_eq_true rfl]
    exact gIf_nt e5
  · rintro _ w6 h6
    have hu1 : 0 ≤ u64 width := by rw [u64_def]; omega
    have hu2 : 0 ≤ u64 planes := by rw [u64_def]; omega
    rw [Int.tmod_eq_emod_of_nonneg hu1, Int.tmod_eq_emod_of_nonneg hu2]
    rw [i64_id (n := u64 width % 50) (by omega) (by omega), i64_id (n := u64 planes % 4) (by omega) (by omega), i64_id (n := 1 + u64 width % 50) (by omega) (by omega), i64_id (n := 1 + u64 planes % 4) (by omega) (by omega)]
    obtain ⟨W, hW⟩ : ∃ W : Nat, 1 + u64 width % 50 = W := ⟨(1 + u64 width % 50).toNat, by omega⟩
    rw [hW]
    have hW1 : 1 ≤ W ∧ W ≤ 50 := by omega
    have hq1 : 1 ≤ 1 + u64 planes % 4 ∧ 1 + u64 planes % 4 ≤ 4 := by omega
    generalize 1 + u64 planes % 4 = q at hq1
    have quo : ∀ m : Nat, m ≤ 1000000 → IntKind.wrap .i64 (Int.tdiv (m : Int) W) = ((m / W : Nat) : Int) := fun m hm => by
      rw [Int.tdiv_eq_ediv_of_nonneg (by omega)]
      have h1 : m / W ≤ m := Nat.div_le_self _ _
      have : ((m / W : Nat) : Int) = (m : Int) / W := by rw [Int.natCast_ediv]
      rw [← this]; clear this; generalize m / W = t at h1 ⊢; exact i64_id (by omega) (by omega)
    refine gLen_nm hb (gBin_quo (by omega) ?_)
    rw [quo _ (by omega)]
    generalize hn : bs.length / W = n
    have hnW : n * W ≤ bs.length := by rw [← hn]; exact Nat.div_mul_le_self _ _
    rw [show i64 ((n : Int) * W) = ((n * W : Nat) : Int) by rw [← Int.natCast_mul]; exact i64_id (by omega) (by omega)]
    refine gSlice_nm hb 0 (n * W) (.inl ⟨rfl, rfl⟩) (.inr ⟨_, rfl⟩) (by omega) hnW fun hs => ?_
    rw [List.drop_zero, Nat.sub_zero] at hs
    have hsl : (bs.take (n * W)).length = n * W := by rw [List.length_take]; omega
    generalize hbs : bs.take (n * W) = ys at hs hsl
    have hyd : ys.length / W = n := by rw [hsl]; exact Nat.mul_div_cancel _ (by omega)
    have hs6 := hs.ev h6
    have hr1 : rightI W q = true := by simp [rightI]; omega
    refine gCall_of (Apply_any hs6 (by omega) (by omega)) ?_
    have hok : applyOk ys.length W q = true := by
      simp only [applyOk, hr1, Bool.and_eq_true, decide_eq_true_eq]
      refine ⟨⟨trivial, ?_⟩, by omega⟩
      rw [hsl, Int.natCast_mul]; exact Int.mul_emod_left _ _
    rw [hok, if_pos rfl, Int.toNat_natCast, hyd]
    rintro _ w7 ⟨h7, a, rfl, ha⟩
    have hal : (applyN ys W q n).length = n * (W + 1) := applyN_len hsl (Nat.le_refl n)
    have hnn : n ≤ 2000 := by have : n * 1 ≤ n * W := Nat.mul_le_mul_left _ hW1.1; omega
    have hal2 : n * (W + 1) = n * W + n := Nat.mul_succ _ _
    refine ⟨_, _, rfl, gCall_of (Undo_any ha.nm (by omega) (by omega)) ?_⟩
    have hu3 : undoOk (applyN ys W q n).length W q = true := by
      rw [hal]
      simp only [undoOk, hr1, Bool.and_eq_true, decide_eq_true_eq]
      have e1 : ((n * (W + 1) : Nat) : Int) = (n : Int) * ((W : Int) + 1) := by rw [Int.natCast_mul]; rfl
      refine ⟨⟨trivial, ?_⟩, ?_⟩
      · rw [e1]; exact Int.mul_emod_left _ _
      · rw [e1, Int.mul_ediv_cancel _ (by omega), ← Int.natCast_mul]; omega
    have hd3 : (applyN ys W q n).length / (W + 1) = n := by rw [hal]; exact Nat.mul_div_cancel _ (by omega)
    have hk3 : kindsOk (applyN ys W q n) W n = true := by
      simp only [kindsOk, decide_eq_true_eq]
      intro i hi
      rw [(undo_applyR hs.2 hsl hi).1]; exact (best_rng _ _ _).2
    intro e w8 hU
    unfold UndoE at hU
    rw [if_pos hu3, Int.toNat_natCast, hd3, if_pos hk3, undo_applyN hs.2 hsl (Nat.le_refl n), List.take_of_length_le (by omega)] at hU
    obtain ⟨h8, c, rfl, hc⟩ := hU
    have e8 := h7.trans h8
    refine ⟨_, _, rfl, gIf_t (gIf_t (gCall_of (Bytes_any (hs6.ev e8) hc.nm) ?_))⟩
    rintro _ _ ⟨rfl, rfl⟩
    refine ⟨_, rfl, ?_⟩
    rw [decide_eq_true rfl]
    refine gIf_t (gLen_nm (ha.ev h8).nm (gLen_nm hs (gLen_nm hs (gBin_quo (by omega) ⟨?_, h6.trans e8⟩))))
    rw [quo _ (by omega), hal, hyd, hsl, i64_id (by omega) (by omega), beq_iff_eq.2 (by omega)]
end Go.Proofs.YtcnigagagjmogaaV
