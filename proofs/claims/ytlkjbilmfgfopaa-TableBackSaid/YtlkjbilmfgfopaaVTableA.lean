/- Package table: Score, Width, Delta, Undelta; the same of valiseref20. -/
import Derived.Test.YtlkjbilmfgfopaaVBase
namespace Go.Proofs.YtlkjbilmfgfopaaV
open Go Go.RowKit
/-- At how many places up to j a byte is the one a width ahead. -/
def scoreN (xs : List Int) (W : Nat) : Nat → Int
  | 0 => 0
  | j + 1 => scoreN xs W j + (if W ≤ j ∧ rd xs (j : Int) = rd xs ((j - W : Nat) : Int) then 1 else 0)
theorem scoreN_bd (xs : List Int) (W : Nat) : ∀ j, 0 ≤ scoreN xs W j ∧ scoreN xs W j ≤ j
  | 0 => by simp [scoreN]
  | j + 1 => by have := scoreN_bd xs W j; rw [scoreN]; split <;> omega
theorem scoreN_low (xs : List Int) (W : Nat) : ∀ j, j ≤ W → scoreN xs W j = 0
  | 0, _ => rfl
  | j + 1, h => by rw [scoreN, scoreN_low xs W j (by omega), if_neg (by omega)]; rfl
def scoreI (xs : List Int) (width : Int) : Int := if width < 1 then 0 else scoreN xs width.toNat xs.length
theorem Score_any {b : Value} {xs : List Int} {width : Int} {w : World} (hb : Nm .u8 w b xs) (hl : xs.length ≤ 1000000000) (hw : width ≤ 9223372036854775807) : Calls P n_table_Score #[b, .int .i64 width] w (fun e w' => e = .returned (.int .i64 (scoreI xs width)) ∧ Ev w w') := by
  refine of_table_Score (gIf_dec (fun h => ⟨by unfold scoreI; rw [if_pos h], Ch.refl _ w⟩) (fun h => ?_))
  obtain ⟨W, rfl⟩ : ∃ W : Nat, width = W := ⟨width.toNat, by omega⟩
  unfold scoreI
  rw [if_neg h, Int.toNat_natCast]
  refine ⟨fun n i w' => ∃ j : Nat, i = j ∧ W ≤ j ∧ n = scoreN xs W (min j xs.length) ∧ Ev w w', fun _ i _ => xs.length - i.toNat, ⟨W, rfl, by omega, (scoreN_low xs W _ (by omega)).symm, Ch.refl _ w⟩, ?_⟩
  rintro _ n i w1 ⟨j, rfl, hj, rfl, h1⟩
  refine gLen_nm hb (gIf_dec (fun hlt => ?_) (fun hge => ⟨by rw [Nat.min_eq_right (by omega)], h1⟩))
  rw [Nat.min_eq_left (by omega)]
  have hs := scoreN_bd xs W j
  rw [show i64 ((j : Int) - W) = ((j - W : Nat) : Int) by rw [i64_id (by omega) (by omega)]; omega, i64_id (n := (j : Int) + 1) (by omega) (by omega), i64_id (n := scoreN xs W j + 1) (by omega) (by omega)]
  refine gIdx_nm (hb.ev h1) (by omega) hlt fun a1 c1 _ => gLoadB_i (at1 c1) (gIdx_nm (hb.ev h1) (by omega) (by omega) fun a2 c2 _ => gLoadB_i (at1 c2) (gIf_eq (fun e => ⟨⟨j + 1, rfl, by omega, ?_, h1.drew⟩, by dsimp only; omega⟩) (fun e => ⟨⟨j + 1, rfl, by omega, ?_, h1.drew⟩, by dsimp only; omega⟩)))
  · rw [Nat.min_eq_left (by omega), scoreN, if_pos ⟨hj, e⟩]
  · rw [Nat.min_eq_left (by omega), scoreN, if_neg (fun hh => e hh.2), Int.add_zero]
theorem rScore_any {b : Value} {xs : List Int} {width : Int} {w : World} (hb : Nm .u8 w b xs) (hl : xs.length ≤ 1000000000) (hw : width ≤ 9223372036854775807) : Calls P n_valiseref20_Score #[b, .int .i64 width] w (fun e w' => e = .returned (.int .i64 (scoreI xs width)) ∧ Ev w w') := by
  refine of_valiseref20_Score ⟨fun n i w' => ∃ j : Nat, i = j ∧ 1 ≤ j ∧ width ≤ j ∧ n = (if width < 1 then 0 else scoreN xs width.toNat (min j xs.length)) ∧ Ev w w', fun _ i _ => xs.length - i.toNat, ⟨(if 1 > width then 1 else width).toNat, ?_, ?_, ?_, ?_, Ch.refl _ w⟩, ?_⟩
  · split <;> omega
  · split <;> omega
  · split <;> omega
  · split
    · rfl
    · rw [scoreN_low]; omega
  rintro _ n i w1 ⟨j, rfl, hj1, hj, rfl, h1⟩
  unfold scoreI
  refine ⟨fun w' => j < xs.length ∧ 1 ≤ width ∧ w' = w1, gLen_nm hb (gIf_dec (fun hlt => gIf_dec (fun h1' => ⟨by omega, h1', rfl⟩) (fun hn => ⟨by rw [if_pos (by omega), if_pos (by omega)], h1⟩)) (fun hge => ⟨by rw [Nat.min_eq_right (by omega)], h1⟩)), ?_⟩
  rintro _ _ ⟨hlt, hw1, rfl⟩
  rename_i w1
  obtain ⟨W, rfl⟩ : ∃ W : Nat, width = W := ⟨width.toNat, by omega⟩
  rw [if_neg (by omega), Int.toNat_natCast, Nat.min_eq_left (by omega)]
  have hs := scoreN_bd xs W j
  rw [show i64 ((j : Int) - W) = ((j - W : Nat) : Int) by rw [i64_id (by omega) (by omega)]; omega, i64_id (n := (j : Int) + 1) (by omega) (by omega), i64_id (n := scoreN xs W j + 1) (by omega) (by omega)]
  refine gIdx_nm (hb.ev h1) (by omega) (by omega) fun a1 c1 _ => gLoadB_i (at1 c1) (gIdx_nm (hb.ev h1) (by omega) (by omega) fun a2 c2 _ => gLoadB_i (at1 c2) (gIf_eq (fun e => ⟨⟨j + 1, rfl, by omega, by omega, ?_, h1.drew⟩, by dsimp only; omega⟩) (fun e => ⟨⟨j + 1, rfl, by omega, by omega, ?_, h1.drew⟩, by dsimp only; omega⟩)))
  · rw [if_neg (show ¬ (W : Int) < 1 by omega), Nat.min_eq_left (by omega), scoreN, if_pos ⟨by omega, e⟩]
  · rw [if_neg (show ¬ (W : Int) < 1 by omega), Nat.min_eq_left (by omega), scoreN, if_neg (fun hh => e hh.2), Int.add_zero]
/-- The best width of those below W, and its score; none: 0 and half the length. -/
def widN (xs : List Int) : Nat → Int × Int
  | 0 => (0, (xs.length : Int) / 2)
  | W + 1 => if 2 ≤ W ∧ 4 * W ≤ xs.length ∧ scoreI xs W > (widN xs W).2 then (W, scoreI xs W) else widN xs W
def widI (xs : List Int) : Int := (widN xs 17).1
theorem scoreI_bd (xs : List Int) (W : Int) : 0 ≤ scoreI xs W ∧ scoreI xs W ≤ xs.length := by
  unfold scoreI; split
  · omega
  · exact scoreN_bd _ _ _
theorem widN_short (xs : List Int) (W : Nat) (h : xs.length < 4 * W) : ∀ d, (widN xs (W + d)).1 = (widN xs W).1
  | 0 => rfl
  | d + 1 => by
    have := widN_short xs W h d
    rw [← Nat.add_assoc, widN, if_neg (by omega), this]
theorem widN_low (xs : List Int) : widN xs 2 = (0, (xs.length : Int) / 2) := by simp [widN]
theorem Width_any {b : Value} {xs : List Int} {w : World} (hb : Nm .u8 w b xs) (hl : xs.length ≤ 1000000000) : Calls P n_table_Width #[b] w (fun e w' => e = .returned (.int .i64 (widI xs)) ∧ Ev w w') := by
  refine of_table_Width (gLen_nm hb ?_)
  rw [show i64 (Int.tdiv (xs.length : Int) 2) = (xs.length : Int) / 2 by rw [Int.tdiv_eq_ediv_of_nonneg (by omega), i64_id (by omega) (by omega)]]
  refine ⟨fun best most i w' => ∃ W : Nat, i = W ∧ 2 ≤ W ∧ W ≤ 17 ∧ (best, most) = widN xs W ∧ Ev w w', fun _ _ i _ => 17 - i.toNat, ⟨2, rfl, by omega, by omega, (widN_low xs).symm, Ch.refl _ w⟩, ?_⟩
  rintro _ best most i w1 ⟨W, rfl, hW2, hW, hwd, h1⟩
  have hb1 : best = (widN xs W).1 := congrArg Prod.fst hwd
  have hb2 : most = (widN xs W).2 := congrArg Prod.snd hwd
  refine gIf_dec (fun hle => gLen_nm hb ?_) (fun hgt => ⟨?_, h1⟩)
  · rw [i64_id (n := 4 * (W : Int)) (by omega) (by omega), i64_id (n := (W : Int) + 1) (by omega) (by omega)]
    refine gIf_dec (fun hfit => gCall_i (Score_any (hb.ev h1) hl (by omega)) fun w2 h2 => gIf_dec (fun hs => ⟨⟨W + 1, rfl, by omega, by omega, ?_, h1.trans h2⟩, by dsimp only; omega⟩) (fun hs => ⟨⟨W + 1, rfl, by omega, by omega, ?_, h1.trans h2⟩, by dsimp only; omega⟩)) (fun hno => ⟨?_, h1⟩)
    · rw [widN, if_pos ⟨hW2, by omega, by rw [← hb2]; exact hs⟩]
    · rw [widN, if_neg (fun hh => hs (by rw [hb2]; exact hh.2.2))]; exact hwd
    · obtain ⟨d, hd⟩ : ∃ d, 17 = W + d := ⟨17 - W, by omega⟩
      rw [widI, hd, widN_short xs W (by omega), hb1]
  · obtain rfl : W = 17 := by omega
    rw [hb1]; rfl
/-- valiseref20's top: 0 where none is. -/
def topOf (xs : List Int) (r : Int × Int) : Int := if r.1 = 0 then 0 else r.2
theorem widN_inv (xs : List Int) : ∀ W, 2 ≤ W → ((widN xs W).1 = 0 ∧ (widN xs W).2 = (xs.length : Int) / 2) ∨ (2 ≤ (widN xs W).1 ∧ (widN xs W).2 > (xs.length : Int) / 2)
  | W + 1, h => by
    by_cases h2 : W = 1
    · subst h2; rw [widN_low]; exact .inl ⟨rfl, rfl⟩
    · have ih := widN_inv xs W (by omega)
      rw [widN]
      split
      · rename_i hh
        refine .inr ⟨by dsimp only; omega, ?_⟩
        dsimp only
        rcases ih with h | h <;> omega
      · exact ih
theorem rWidth_any {b : Value} {xs : List Int} {w : World} (hb : Nm .u8 w b xs) (hl : xs.length ≤ 1000000000) : Calls P n_valiseref20_Width #[b] w (fun e w' => e = .returned (.int .i64 (widI xs)) ∧ Ev w w') := by
  refine of_valiseref20_Width ⟨fun best top i w' => ∃ W : Nat, i = W ∧ 2 ≤ W ∧ W ≤ 17 ∧ best = (widN xs W).1 ∧ top = topOf xs (widN xs W) ∧ Ev w w', fun _ _ i _ => 17 - i.toNat, ⟨2, rfl, by omega, by omega, by rw [widN_low], by rw [widN_low]; rfl, Ch.refl _ w⟩, ?_⟩
  rintro _ best top i w1 ⟨W, rfl, hW2, hW, rfl, rfl, h1⟩
  have hinv := widN_inv xs W hW2
  have hsc := scoreI_bd xs W
  refine gIf_dec (fun hle => ?_) (fun hgt => ⟨?_, h1⟩)
  · rw [i64_id (n := 4 * (W : Int)) (by omega) (by omega), i64_id (n := (W : Int) + 1) (by omega) (by omega)]
    refine ⟨fun bb tt w' => bb = (widN xs (W + 1)).1 ∧ tt = topOf xs (widN xs (W + 1)) ∧ Ev w w', gLen_nm hb (gIf_dec (fun hfit => gCall_i (rScore_any (hb.ev h1) hl (by omega)) fun w2 h2 => gLen_nm hb ?_) (fun hno => ?_)), ?_⟩
    · rw [i64_id (n := 2 * scoreI xs W) (by omega) (by omega)]
      refine gIf_dec (fun hs => gCall_i (rScore_any ((hb.ev h1).ev h2) hl (by omega)) fun w3 h3 => gIf_dec (fun ht => gCall_i (rScore_any (((hb.ev h1).ev h2).ev h3) hl (by omega)) fun w4 h4 => ?_) (fun ht => ?_)) (fun hs => ?_)
      · have hc : scoreI xs W > (widN xs W).2 := by
          unfold topOf at ht
          rcases hinv with h | h
          · omega
          · rw [if_neg (by omega)] at ht; omega
        rw [widN, if_pos ⟨hW2, by omega, hc⟩]
        exact ⟨rfl, by unfold topOf; rw [if_neg (by dsimp only; omega)], h1.trans (h2.trans (h3.trans h4))⟩
      · have hc : ¬ scoreI xs W > (widN xs W).2 := by
          unfold topOf at ht
          rcases hinv with h | h
          · rw [if_pos h.1] at ht; omega
          · rw [if_neg (by omega)] at ht; omega
        rw [widN, if_neg (fun hh => hc hh.2.2)]
        exact ⟨rfl, rfl, h1.trans (h2.trans h3)⟩
      · have hc : ¬ scoreI xs W > (widN xs W).2 := by rcases hinv with h | h <;> omega
        rw [widN, if_neg (fun hh => hc hh.2.2)]
        exact ⟨rfl, rfl, h1.trans h2⟩
    · rw [widN, if_neg (fun hh => hno (by omega))]; exact ⟨rfl, rfl, h1⟩
    · rintro _ bb tt w5 ⟨rfl, rfl, h5⟩
      exact ⟨⟨W + 1, rfl, by omega, by omega, rfl, rfl, h5⟩, by dsimp only; omega⟩
  · obtain rfl : W = 17 := by omega
    rfl
def wOf (width : Int) : Nat := (if 1 > width then 1 else width).toNat
theorem wOf_pos (width : Int) : 1 ≤ wOf width := by unfold wOf; split <;> omega
theorem wOf_eq (width : Int) : (if 1 > width then 1 else width) = (wOf width : Int) := by unfold wOf; split <;> omega
def deltaL (xs : List Int) (W : Nat) : List Int := tab xs.length fun i => if i < W then rd xs i else (rd xs i - rd xs ((i - W : Nat) : Int)) % 256
def undAt (xs : List Int) (W i : Nat) : Int := if h : i < W ∨ W = 0 then rd xs i else (rd xs i + undAt xs W (i - W)) % 256
def undeltaL (xs : List Int) (W : Nat) : List Int := tab xs.length fun i => undAt xs W i
theorem Delta_any {b : Value} {xs : List Int} {width : Int} {w : World} (hb : Nm .u8 w b xs) (hl : xs.length ≤ 1000000000) (hw : width ≤ 9223372036854775807) : Calls P n_table_Delta #[b, .int .i64 width] w (NewB w (deltaL xs (wOf width))) := by
  refine of_table_Delta (gApp_on (ON.nil .u8 eB w w.heap.size) hb (by simp; omega) (Nat.le_refl _) fun v w1 hO hc hm => ?_)
  have h1 : Ev w w1 := hc.mono fun _ _ _ hh => by cases hh
  have hW := wOf_pos width
  have hWw : (wOf width : Int) ≤ 9223372036854775807 := by unfold wOf; split <;> omega
  rw [wOf_eq]
  generalize wOf width = W at *
  rw [List.nil_append] at hO
  refine ⟨fun i w' => ∃ j : Nat, i = j ∧ W ≤ j ∧ Ev w w' ∧ ON .u8 eB w' w.heap.size v (tab xs.length fun i => if i < W then rd xs i else if i < j then (rd xs i - rd xs ((i - W : Nat) : Int)) % 256 else rd xs i), fun i _ => xs.length - i.toNat, ⟨W, rfl, by omega, h1, ?_⟩, ?_⟩
  · have : (tab xs.length fun i => if i < W then rd xs i else if i < W then (rd xs i - rd xs ((i - W : Nat) : Int)) % 256 else rd xs i) = xs := by
      conv => rhs; rw [← tab_rd xs]
      exact tab_ext fun i _ => by split <;> simp_all
    rw [this]; exact hO
  rintro _ i w2 ⟨j, rfl, hj, h2, hO2⟩
  refine gLen_nm hb (gIf_dec (fun hlt => ?_) (fun hge => ⟨v, rfl, h2, ?_⟩))
  · rw [show i64 ((j : Int) - W) = ((j - W : Nat) : Int) by rw [i64_id (by omega) (by omega)]; omega, i64_id (n := (j : Int) + 1) (by omega) (by omega)]
    refine ⟨fun _ => True, trivial, gIdx_nm (hb.ev h2.drew) (by omega) hlt fun a1 c1 _ => gIdx_nm (hb.ev h2.drew) (by omega) (by omega) fun a2 c2 _ => two_loads (B := fun _ => True) c1 c2 trivial ?_⟩
    have r1 := rd_u8 hb.2 j
    have r2 := rd_u8 hb.2 ((j - W : Nat) : Int)
    rw [i64_id (n := rd xs j) (by omega) (by omega), i64_id (n := rd xs ((j - W : Nat) : Int)) (by omega) (by omega), i64_id (n := rd xs j - rd xs ((j - W : Nat) : Int)) (by omega) (by omega), u8_def]
    refine gIdx_on hO2.drew (by omega) (by rw [tab_len]; omega) fun a3 s3 _ => gStore_on hO2.drew s3 (by omega) (by rw [tab_len]; omega) (u8i (by omega)) fun w3 h3 _ hO3 => ⟨trivial, ⟨j + 1, rfl, by omega, h2.drew.new h3 fun g _ hg => (hO2.base hg).1, ?_⟩, by dsimp only; omega⟩
    rw [Int.toNat_natCast, tab_set (by omega)] at hO3
    rw [show (tab xs.length fun i => if i < W then rd xs i else if i < j + 1 then (rd xs i - rd xs ((i - W : Nat) : Int)) % 256 else rd xs i) = tab xs.length fun q => if q = j then (rd xs j - rd xs ((j - W : Nat) : Int)) % 256 else if q < W then rd xs q else if q < j then (rd xs q - rd xs ((q - W : Nat) : Int)) % 256 else rd xs q from tab_ext fun q _ => by
      by_cases e : q = j
      · subst e; rw [if_pos rfl, if_neg (by omega), if_pos (by omega)]
      · rw [if_neg e]
        by_cases e2 : q < W
        · rw [if_pos e2, if_pos e2]
        · rw [if_neg e2, if_neg e2]
          by_cases e3 : q < j
          · rw [if_pos e3, if_pos (by omega)]
          · rw [if_neg e3, if_neg (by omega)]]
    exact hO3
  · unfold deltaL
    rw [show (tab xs.length fun i => if i < W then rd xs i else (rd xs i - rd xs ((i - W : Nat) : Int)) % 256) = tab xs.length fun i => if i < W then rd xs i else if i < j then (rd xs i - rd xs ((i - W : Nat) : Int)) % 256 else rd xs i from tab_ext fun q hq => by
      by_cases e2 : q < W
      · rw [if_pos e2, if_pos e2]
      · rw [if_neg e2, if_neg e2, if_pos (by omega)]]
    exact hO2
theorem rDelta_any {b : Value} {xs : List Int} {width : Int} {w : World} (hb : Nm .u8 w b xs) (hl : xs.length ≤ 1000000000) (hw : width ≤ 9223372036854775807) : Calls P n_valiseref20_Delta #[b, .int .i64 width] w (NewB w (deltaL xs (wOf width))) := by
  refine of_valiseref20_Delta (gApp_on (ON.nil .u8 eB w w.heap.size) hb (by simp; omega) (Nat.le_refl _) fun v w1 hO hc hm => ?_)
  have h1 : Ev w w1 := hc.mono fun _ _ _ hh => by cases hh
  have hW := wOf_pos width
  have hWw : (wOf width : Int) ≤ 9223372036854775807 := by unfold wOf; split <;> omega
  rw [wOf_eq]
  generalize wOf width = W at *
  rw [List.nil_append] at hO
  refine ⟨fun i w' => ∃ j : Nat, i = j ∧ W ≤ j ∧ Ev w w' ∧ ON .u8 eB w' w.heap.size v (tab xs.length fun i => if i < W then rd xs i else if i < j then (rd xs i - rd xs ((i - W : Nat) : Int)) % 256 else rd xs i), fun i _ => xs.length - i.toNat, ⟨W, rfl, by omega, h1, ?_⟩, ?_⟩
  · have : (tab xs.length fun i => if i < W then rd xs i else if i < W then (rd xs i - rd xs ((i - W : Nat) : Int)) % 256 else rd xs i) = xs := by
      conv => rhs; rw [← tab_rd xs]
      exact tab_ext fun i _ => by split <;> simp_all
    rw [this]; exact hO
  rintro _ i w2 ⟨j, rfl, hj, h2, hO2⟩
  refine gLen_nm hb (gIf_dec (fun hlt => ?_) (fun hge => ⟨v, rfl, h2, ?_⟩))
  · rw [show i64 ((j : Int) - W) = ((j - W : Nat) : Int) by rw [i64_id (by omega) (by omega)]; omega, i64_id (n := (j : Int) + 1) (by omega) (by omega)]
    refine ⟨fun _ => True, trivial, gIdx_nm (hb.ev h2.drew) (by omega) hlt fun a1 c1 _ => gIdx_nm (hb.ev h2.drew) (by omega) (by omega) fun a2 c2 _ => two_loads (B := fun _ => True) c1 c2 trivial ?_⟩
    have r1 := rd_u8 hb.2 j
    have r2 := rd_u8 hb.2 ((j - W : Nat) : Int)
    rw [u8_def]
    refine gIdx_on hO2.drew (by omega) (by rw [tab_len]; omega) fun a3 s3 _ => gStore_on hO2.drew s3 (by omega) (by rw [tab_len]; omega) (u8i (by omega)) fun w3 h3 _ hO3 => ⟨trivial, ⟨j + 1, rfl, by omega, h2.drew.new h3 fun g _ hg => (hO2.base hg).1, ?_⟩, by dsimp only; omega⟩
    rw [Int.toNat_natCast, tab_set (by omega)] at hO3
    rw [show (tab xs.length fun i => if i < W then rd xs i else if i < j + 1 then (rd xs i - rd xs ((i - W : Nat) : Int)) % 256 else rd xs i) = tab xs.length fun q => if q = j then (rd xs j - rd xs ((j - W : Nat) : Int)) % 256 else if q < W then rd xs q else if q < j then (rd xs q - rd xs ((q - W : Nat) : Int)) % 256 else rd xs q from tab_ext fun q _ => by
      by_cases e : q = j
      · subst e; rw [if_pos rfl, if_neg (by omega), if_pos (by omega)]
      · rw [if_neg e]
        by_cases e2 : q < W
        · rw [if_pos e2, if_pos e2]
        · rw [if_neg e2, if_neg e2]
          by_cases e3 : q < j
          · rw [if_pos e3, if_pos (by omega)]
          · rw [if_neg e3, if_neg (by omega)]]
    exact hO3
  · unfold deltaL
    rw [show (tab xs.length fun i => if i < W then rd xs i else (rd xs i - rd xs ((i - W : Nat) : Int)) % 256) = tab xs.length fun i => if i < W then rd xs i else if i < j then (rd xs i - rd xs ((i - W : Nat) : Int)) % 256 else rd xs i from tab_ext fun q hq => by
      by_cases e2 : q < W
      · rw [if_pos e2, if_pos e2]
      · rw [if_neg e2, if_neg e2, if_pos (by omega)]]
    exact hO2
theorem Undelta_any {b : Value} {xs : List Int} {width : Int} {w : World} (hb : Nm .u8 w b xs) (hl : xs.length ≤ 1000000000) (hw : width ≤ 9223372036854775807) : Calls P n_table_Undelta #[b, .int .i64 width] w (NewB w (undeltaL xs (wOf width))) := by
  refine of_table_Undelta (gApp_on (ON.nil .u8 eB w w.heap.size) hb (by simp; omega) (Nat.le_refl _) fun v w1 hO hc hm => ?_)
  have h1 : Ev w w1 := hc.mono fun _ _ _ hh => by cases hh
  have hW := wOf_pos width
  have hWw : (wOf width : Int) ≤ 9223372036854775807 := by unfold wOf; split <;> omega
  rw [wOf_eq]
  generalize wOf width = W at *
  rw [List.nil_append] at hO
  refine ⟨fun i w' => ∃ j : Nat, i = j ∧ W ≤ j ∧ Ev w w' ∧ ON .u8 eB w' w.heap.size v (tab xs.length fun i => if i < j then undAt xs W i else rd xs i), fun i _ => xs.length - i.toNat, ⟨W, rfl, by omega, h1, ?_⟩, ?_⟩
  · have : (tab xs.length fun i => if i < W then undAt xs W i else rd xs i) = xs := by
      conv => rhs; rw [← tab_rd xs]
      exact tab_ext fun i _ => by
        split
        · rename_i h; rw [undAt, dif_pos (.inl h)]
        · rfl
    rw [this]; exact hO
  rintro _ i w2 ⟨j, rfl, hj, h2, hO2⟩
  refine gLen_nm hb (gIf_dec (fun hlt => ?_) (fun hge => ⟨v, rfl, h2, ?_⟩))
  · rw [show i64 ((j : Int) - W) = ((j - W : Nat) : Int) by rw [i64_id (by omega) (by omega)]; omega, i64_id (n := (j : Int) + 1) (by omega) (by omega)]
    have hrd : rd (tab xs.length fun i => if i < j then undAt xs W i else rd xs i) ((j - W : Nat) : Int) = undAt xs W (j - W) := by rw [rd_tab (by omega), if_pos (by omega)]
    have hun : undAt xs W j = (rd xs j + undAt xs W (j - W)) % 256 := by rw [undAt, dif_neg (by omega)]
    refine ⟨fun _ => True, trivial, gIdx_nm (hb.ev h2.drew) (by omega) hlt fun a1 c1 _ => gIdx_nm hO2.drew.nm (by omega) (by rw [tab_len]; omega) fun a2 c2 _ => two_loads (B := fun _ => True) c1 c2 trivial ?_⟩
    have r1 := rd_u8 hb.2 j
    have r2 := rd_u8 hO2.2 ((j - W : Nat) : Int)
    rw [hrd] at r2 ⊢
    rw [i64_id (n := rd xs j) (by omega) (by omega), i64_id (n := undAt xs W (j - W)) (by omega) (by omega), i64_id (n := rd xs j + undAt xs W (j - W)) (by omega) (by omega), u8_def]
    refine gIdx_on hO2.drew (by omega) (by rw [tab_len]; omega) fun a3 s3 _ => gStore_on hO2.drew s3 (by omega) (by rw [tab_len]; omega) (u8i (by omega)) fun w3 h3 _ hO3 => ⟨trivial, ⟨j + 1, rfl, by omega, h2.drew.new h3 fun g _ hg => (hO2.base hg).1, ?_⟩, by dsimp only; omega⟩
    rw [Int.toNat_natCast, tab_set (by omega), ← hun] at hO3
    rw [show (tab xs.length fun i => if i < j + 1 then undAt xs W i else rd xs i) = tab xs.length fun q => if q = j then undAt xs W j else if q < j then undAt xs W q else rd xs q from tab_ext fun q _ => by
      by_cases e : q = j
      · subst e; rw [if_pos rfl, if_pos (by omega)]
      · rw [if_neg e]
        by_cases e3 : q < j
        · rw [if_pos e3, if_pos (by omega)]
        · rw [if_neg e3, if_neg (by omega)]]
    exact hO3
  · unfold undeltaL
    rw [show (tab xs.length fun i => undAt xs W i) = tab xs.length fun i => if i < j then undAt xs W i else rd xs i from tab_ext fun q hq => by rw [if_pos (by omega)]]
    exact hO2
theorem rUndelta_any {b : Value} {xs : List Int} {width : Int} {w : World} (hb : Nm .u8 w b xs) (hl : xs.length ≤ 1000000000) (hw : width ≤ 9223372036854775807) : Calls P n_valiseref20_Undelta #[b, .int .i64 width] w (NewB w (undeltaL xs (wOf width))) := by
  refine of_valiseref20_Undelta (gApp_on (ON.nil .u8 eB w w.heap.size) hb (by simp; omega) (Nat.le_refl _) fun v w1 hO hc hm => ?_)
  have h1 : Ev w w1 := hc.mono fun _ _ _ hh => by cases hh
  have hW := wOf_pos width
  have hWw : (wOf width : Int) ≤ 9223372036854775807 := by unfold wOf; split <;> omega
  rw [wOf_eq]
  generalize wOf width = W at *
  rw [List.nil_append] at hO
  refine ⟨fun i w' => ∃ j : Nat, i = j ∧ W ≤ j ∧ Ev w w' ∧ ON .u8 eB w' w.heap.size v (tab xs.length fun i => if i < j then undAt xs W i else rd xs i), fun i _ => xs.length - i.toNat, ⟨W, rfl, by omega, h1, ?_⟩, ?_⟩
  · have : (tab xs.length fun i => if i < W then undAt xs W i else rd xs i) = xs := by
      conv => rhs; rw [← tab_rd xs]
      exact tab_ext fun i _ => by
        split
        · rename_i h; rw [undAt, dif_pos (.inl h)]
        · rfl
    rw [this]; exact hO
  rintro _ i w2 ⟨j, rfl, hj, h2, hO2⟩
  refine gLen_nm hb (gIf_dec (fun hlt => ?_) (fun hge => ⟨v, rfl, h2, ?_⟩))
  · rw [show i64 ((j : Int) - W) = ((j - W : Nat) : Int) by rw [i64_id (by omega) (by omega)]; omega, i64_id (n := (j : Int) + 1) (by omega) (by omega)]
    have hrd : rd (tab xs.length fun i => if i < j then undAt xs W i else rd xs i) ((j - W : Nat) : Int) = undAt xs W (j - W) := by rw [rd_tab (by omega), if_pos (by omega)]
    have hun : undAt xs W j = (rd xs j + undAt xs W (j - W)) % 256 := by rw [undAt, dif_neg (by omega)]
    refine ⟨fun _ => True, trivial, gIdx_nm (hb.ev h2.drew) (by omega) hlt fun a1 c1 _ => gIdx_nm hO2.drew.nm (by omega) (by rw [tab_len]; omega) fun a2 c2 _ => two_loads (B := fun _ => True) c1 c2 trivial ?_⟩
    have r1 := rd_u8 hb.2 j
    have r2 := rd_u8 hO2.2 ((j - W : Nat) : Int)
    rw [hrd] at r2 ⊢
    rw [u8_def]
    refine gIdx_on hO2.drew (by omega) (by rw [tab_len]; omega) fun a3 s3 _ => gStore_on hO2.drew s3 (by omega) (by rw [tab_len]; omega) (u8i (by omega)) fun w3 h3 _ hO3 => ⟨trivial, ⟨j + 1, rfl, by omega, h2.drew.new h3 fun g _ hg => (hO2.base hg).1, ?_⟩, by dsimp only; omega⟩
    rw [Int.toNat_natCast, tab_set (by omega), ← hun] at hO3
    rw [show (tab xs.length fun i => if i < j + 1 then undAt xs W i else rd xs i) = tab xs.length fun q => if q = j then undAt xs W j else if q < j then undAt xs W q else rd xs q from tab_ext fun q _ => by
      by_cases e : q = j
      · subst e; rw [if_pos rfl, if_pos (by omega)]
      · rw [if_neg e]
        by_cases e3 : q < j
        · rw [if_pos e3, if_pos (by omega)]
        · rw [if_neg e3, if_neg (by omega)]]
    exact hO3
  · unfold undeltaL
    rw [show (tab xs.length fun i => undAt xs W i) = tab xs.length fun i => if i < j then undAt xs W i else rd xs i from tab_ext fun q hq => by rw [if_pos (by omega)]]
    exact hO2
end Go.Proofs.YtlkjbilmfgfopaaV
