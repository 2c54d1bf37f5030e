import Derived.Lib.Bytealg
import Derived.Maps.Own
import Derived.Maps.Views
import Derived.Maps.Range
import Derived.Carry
import Derived.StringKeys
import Derived.Handed
import Derived.ShapedOpen
import Derived.Test.YtilpoinhfiajcaaGreatDoorVQart11
set_option linter.unusedVariables false
set_option linter.unusedSimpArgs false
/- Package table: Score, Width, Delta, Undelta; the same of valiseref20. -/
namespace Go.Proofs.YtilpoinhfiajcaaGreatDoorV
open Go Go.RowKit
/-- At how many places up to j a byte is the one a width ahead. -/
def scoreN (xs : List Int) (W : Nat) : Nat → Int
  | 0 => 0
  | j + 1 => scoreN xs W j + (if W ≤ j ∧ rd xs (j : Int) = rd xs ((j - W : Nat) : Int) then 1 else 0)
theorem scoreN_bd (xs : List Int) (W : Nat) : ∀ j, 0 ≤ scoreN xs W j ∧ scoreN xs W j ≤ j
  | 0 => by simp [scoreN]
  | j + 1 => by have := scoreN_bd xs W j; rw [scoreN]; split <;> omega
theorem scoreN_low (xs : List Int) (W : Nat) : ∀ j, j ≤ W → scoreN xs W j = 0
  | 0, _ => rfl
  | j + 1, h => by rw [scoreN, scoreN_low xs W j (by omega), if_neg (by omega)]; rfl
def scoreI (xs : List Int) (width : Int) : Int := if width < 1 then 0 else scoreN xs width.toNat xs.length
theorem Score_any {b : Value} {xs : List Int} {width : Int} {w : World} (hb : Nm .u8 w b xs) (hl : xs.length ≤ 1000000000) (hw : width ≤ 9223372036854775807) : Calls P n_table_Score #[b, .int .i64 width] w (fun e w' => e = .returned (.int .i64 (scoreI xs width)) ∧ Ev w w') := by
  refine of_table_Score (gIf_dec (fun h => ⟨by unfold scoreI; rw [if_pos h], Ch.refl _ w⟩) (fun h => ?_))
  obtain ⟨W, rfl⟩ : ∃ W : Nat, width = W := ⟨width.toNat, by omega⟩
  unfold scoreI
  rw [if_neg h, Int.toNat_natCast]
  refine ⟨fun n i w' => ∃ j : Nat, i = j ∧ W ≤ j ∧ n = scoreN xs W (min j xs.length) ∧ Ev w w', fun _ i _ => xs.length - i.toNat, ⟨W, rfl, by omega, (scoreN_low xs W _ (by omega)).symm, Ch.refl _ w⟩, ?_⟩
  rintro _ n i w1 ⟨j, rfl, hj, rfl, h1⟩
  refine gLen_nm hb (gIf_dec (fun hlt => ?_) (fun hge => ⟨by rw [Nat.min_eq_right (by omega)], h1⟩))
  rw [Nat.min_eq_left (by omega)]
  have hs := scoreN_bd xs W j
  rw [show i64 ((j : Int) - W) = ((j - W : Nat) : Int) by rw [i64_id (by omega) (by omega)]; omega, i64_id (n := (j : Int) + 1) (by omega) (by omega), i64_id (n := scoreN xs W j + 1) (by omega) (by omega)]
  refine gIdx_nm (hb.ev h1) (by omega) hlt fun a1 c1 _ => gLoadB_i (at1 c1) (gIdx_nm (hb.ev h1) (by omega) (by omega) fun a2 c2 _ => gLoadB_i (at1 c2) (gIf_eq (fun e => ⟨⟨j + 1, rfl, by omega, ?_, h1.drew⟩, by dsimp only; omega⟩) (fun e => ⟨⟨j + 1, rfl, by omega, ?_, h1.drew⟩, by dsimp only; omega⟩)))
  · rw [Nat.min_eq_left (by omega), scoreN, if_pos ⟨hj, e⟩]
  · rw [Nat.min_eq_left (by omega), scoreN, if_neg (fun hh => e hh.2), Int.add_zero]
theorem rScore_any {b : Value} {xs : List Int} {width : Int} {w : World} (hb : Nm .u8 w b xs) (hl : xs.length ≤ 1000000000) (hw : width ≤ 9223372036854775807) : Calls P n_valiseref20_Score #[b, .int .i64 width] w (fun e w' => e = .returned (.int .i64 (scoreI xs width)) ∧ Ev w w') := by
  refine of_valiseref20_Score ⟨fun n i w' => ∃ j : Nat, i = j ∧ 1 ≤ j ∧ width ≤ j ∧ n = (if width < 1 then 0 else scoreN xs width.toNat (min j xs.length)) ∧ Ev w w', fun _ i _ => xs.length - i.toNat, ⟨(if 1 > width then 1 else width).toNat, ?_, ?_, ?_, ?_, Ch.refl _ w⟩, ?_⟩
  · split <;> omega
  · split <;> omega
  · split <;> omega
  · split
    · rfl
    · rw [scoreN_low]; omega
  rintro _ n i w1 ⟨j, rfl, hj1, hj, rfl, h1⟩
  unfold scoreI
  refine ⟨fun w' => j < xs.length ∧ 1 ≤ width ∧ w' = w1, gLen_nm hb (gIf_dec (fun hlt => gIf_dec (fun h1' => ⟨by omega, h1', rfl⟩) (fun hn => ⟨by rw [if_pos (by omega), if_pos (by omega)], h1⟩)) (fun hge => ⟨by rw [Nat.min_eq_right (by omega)], h1⟩)), ?_⟩
  rintro _ _ ⟨hlt, hw1, rfl⟩
  rename_i w1
  obtain ⟨W, rfl⟩ : ∃ W : Nat, width = W := ⟨width.toNat, by omega⟩
  rw [if_neg (by omega), Int.toNat_natCast, Nat.min_eq_left (by omega)]
  have hs := scoreN_bd xs W j
  rw [show i64 ((j : Int) - W) = ((j - W : Nat) : Int) by rw [i64_id (by omega) (by omega)]; omega, i64_id (n := (j : Int) + 1) (by omega) (by omega), i64_id (n := scoreN xs W j + 1) (by omega) (by omega)]
  refine gIdx_nm (hb.ev h1) (by omega) (by omega) fun a1 c1 _ => gLoadB_i (at1 c1) (gIdx_nm (hb.ev h1) (by omega) (by omega) fun a2 c2 _ => gLoadB_i (at1 c2) (gIf_eq (fun e => ⟨⟨j + 1, rfl, by omega, by omega, ?_, h1.drew⟩, by dsimp only; omega⟩) (fun e => ⟨⟨j + 1, rfl, by omega, by omega, ?_, h1.drew⟩, by dsimp only; omega⟩)))
  · rw [if_neg (show ¬ (W : Int) < 1 by omega), Nat.min_eq_left (by omega), scoreN, if_pos ⟨by omega, e⟩]
  · rw [if_neg (show ¬ (W : Int) < 1 by omega), Nat.min_eq_left (by omega), scoreN, if_neg (fun hh => e hh.2), Int.add_zero]
/-- The best width of those below W, and its score; none: 0 and half the length. -/
def widN (xs : List Int) : Nat → Int × Int
  | 0 => (0, (xs.length : Int) / 2)
  | W + 1 => if 2 ≤ W ∧ 4 * W ≤ xs.length ∧ scoreI xs W > (widN xs W).2 then (W, scoreI xs W) else widN xs W
def widI (xs : List Int) : Int := (widN xs 17).1
theorem scoreI_bd (xs : List Int) (W : Int) : 0 ≤ scoreI xs W ∧ scoreI xs W ≤ xs.length := by
  unfold scoreI; split
  · omega
  · exact scoreN_bd _ _ _
theorem widN_short (xs : List Int) (W : Nat) (h : xs.length < 4 * W) : ∀ d, (widN xs (W + d)).1 = (widN xs W).1
  | 0 => rfl
  | d + 1 => by
    have := widN_short xs W h d
    rw [← Nat.add_assoc, widN, if_neg (by omega), this]
theorem widN_low (xs : List Int) : widN xs 2 = (0, (xs.length : Int) / 2) := by simp [widN]
theorem Width_any {b : Value} {xs : List Int} {w : World} (hb : Nm .u8 w b xs) (hl : xs.length ≤ 1000000000) : Calls P n_table_Width #[b] w (fun e w' => e = .returned (.int .i64 (widI xs)) ∧ Ev w w') := by
  refine of_table_Width (gLen_nm hb ?_)
  rw [show i64 (Int.tdiv (xs.length : Int) 2) = (xs.length : Int) / 2 by rw [Int.tdiv_eq_ediv_of_nonneg (by omega), i64_id (by omega) (by omega)]]
  refine ⟨fun best most i w' => ∃ W : Nat, i = W ∧ 2 ≤ W ∧ W ≤ 17 ∧ (best, most) = widN xs W ∧ Ev w w', fun _ _ i _ => 17 - i.toNat, ⟨2, rfl, by omega, by omega, (widN_low xs).symm, Ch.refl _ w⟩, ?_⟩
  rintro _ best most i w1 ⟨W, rfl, hW2, hW, hwd, h1⟩
  have hb1 : best = (widN xs W).1 := congrArg Prod.fst hwd
  have hb2 : most = (widN xs W).2 := congrArg Prod.snd hwd
  refine gIf_dec (fun hle => gLen_nm hb ?_) (fun hgt => ⟨?_, h1⟩)
  · rw [i64_id (n := 4 * (W : Int)) (by omega) (by omega), i64_id (n := (W : Int) + 1) (by omega) (by omega)]
    refine gIf_dec (fun hfit => gCall_i (Score_any (hb.ev h1) hl (by omega)) fun w2 h2 => gIf_dec (fun hs => ⟨⟨W + 1, rfl, by omega, by omega, ?_, h1.trans h2⟩, by dsimp only; omega⟩) (fun hs => ⟨⟨W + 1, rfl, by omega, by omega, ?_, h1.trans h2⟩, by dsimp only; omega⟩)) (fun hno => ⟨?_, h1⟩)
    · rw [widN, if_pos ⟨hW2, by omega, by rw [← hb2]; exact hs⟩]
    · rw [widN, if_neg (fun hh => hs (by rw [hb2]; exact hh.2.2))]; exact hwd
    · obtain ⟨d, hd⟩ : ∃ d, 17 = W + d := ⟨17 - W, by omega⟩
      rw [widI, hd, widN_short xs W (by omega), hb1]
  · obtain rfl : W = 17 := by omega
    rw [hb1]; rfl
/-- valiseref20's top: 0 where none is. -/
def topOf (xs : List Int) (r : Int × Int) : Int := if r.1 = 0 then 0 else r.2
theorem widN_inv (xs : List Int) : ∀ W, 2 ≤ W → ((widN xs W).1 = 0 ∧ (widN xs W).2 = (xs.length : Int) / 2) ∨ (2 ≤ (widN xs W).1 ∧ (widN xs W).2 > (xs.length : Int) / 2)
  | W + 1, h => by
    by_cases h2 : W = 1
    · subst h2; rw [widN_low]; exact .inl ⟨rfl, rfl⟩
    · have ih := widN_inv xs W (by omega)
      rw [widN]
      split
      · rename_i hh
        refine .inr ⟨by dsimp only; omega, ?_⟩
        dsimp only
        rcases ih with h | h <;> omega
      · exact ih
theorem rWidth_any {b : Value} {xs : List Int} {w : World} (hb : Nm .u8 w b xs) (hl : xs.length ≤ 1000000000) : Calls P n_valiseref20_Width #[b] w (fun e w' => e = .returned (.int .i64 (widI xs)) ∧ Ev w w') := by
  refine of_valiseref20_Width ⟨fun best top i w' => ∃ W : Nat, i = W ∧ 2 ≤ W ∧ W ≤ 17 ∧ best = (widN xs W).1 ∧ top = topOf xs (widN xs W) ∧ Ev w w', fun _ _ i _ => 17 - i.toNat, ⟨2, rfl, by omega, by omega, by rw [widN_low], by rw [widN_low]; rfl, Ch.refl _ w⟩, ?_⟩
  rintro _ best top i w1 ⟨W, rfl, hW2, hW, rfl, rfl, h1⟩
  have hinv := widN_inv xs W hW2
  have hsc := scoreI_bd xs W
  refine gIf_dec (fun hle => ?_) (fun hgt => ⟨?_, h1⟩)
  · rw [i64_id (n := 4 * (W : Int)) (by omega) (by omega), i64_id (n := (W : Int) + 1) (by omega) (by omega)]
    refine ⟨fun bb tt w' => bb = (widN xs (W + 1)).1 ∧ tt = topOf xs (widN xs (W + 1)) ∧ Ev w w', gLen_nm hb (gIf_dec (fun hfit => gCall_i (rScore_any (hb.ev h1) hl (by omega)) fun w2 h2 => gLen_nm hb ?_) (fun hno => ?_)), ?_⟩
    · rw [i64_id (n := 2 * scoreI xs W) (by omega) (by omega)]
      refine gIf_dec (fun hs => gCall_i (rScore_any ((hb.ev h1).ev h2) hl (by omega)) fun w3 h3 => gIf_dec (fun ht => gCall_i (rScore_any (((hb.ev h1).ev h2).ev h3) hl (by omega)) fun w4 h4 => ?_) (fun ht => ?_)) (fun hs => ?_)
      · have hc : scoreI xs W > (widN xs W).2 := by
          unfold topOf at ht
          rcases hinv with h | h
          · omega
          · rw [if_neg (by omega)] at ht; omega
        rw [widN, if_pos ⟨hW2, by omega, hc⟩]
        exact ⟨rfl, by unfold topOf; rw [if_neg (by dsimp only; omega)], h1.trans (h2.trans (h3.trans h4))⟩
      · have hc : ¬ scoreI xs W > (widN xs W).2 := by
          unfold topOf at ht
          rcases hinv with h | h
          · rw [if_pos h.1] at ht; omega
          · rw [if_neg (by omega)] at ht; omega
        rw [widN, if_neg (fun hh => hc hh.2.2)]
        exact ⟨rfl, rfl, h1.trans (h2.trans h3)⟩
      · have hc : ¬ scoreI xs W > (widN xs W).2 := by rcases hinv with h | h <;> omega
        rw [widN, if_neg (fun hh => hc hh.2.2)]
        exact ⟨rfl, rfl, h1.trans h2⟩
    · rw [widN, if_neg (fun hh => hno (by omega))]; exact ⟨rfl, rfl, h1⟩
    · rintro _ bb tt w5 ⟨rfl, rfl, h5⟩
      exact ⟨⟨W + 1, rfl, by omega, by omega, rfl, rfl, h5⟩, by dsimp only; omega⟩
  · obtain rfl : W = 17 := by omega
    rfl
def wOf (width : Int) : Nat := (if 1 > width then 1 else width).toNat
theorem wOf_pos (width : Int) : 1 ≤ wOf width := by unfold wOf; split <;> omega
theorem wOf_eq (width : Int) : (if 1 > width then 1 else width) = (wOf width : Int) := by unfold wOf; split <;> omega
def deltaL (xs : List Int) (W : Nat) : List Int := tab xs.length fun i => if i < W then rd xs i else (rd xs i - rd xs ((i - W : Nat) : Int)) % 256
theorem Delta_any {b : Value} {xs : List Int} {width : Int} {w : World} (hb : Nm .u8 w b xs) (hl : xs.length ≤ 1000000000) (hw : width ≤ 9223372036854775807) : Calls P n_table_Delta #[b, .int .i64 width] w (NewB w (deltaL xs (wOf width))) := by
  refine of_table_Delta (gApp_on (ON.nil .u8 eB w w.heap.size) hb (by simp; omega) (Nat.le_refl _) fun v w1 hO hc hm => ?_)
  have h1 : Ev w w1 := hc.mono fun _ _ _ hh => by cases hh
  have hW := wOf_pos width
  have hWw : (wOf width : Int) ≤ 9223372036854775807 := by unfold wOf; split <;> omega
  rw [wOf_eq]
  generalize wOf width = W at *
  rw [List.nil_append] at hO
  refine ⟨fun i w' => ∃ j : Nat, i = j ∧ W ≤ j ∧ Ev w w' ∧ ON .u8 eB w' w.heap.size v (tab xs.length fun i => if i < W then rd xs i else if i < j then (rd xs i - rd xs ((i - W : Nat) : Int)) % 256 else rd xs i), fun i _ => xs.length - i.toNat, ⟨W, rfl, by omega, h1, ?_⟩, ?_⟩
  · have : (tab xs.length fun i => if i < W then rd xs i else if i < W then (rd xs i - rd xs ((i - W : Nat) : Int)) % 256 else rd xs i) = xs := by
      conv => rhs; rw [← tab_rd xs]
      exact tab_ext fun i _ => by split <;> simp_all
    rw [this]; exact hO
  rintro _ i w2 ⟨j, rfl, hj, h2, hO2⟩
  refine gLen_nm hb (gIf_dec (fun hlt => ?_) (fun hge => ⟨v, rfl, h2, ?_⟩))
  · rw [show i64 ((j : Int) - W) = ((j - W : Nat) : Int) by rw [i64_id (by omega) (by omega)]; omega, i64_id (n := (j : Int) + 1) (by omega) (by omega)]
    refine ⟨fun _ => True, fun w' => w' = w2.drew, ⟨trivial, rfl⟩, gIdx_nm (hb.ev h2.drew) (by omega) hlt fun a1 c1 _ => gLoadB_i (fun w' h => by subst h; exact c1) (gIdx_nm (hb.ev h2.drew) (by omega) (by omega) fun a2 c2 _ => gLoadB_i (fun w' h => by subst h; exact c2) ?_)⟩
    have r1 := rd_u8 hb.2 j
    have r2 := rd_u8 hb.2 ((j - W : Nat) : Int)
    rw [i64_id (n := rd xs j) (by omega) (by omega), i64_id (n := rd xs ((j - W : Nat) : Int)) (by omega) (by omega), i64_id (n := rd xs j - rd xs ((j - W : Nat) : Int)) (by omega) (by omega), u8_def]
    refine gIdx_on hO2.drew (by omega) (by rw [tab_len]; omega) fun a3 s3 _ => gStore_on hO2.drew s3 (by omega) (by rw [tab_len]; omega) (u8i (by omega)) fun w3 h3 _ hO3 => ⟨trivial, ⟨j + 1, rfl, by omega, h2.drew.new h3 fun g _ hg => (hO2.base hg).1, ?_⟩, by dsimp only; omega⟩
    rw [Int.toNat_natCast, tab_set (by omega)] at hO3
    rw [show (tab xs.length fun i => if i < W then rd xs i else if i < j + 1 then (rd xs i - rd xs ((i - W : Nat) : Int)) % 256 else rd xs i) = tab xs.length fun q => if q = j then (rd xs j - rd xs ((j - W : Nat) : Int)) % 256 else if q < W then rd xs q else if q < j then (rd xs q - rd xs ((q - W : Nat) : Int)) % 256 else rd xs q from tab_ext fun q _ => by
      by_cases e : q = j
      · subst e; rw [if_pos rfl, if_neg (by omega), if_pos (by omega)]
      · rw [if_neg e]
        by_cases e2 : q < W
        · rw [if_pos e2, if_pos e2]
        · rw [if_neg e2, if_neg e2]
          by_cases e3 : q < j
          · rw [if_pos e3, if_pos (by omega)]
          · rw [if_neg e3, if_neg (by omega)]]
    exact hO3
  · unfold deltaL
    rw [show (tab xs.length fun i => if i < W then rd xs i else (rd xs i - rd xs ((i - W : Nat) : Int)) % 256) = tab xs.length fun i => if i < W then rd xs i else if i < j then (rd xs i - rd xs ((i - W : Nat) : Int)) % 256 else rd xs i from tab_ext fun q hq => by
      by_cases e2 : q < W
      · rw [if_pos e2, if_pos e2]
      · rw [if_neg e2, if_neg e2, if_pos (by omega)]]
    exact hO2
theorem rDelta_any {b : Value} {xs : List Int} {width : Int} {w : World} (hb : Nm .u8 w b xs) (hl : xs.length ≤ 1000000000) (hw : width ≤ 9223372036854775807) : Calls P n_valiseref20_Delta #[b, .int .i64 width] w (NewB w (deltaL xs (wOf width))) := by
  refine of_valiseref20_Delta (gApp_on (ON.nil .u8 eB w w.heap.size) hb (by simp; omega) (Nat.le_refl _) fun v w1 hO hc hm => ?_)
  have h1 : Ev w w1 := hc.mono fun _ _ _ hh => by cases hh
  have hW := wOf_pos width
  have hWw : (wOf width : Int) ≤ 9223372036854775807 := by unfold wOf; split <;> omega
  rw [wOf_eq]
  generalize wOf width = W at *
  rw [List.nil_append] at hO
  refine ⟨fun i w' => ∃ j : Nat, i = j ∧ W ≤ j ∧ Ev w w' ∧ ON .u8 eB w' w.heap.size v (tab xs.length fun i => if i < W then rd xs i else if i < j then (rd xs i - rd xs ((i - W : Nat) : Int)) % 256 else rd xs i), fun i _ => xs.length - i.toNat, ⟨W, rfl, by omega, h1, ?_⟩, ?_⟩
  · have : (tab xs.length fun i => if i < W then rd xs i else if i < W then (rd xs i - rd xs ((i - W : Nat) : Int)) % 256 else rd xs i) = xs := by
      conv => rhs; rw [← tab_rd xs]
      exact tab_ext fun i _ => by split <;> simp_all
    rw [this]; exact hO
  rintro _ i w2 ⟨j, rfl, hj, h2, hO2⟩
  refine gLen_nm hb (gIf_dec (fun hlt => ?_) (fun hge => ⟨v, rfl, h2, ?_⟩))
  · rw [show i64 ((j : Int) - W) = ((j - W : Nat) : Int) by rw [i64_id (by omega) (by omega)]; omega, i64_id (n := (j : Int) + 1) (by omega) (by omega)]
    refine ⟨fun _ => True, fun w' => w' = w2.drew, ⟨trivial, rfl⟩, gIdx_nm (hb.ev h2.drew) (by omega) hlt fun a1 c1 _ => gLoadB_i (fun w' h => by subst h; exact c1) (gIdx_nm (hb.ev h2.drew) (by omega) (by omega) fun a2 c2 _ => gLoadB_i (fun w' h => by subst h; exact c2) ?_)⟩
    have r1 := rd_u8 hb.2 j
    have r2 := rd_u8 hb.2 ((j - W : Nat) : Int)
    rw [u8_def]
    refine gIdx_on hO2.drew (by omega) (by rw [tab_len]; omega) fun a3 s3 _ => gStore_on hO2.drew s3 (by omega) (by rw [tab_len]; omega) (u8i (by omega)) fun w3 h3 _ hO3 => ⟨trivial, ⟨j + 1, rfl, by omega, h2.drew.new h3 fun g _ hg => (hO2.base hg).1, ?_⟩, by dsimp only; omega⟩
    rw [Int.toNat_natCast, tab_set (by omega)] at hO3
    rw [show (tab xs.length fun i => if i < W then rd xs i else if i < j + 1 then (rd xs i - rd xs ((i - W : Nat) : Int)) % 256 else rd xs i) = tab xs.length fun q => if q = j then (rd xs j - rd xs ((j - W : Nat) : Int)) % 256 else if q < W then rd xs q else if q < j then (rd xs q - rd xs ((q - W : Nat) : Int)) % 256 else rd xs q from tab_ext fun q _ => by
      by_cases e : q = j
      · subst e; rw [if_pos rfl, if_neg (by omega), if_pos (by omega)]
      · rw [if_neg e]
        by_cases e2 : q < W
        · rw [if_pos e2, if_pos e2]
        · rw [if_neg e2, if_neg e2]
          by_cases e3 : q < j
          · rw [if_pos e3, if_pos (by omega)]
          · rw [if_neg e3, if_neg (by omega)]]
    exact hO3
  · unfold deltaL
    rw [show (tab xs.length fun i => if i < W then rd xs i else (rd xs i - rd xs ((i - W : Nat) : Int)) % 256) = tab xs.length fun i => if i < W then rd xs i else if i < j then (rd xs i - rd xs ((i - W : Nat) : Int)) % 256 else rd xs i from tab_ext fun q hq => by
      by_cases e2 : q < W
      · rw [if_pos e2, if_pos e2]
      · rw [if_neg e2, if_neg e2, if_pos (by omega)]]
    exact hO2
end Go.Proofs.YtilpoinhfiajcaaGreatDoorV

/- Package colour: Apart and Together. -/
namespace Go.Proofs.YtilpoinhfiajcaaGreatDoorV
open Go Go.RowKit
def cl16 (n : Int) : Nat := (if (if 16 < n then 16 else n) > 1 then (if 16 < n then 16 else n) else 1).toNat
theorem cl16_eq (n : Int) : (if (if 16 < n then 16 else n) > 1 then (if 16 < n then 16 else n) else 1) = (cl16 n : Int) := by unfold cl16; split <;> split <;> omega
theorem cl16_bd (n : Int) : 1 ≤ cl16 n ∧ cl16 n ≤ 16 := by unfold cl16; split <;> split <;> omega
def apAt (xs : List Int) (n m q : Nat) : Int := if q < n * m then rd xs ((q % m * n + q / m : Nat) : Int) else rd xs q
def apartL (xs : List Int) (n : Nat) : List Int := tab xs.length (apAt xs n (xs.length / n))
theorem apartL_len (xs : List Int) (n : Nat) : (apartL xs n).length = xs.length := tab_len _ _
theorem grid {n m i k : Nat} (hi : i < m) (hk : k < n) : i * n + k < n * m ∧ (i * n + k) % n = k ∧ (i * n + k) / n = i := by
  have h1 : (i + 1) * n ≤ m * n := Nat.mul_le_mul_right _ hi
  rw [Nat.succ_mul, Nat.mul_comm m n] at h1
  refine ⟨by omega, ?_, ?_⟩
  · rw [Nat.mul_comm, Nat.mul_add_mod, Nat.mod_eq_of_lt hk]
  · rw [Nat.mul_comm, Nat.mul_add_div (by omega), Nat.div_eq_of_lt hk]; omega
theorem quo_nat {a n : Nat} (ha : a ≤ 1000000000) : IntKind.wrap .i64 (Int.tdiv (a : Int) (n : Int)) = ((a / n : Nat) : Int) := by
  rw [Int.tdiv_eq_ediv_of_nonneg (by omega)]
  have h1 : a / n ≤ a := Nat.div_le_self _ _
  have : ((a / n : Nat) : Int) = (a : Int) / n := by rw [Int.natCast_ediv]
  rw [← this]; clear this; generalize a / n = t at h1 ⊢; exact i64_id (by omega) (by omega)
theorem Apart_any {b : Value} {xs : List Int} {n : Int} {w : World} (hb : Nm .u8 w b xs) (hl : xs.length ≤ 1000000000) : Calls P n_colour_Apart #[b, .int .i64 n] w (NewB w (apartL xs (cl16 n))) := by
  refine of_colour_Apart (gLen_nm hb ?_)
  rw [cl16_eq]
  have hn := cl16_bd n
  generalize cl16 n = N at hn
  refine gBin_quo (by omega) ?_
  rw [quo_nat hl]
  unfold apartL
  have hm := Nat.div_mul_le_self xs.length N
  rw [Nat.mul_comm] at hm
  have hmle : xs.length / N ≤ xs.length := Nat.div_le_self _ _
  generalize xs.length / N = M at *
  refine gApp_on (ON.nil .u8 eB w w.heap.size) hb (by simp; omega) (Nat.le_refl _) fun v w1 hO hc hmv => ?_
  have h1 : Ev w w1 := hc.mono fun _ _ _ hh => by cases hh
  rw [List.nil_append] at hO
  have t0 : ∀ c, c = 0 → (tab xs.length fun q => if q < c then apAt xs N M q else rd xs q) = xs := fun c hc => by
    subst hc
    conv => rhs; rw [← tab_rd xs]
    exact tab_ext fun q _ => by rw [if_neg (by omega)]
  refine ⟨fun k w' => ∃ K : Nat, k = K ∧ K ≤ N ∧ Ev w w' ∧ ON .u8 eB w' w.heap.size v (tab xs.length fun q => if q < K * M then apAt xs N M q else rd xs q), fun k _ => N - k.toNat, ⟨0, rfl, by omega, h1, by rw [t0 _ (by simp)]; exact hO⟩, ?_⟩
  rintro _ k w2 ⟨K, rfl, hK, h2, hO2⟩
  refine gIf_dec (fun hlt => ?_) (fun hge => ⟨v, rfl, h2, ?_⟩)
  · have hKN : K < N := by omega
    refine ⟨fun i w' => ∃ I : Nat, i = I ∧ I ≤ M ∧ Ev w w' ∧ ON .u8 eB w' w.heap.size v (tab xs.length fun q => if q < K * M + I then apAt xs N M q else rd xs q), fun i _ => M - i.toNat, ⟨0, rfl, by omega, h2, hO2⟩, ?_⟩
    rintro _ i w3 ⟨I, rfl, hI, h3, hO3⟩
    refine gIf_dec (fun hil => ?_) (fun hig => ?_)
    · obtain ⟨g1, g2, g3⟩ := grid (n := N) (m := M) (i := I) (k := K) (by omega) hKN
      obtain ⟨g4, g5, g6⟩ := grid (n := M) (m := N) (i := K) (k := I) hKN (by omega)
      rw [Nat.mul_comm M N] at g4
      have hIN : I * N ≤ 1000000000 := by omega
      have hKM : K * M ≤ 1000000000 := by omega
      rw [show i64 ((I : Int) * (N : Int)) = ((I * N : Nat) : Int) by rw [← Int.natCast_mul]; exact i64_id (by omega) (by omega), show i64 (((I * N : Nat) : Int) + K) = ((I * N + K : Nat) : Int) by rw [i64_id (by omega) (by omega)]; omega,
        show i64 ((K : Int) * (M : Int)) = ((K * M : Nat) : Int) by rw [← Int.natCast_mul]; exact i64_id (by omega) (by omega), show i64 (((K * M : Nat) : Int) + I) = ((K * M + I : Nat) : Int) by rw [i64_id (by omega) (by omega)]; omega, i64_id (n := (I : Int) + 1) (by omega) (by omega)]
      refine gIdx_nm (hb.ev h3) (by omega) (by omega) fun a1 c1 _ => gLoad_i c1 (gIdx_on hO3 (by omega) (by rw [tab_len]; omega) fun a2 s2 _ => gStore_on hO3 s2 (by omega) (by rw [tab_len]; omega) (u8i (rd_u8 hb.2 _)) fun w4 h4 _ hO4 => ⟨⟨I + 1, by omega, by omega, h3.new h4 fun g _ hg => (hO3.base hg).1, ?_⟩, by dsimp only; omega⟩)
      rw [Int.toNat_natCast, tab_set (by omega)] at hO4
      rw [show (tab xs.length fun q => if q < K * M + (I + 1) then apAt xs N M q else rd xs q) = tab xs.length fun q => if q = K * M + I then rd xs ((I * N + K : Nat) : Int) else if q < K * M + I then apAt xs N M q else rd xs q from tab_ext fun q hq => by
        by_cases e : q = K * M + I
        · subst e
          rw [if_pos rfl, if_pos (by omega), apAt, if_pos g4, g5, g6]
        · rw [if_neg e]
          by_cases e3 : q < K * M + I
          · rw [if_pos e3, if_pos (by omega)]
          · rw [if_neg e3, if_neg (by omega)]]
      exact hO4
    · have : I = M := by omega
      subst this
      rw [i64_id (n := (K : Int) + 1) (by omega) (by omega)]
      exact ⟨⟨K + 1, by omega, by omega, h3, by rw [Nat.succ_mul]; exact hO3⟩, by dsimp only; omega⟩
  · have : K = N := by omega
    subst this
    rw [show tab xs.length (apAt xs K M) = tab xs.length fun q => if q < K * M then apAt xs K M q else rd xs q from tab_ext fun q hq => by
      by_cases e : q < K * M
      · rw [if_pos e]
      · rw [if_neg e, apAt, if_neg e]]
    exact hO2
end Go.Proofs.YtilpoinhfiajcaaGreatDoorV

/- The law NumBack. -/
namespace Go.Proofs.YtilpoinhfiajcaaGreatDoorV
open Go Go.RowKit

/-- A reader in memory that is new since w0. -/
def FR (w0 w : World) (ad : Addr) (xs : List Int) (a : Nat) (er : Int) : Prop := ∃ b, Rd w ad b xs a er ∧ Ev w0 w ∧ w0.heap.size ≤ ad.block
theorem FR.to {w0 w w' : World} {ad : Addr} {b : Value} {xs : List Int} {a : Nat} {er : Int} (h1 : Ev w0 w) (h2 : w0.heap.size ≤ ad.block) (h : RS w w' ad b xs a er) : FR w0 w' ad xs a er :=
  ⟨b, h.1, h1.new h.2 fun n i hh => by rw [hh.1]; exact h2, h2⟩
theorem FR.ev {w0 w w' : World} {ad : Addr} {xs : List Int} {a : Nat} {er : Int} (h : FR w0 w ad xs a er) (he : Ev w w') : FR w0 w' ad xs a er := by
  obtain ⟨b, h1, h2, h3⟩ := h; exact ⟨b, h1.ev he, h2.trans he, h3⟩
theorem FR.old {w0 w : World} {ad : Addr} {xs : List Int} {a : Nat} {er : Int} (h : FR w0 w ad xs a er) : Ev w0 w := by obtain ⟨_, _, h, _⟩ := h; exact h
theorem FR.u8 {w0 w : World} {ad : Addr} {xs : List Int} {a : Nat} {er : Int} (h : FR w0 w ad xs a er) : inR .u8 xs := by obtain ⟨_, h, _⟩ := h; exact h.2.1.2
theorem FWr.old {w0 w : World} {ad : Addr} {xs : List Int} (h : FWr w0 w ad xs) : Ev w0 w := by obtain ⟨_, _, h, _⟩ := h; exact h
end Go.Proofs.YtilpoinhfiajcaaGreatDoorV

/- Package table: Pack and Unpack; the law TableBack. -/
namespace Go.Proofs.YtilpoinhfiajcaaGreatDoorV
open Go Go.RowKit
theorem widI_bd (xs : List Int) : widI xs = 0 ∨ (2 ≤ widI xs ∧ widI xs ≤ 16 ∧ 4 * widI xs ≤ xs.length) := by
  have : ∀ W, (widN xs W).1 = 0 ∨ (2 ≤ (widN xs W).1 ∧ (widN xs W).1 < W ∧ 4 * (widN xs W).1 ≤ xs.length) := by
    intro W
    induction W with
    | zero => simp [widN]
    | succ W ih =>
      rw [widN]; split
      · exact .inr ⟨by dsimp only; omega, by dsimp only; omega, by dsimp only; omega⟩
      · rcases ih with h | h
        · exact .inl h
        · exact .inr ⟨h.1, by omega, h.2.2⟩
  have h := this 17
  unfold widI; omega
def packOk (xs : List Int) : Bool := decide (widI xs ≠ 0) && decide (xs.length ≤ 1048576)
def packL (xs : List Int) : List Int := numB (widI xs).toNat ++ numB xs.length ++ apartL (deltaL xs (wOf (widI xs))) (cl16 (widI xs))
theorem deltaL_len (xs : List Int) (W : Nat) : (deltaL xs W).length = xs.length := tab_len _ _
theorem packL_len {xs : List Int} (h : xs.length ≤ 1048576) : (packL xs).length ≤ 20 + xs.length := by
  have h1 := numB_len64 (n := (widI xs).toNat) (by have := widI_bd xs; omega)
  have h2 := numB_len64 (n := xs.length) (by omega)
  unfold packL
  rw [List.length_append, List.length_append, apartL_len, deltaL_len]; omega
def PackE (w : World) (xs : List Int) (e : Ending) (w' : World) : Prop := Ev w w' ∧ if packOk xs then ∃ v, e = .returned (.tuple #[v, .bool true]) ∧ ON .u8 eB w' w.heap.size v (packL xs) else e = .returned (.tuple #[.slice none 0 0, .bool false])
theorem tPack_any {b : Value} {xs : List Int} {w : World} (hb : Nm .u8 w b xs) (hl : xs.length ≤ 1000000000) : Calls P n_table_Pack #[b] w (PackE w xs) := by
  refine of_table_Pack (gCall_i (Width_any hb hl) fun w1 h1 => ?_)
  have hwb := widI_bd xs
  refine ⟨fun w' => packOk xs = true ∧ w' = w1, gIf_neqq (fun hne => gLen_nm hb (gIf_dec (fun hg => ⟨h1, ?_⟩) (fun hle => ⟨?_, rfl⟩))) (fun h0 => ⟨h1, ?_⟩), ?_⟩
  · rw [if_neg (by simp [packOk]; omega)]
  · simp [packOk, hne]; omega
  · rw [if_neg (by simp [packOk, h0])]
  rintro _ _ ⟨hok, rfl⟩
  have hok2 : widI xs ≠ 0 ∧ xs.length ≤ 1048576 := by simpa [packOk] using hok
  have hw2 : 2 ≤ widI xs ∧ widI xs ≤ 16 := by omega
  have fin : ∀ {z : Value} {w' : World}, Ev w w' → ON .u8 eB w' w.heap.size z (packL xs) → PackE w xs (.returned (.tuple #[z, .bool true])) w' := fun {z w'} a b => ⟨a, by rw [if_pos hok]; exact ⟨z, rfl, b⟩⟩
  have l1 := numB_len64 (n := (widI xs).toNat) (by omega)
  have l2 := numB_len64 (n := xs.length) (by omega)
  rename_i w1
  refine newW (Ch.refl _ w1) fun ad w2 h2 => ?_
  rw [show u64 (widI xs) = widI xs by rw [u64_def]; omega]
  refine lNum h2 (by omega) (by simp) fun w3 h3 => gLen_nm hb ?_
  rw [show u64 (xs.length : Int) = xs.length by rw [u64_def]; omega]
  refine lNum h3 (by omega) (by rw [List.nil_append]; omega) fun w4 h4 => ?_
  obtain ⟨v, hv, e4, ha4, hv4⟩ := h4
  rw [List.nil_append, Int.toNat_natCast] at hv
  refine gCall_v (Delta_any (hb.ev (h1.trans e4)) hl (by omega)) fun d w5 ⟨h5, od⟩ => gCall_v (Apart_any od.nm (by rw [deltaL_len]; exact hl)) fun y w6 ⟨h6, oy⟩ => ?_
  have e46 : Ev w4 w6 := h5.trans h6
  have hlt4 : ∀ {g i : Nat}, Ft ad v g i → g < w4.heap.size := fun hf => hv.lt hf
  refine raw1_any (hv.ev e46) (oy.nm.stab fun g i hg _ hf => ?_) (by rw [List.length_append, apartL_len, deltaL_len]; omega) fun v2 w7 hW => ?_
  · have := (oy.base hg).1; have := hlt4 (i := i) hf; have := h5.size; omega
  have hF : FWr w1 w7 ad _ := FWr.to (e4.trans e46) ha4 hv4 ⟨v2, hW⟩
  refine lBytes hF (by rw [List.length_append, List.length_append, apartL_len, deltaL_len]; omega) fun z w8 h8 oz => fin (h1.trans (hF.old.trans h8)) (oz.low ?_)
  exact Nat.le_trans h1.size (hF.old.size)
end Go.Proofs.YtilpoinhfiajcaaGreatDoorV

/- Strings: parts of them, Index, Contains, Count at one byte, Split. -/
namespace Go.Proofs.YtilpoinhfiajcaaGreatDoorV
open Go Go.RowKit
def mkS (l : List UInt8) : ByteArray := ⟨l.toArray⟩
theorem mkS_data (l : List UInt8) : (mkS l).data.toList = l := by simp [mkS]
theorem mkS_size (l : List UInt8) : (mkS l).size = l.length := by show l.toArray.size = _; simp
theorem mkS_eq (a b : List UInt8) : (mkS a = mkS b) ↔ a = b := ⟨fun h => by have := congrArg (fun s => s.data.toList) h; simpa [mkS] using this, fun h => by rw [h]⟩
theorem tl_mk (l : List UInt8) : (mkS l).toList = l := by rw [ByteArray.toList_eq]; simp [mkS]
section
variable {P : Program} {w : World}
end
/-- A slice of strings. -/
def Ss (w : World) (v : Value) (ss : List ByteArray) : Prop := Sl w 1 v ss.length (ss.map .string)
theorem Ss.ev {w w' : World} {v : Value} {ss : List ByteArray} (h : Ss w v ss) (he : Ev w w') : Ss w' v ss := Sl.ev h he
section
variable {w : World}
end
end Go.Proofs.YtilpoinhfiajcaaGreatDoorV

/- Package words: letters, runs of letters. -/
namespace Go.Proofs.YtilpoinhfiajcaaGreatDoorV
open Go Go.RowKit
def letB (c : Int) : Bool := decide (97 ≤ c ∧ c ≤ 122 ∨ 65 ≤ c ∧ c ≤ 90)
/-- How many letters stand ahead. -/
def runN : List Int → Nat
  | [] => 0
  | c :: r => if letB c then runN r + 1 else 0
theorem runN_le : ∀ xs : List Int, runN xs ≤ xs.length
  | [] => Nat.le_refl _
  | c :: r => by
    have := runN_le r
    rw [runN, List.length_cons]; split <;> omega
theorem runN_at : ∀ {xs : List Int} {k : Nat}, k ≤ xs.length → (∀ j, j < k → letB (rd xs (j : Int)) = true) → (∀ h : k < xs.length, letB (rd xs (k : Int)) = false) → runN xs = k
  | [], k, h, _, _ => by
    rw [runN]; simp at h; exact h.symm
  | c :: r, 0, _, _, h2 => by
    have := h2 (by simp)
    rw [rd_nat _ 0 (by simp), List.getElem_cons_zero] at this
    rw [runN, if_neg (by rw [this]; decide)]
  | c :: r, k + 1, h, h1, h2 => by
    have h0 := h1 0 (by omega)
    rw [rd_nat _ 0 (by simp), List.getElem_cons_zero] at h0
    have sh : ∀ j : Nat, j < r.length → rd (c :: r) ((j + 1 : Nat) : Int) = rd r (j : Int) := fun j hj => by
      rw [rd_nat (c :: r) (j + 1) (by simp; omega), rd_nat r j hj, List.getElem_cons_succ]
    rw [runN, if_pos h0, runN_at (k := k) (by simp at h; omega) (fun j hj => by rw [← sh j (by simp at h; omega)]; exact h1 (j + 1) (by omega)) (fun hk => by rw [← sh k hk]; exact h2 (by simp; omega))]
section
variable {w : World}
theorem letter_any {c : Int} : Calls P n_words_letter #[.int .u8 c] w (fun e w' => e = .returned (.bool (letB c)) ∧ w' = w) := by
  refine of_words_letter (gIf_dec (fun h1 => gIf_ndec (fun h2 => gIf_dec (fun h3 => ⟨?_, rfl⟩) (fun h3 => ⟨?_, rfl⟩)) (fun h2 => ⟨?_, rfl⟩)) (fun h1 => gIf_dec (fun h3 => ⟨?_, rfl⟩) (fun h3 => ⟨?_, rfl⟩)))
  all_goals
    unfold letB
    congr 2
    first | exact (decide_eq_true (by omega)).symm | exact (decide_eq_false (by omega)).symm | exact decide_eq_decide.2 (by omega)
theorem run1_any {c : Int} : Calls P n_words_run_1 #[.int .u8 c] w (fun e w' => e = .returned (.bool (!letB c)) ∧ w' = w) := by
  refine of_words_run_1 (gCall_of letter_any ?_)
  rintro _ _ ⟨rfl, rfl⟩
  exact ⟨_, rfl, rfl, rfl⟩
theorem IndexNot_any {b : Value} {xs : List Int} (hb : Nm .u8 w b xs) (hl : xs.length ≤ 1000000000) : Calls P n_slices_IndexFunc_byte_byte' #[b, .func (.func n_words_run_1) #[] #[]] w (fun e w' => e = .returned (.int .i64 (if runN xs < xs.length then (runN xs : Int) else -1)) ∧ w' = w) := by
  refine of_slices_IndexFunc_byte_byte' (gLen_nm hb ⟨fun i w' => ∃ k : Nat, i = (k : Int) ∧ k ≤ xs.length ∧ (∀ j, j < k → letB (rd xs (j : Int)) = true) ∧ w' = w, fun i _ => xs.length - i.toNat, ⟨0, rfl, by omega, (fun j h => by omega), rfl⟩, ?_⟩)
  rintro _ i _ ⟨k, rfl, hk, hall, rfl⟩
  refine gIf_dec (fun hlt => gGet hb (by omega) (by omega) (gCallV_of rfl (by kernel_rfl) (show Calls P n_words_run_1 #[.int .u8 (rd xs (k : Int))] _ _ from run1_any) ?_)) (fun hge => ?_)
  · rintro _ _ ⟨rfl, rfl⟩
    refine ⟨_, rfl, gIf_nb (fun h => ?_) (fun h => ?_)⟩
    · have e : runN xs = k := runN_at hk hall fun _ => h
      rw [e, if_pos (by omega)]; exact ⟨rfl, rfl⟩
    · refine ⟨⟨k + 1, by rw [i64_id (by omega) (by omega)]; omega, by omega, fun j hj => ?_, rfl⟩, by dsimp only; rw [i64_id (by omega) (by omega)]; omega⟩
      by_cases hjk : j = k
      · subst hjk; exact h
      · exact hall j (by omega)
  · have e : runN xs = k := runN_at hk hall fun h => by omega
    rw [e, if_neg (by omega)]; exact ⟨rfl, rfl⟩
theorem run_any {b : Value} {xs : List Int} (hb : Nm .u8 w b xs) (hl : xs.length ≤ 1000000000) : Calls P n_words_run #[b] w (fun e w' => e = .returned (.int .i64 (runN xs : Nat)) ∧ w' = w) := by
  have hle := runN_le xs
  refine of_words_run (gCall_of (IndexNot_any hb hl) ?_)
  rintro _ _ ⟨rfl, rfl⟩
  refine ⟨_, rfl, ?_⟩
  by_cases h : runN xs < xs.length
  · rw [if_pos h]
    exact gIf_dec (fun h => by omega) (fun _ => ⟨rfl, rfl⟩)
  · rw [if_neg h]
    refine gIf_dec (fun _ => gLen_nm hb ⟨?_, rfl⟩) (fun h => absurd (by decide) h)
    rw [show runN xs = xs.length by omega]
/-! ### Comparing -/
def cmpI (x y : Int) : Int := if x < y then -1 else if x > y then 1 else 0
theorem cmpInt_any {x y : Int} : Calls P n_cmp_Compare_int #[.int .i64 x, .int .i64 y] w (fun e w' => e = .returned (.int .i64 (cmpI x y)) ∧ w' = w) := by
  have hn : ∀ {z : Int}, Calls P n_cmp_isNaN_int #[.int .i64 z] w (fun e w' => e = .returned (.bool false) ∧ w' = w) := fun {z} => of_cmp_isNaN_int ⟨by simp, rfl⟩
  refine of_cmp_Compare_int (gCall_of hn ?_)
  rintro _ _ ⟨rfl, rfl⟩
  refine ⟨_, rfl, gCall_of hn ?_⟩
  rintro _ _ ⟨rfl, rfl⟩
  refine ⟨_, rfl, gIf_f (gIf_f (gIf_dec (fun h => ⟨?_, rfl⟩) (fun h => gIf_dec (fun h2 => ⟨?_, rfl⟩) (fun h2 => ⟨?_, rfl⟩))))⟩
  · unfold cmpI; rw [if_pos h]
  · unfold cmpI; rw [if_neg h, if_pos h2]
  · unfold cmpI; rw [if_neg h, if_neg h2]
def cmpS (a b : List UInt8) : Int := if Op.bytesLess a b then -1 else if a = b then 0 else 1
theorem cmpStr_any {a b : List UInt8} : Calls P n_cmp_Compare_string #[.string (mkS a), .string (mkS b)] w (fun e w' => e = .returned (.int .i64 (cmpS a b)) ∧ w' = w) := by
  have hn : ∀ {z : ByteArray}, Calls P n_cmp_isNaN_string #[.string z] w (fun e w' => e = .returned (.bool false) ∧ w' = w) := fun {z} => of_cmp_isNaN_string ⟨by simp, rfl⟩
  refine of_cmp_Compare_string (gCall_of hn ?_)
  rintro _ _ ⟨rfl, rfl⟩
  refine ⟨_, rfl, gCall_of hn ?_⟩
  rintro _ _ ⟨rfl, rfl⟩
  refine ⟨_, rfl, gIf_f (gIf_f ?_)⟩
  rw [tl_mk, tl_mk]
  unfold cmpS
  cases hb : Op.bytesLess a b
  · refine gIf_f ?_
    by_cases he : a = b
    · subst he
      rw [show (a == a) = true by simp]
      simp only [Bool.or_true, Bool.not_true]
      exact gIf_f ⟨by simp, trivial⟩
    · rw [show (a == b) = false by simp [he]]
      simp only [Bool.or_self, Bool.not_false]
      exact gIf_t ⟨by simp [he], trivial⟩
  · exact gIf_t ⟨by simp, rfl⟩
end
end Go.Proofs.YtilpoinhfiajcaaGreatDoorV

/- The words of a text, and how they stand: plain. -/
namespace Go.Proofs.YtilpoinhfiajcaaGreatDoorV
open Go Go.RowKit
/-- Bytes as a key, and back. -/
def bU (l : List Int) : List UInt8 := l.map fun x => UInt8.ofNat x.toNat
def iU (l : List UInt8) : List Int := l.map fun b => (b.toNat : Int)
theorem bU_len (l : List Int) : (bU l).length = l.length := List.length_map _
theorem iU_len (l : List UInt8) : (iU l).length = l.length := List.length_map _
theorem bsOf_mk (l : List Int) : bsOf l = mkS (bU l) := rfl
theorem sOf_mk (l : List UInt8) : sOf (mkS l) = iU l := by unfold sOf iU; rw [mkS_data]
theorem iU_bU {l : List Int} (h : inR .u8 l) : iU (bU l) = l := by rw [← sOf_mk, ← bsOf_mk, sOf_bsOf h]
theorem iU_inj {a b : List UInt8} (h : iU a = iU b) : a = b := by
  have h1 : mkS a = mkS b := by rw [← bsOf_sOf (mkS a), ← bsOf_sOf (mkS b), sOf_mk, sOf_mk, h]
  exact (mkS_eq a b).1 h1
theorem iU_u8 (l : List UInt8) : inR .u8 (iU l) := by rw [← sOf_mk]; exact sOf_u8 _
theorem bU_iU (l : List UInt8) : bU (iU l) = l := iU_inj (by rw [iU_bU (iU_u8 l)])
/-- The words of 3 to 24 letters, one behind the other. -/
def scanU : Nat → List Int → List (List UInt8)
  | 0, _ => []
  | f + 1, xs => if xs = [] then [] else (if 3 ≤ runN xs ∧ runN xs ≤ 24 then [bU (xs.take (runN xs))] else []) ++ scanU f (xs.drop (if 1 > runN xs then 1 else runN xs))
def wordsU (xs : List Int) : List (List UInt8) := scanU xs.length xs
theorem scanU_nil : ∀ f, scanU f [] = []
  | 0 => rfl
  | f + 1 => by rw [scanU, if_pos rfl]
theorem scanU_fuel : ∀ (f g : Nat) (xs : List Int), xs.length ≤ f → xs.length ≤ g → scanU f xs = scanU g xs
  | 0, g, xs, h, _ => by
    obtain rfl : xs = [] := List.eq_nil_of_length_eq_zero (by omega)
    rw [scanU_nil, scanU_nil]
  | f + 1, 0, xs, _, h => by
    obtain rfl : xs = [] := List.eq_nil_of_length_eq_zero (by omega)
    rw [scanU_nil, scanU_nil]
  | f + 1, g + 1, xs, h1, h2 => by
    rw [scanU, scanU]
    by_cases hx : xs = []
    · rw [if_pos hx, if_pos hx]
    · have : 0 < xs.length := List.length_pos_iff.2 hx
      rw [if_neg hx, if_neg hx, scanU_fuel f g _ (by rw [List.length_drop]; split <;> omega) (by rw [List.length_drop]; split <;> omega)]
theorem wordsU_step {xs : List Int} (h : xs ≠ []) : wordsU xs = (if 3 ≤ runN xs ∧ runN xs ≤ 24 then [bU (xs.take (runN xs))] else []) ++ wordsU (xs.drop (if 1 > runN xs then 1 else runN xs)) := by
  have h0 : 0 < xs.length := List.length_pos_iff.2 h
  unfold wordsU
  conv => lhs; rw [show xs.length = xs.length - 1 + 1 by omega, scanU, if_neg h]
  rw [scanU_fuel _ (xs.drop (if 1 > runN xs then 1 else runN xs)).length _ (by rw [List.length_drop]; split <;> omega) (Nat.le_refl _)]
theorem wordsU_nil : wordsU [] = [] := rfl
theorem wordsU_len : ∀ (n : Nat) (xs : List Int), xs.length ≤ n → (wordsU xs).length ≤ xs.length ∧ ∀ s ∈ wordsU xs, 3 ≤ s.length ∧ s.length ≤ 24
  | 0, xs, h => by
    obtain rfl : xs = [] := List.eq_nil_of_length_eq_zero (by omega)
    rw [wordsU_nil]
    exact ⟨Nat.le_refl _, fun s h => by cases h⟩
  | n + 1, xs, h => by
    by_cases hx : xs = []
    · subst hx; exact ⟨Nat.le_refl _, fun s h => by cases h⟩
    · have h0 : 0 < xs.length := List.length_pos_iff.2 hx
      have ih := wordsU_len n (xs.drop (if 1 > runN xs then 1 else runN xs)) (by rw [List.length_drop]; split <;> omega)
      have hr := runN_le xs
      rw [wordsU_step hx]
      refine ⟨?_, fun s hs => ?_⟩
      · have := ih.1
        have hd : (xs.drop (if 1 > runN xs then 1 else runN xs)).length ≤ xs.length - 1 := by rw [List.length_drop]; split <;> omega
        rw [List.length_append]
        have h1 : (if 3 ≤ runN xs ∧ runN xs ≤ 24 then [bU (xs.take (runN xs))] else []).length ≤ 1 := by split <;> simp
        omega
      · rcases List.mem_append.1 hs with hs | hs
        · split at hs
          · rename_i hc
            rw [List.mem_singleton.1 hs, bU_len, List.length_take, Nat.min_eq_left hr]; exact hc
          · cases hs
        · exact ih.2 s hs
/-! ### The order -/
def wth (c : List UInt8 → Nat) (s : List UInt8) : Int := ((c s : Int) - 1) * s.length
def cfU (c : List UInt8 → Nat) (x y : List UInt8) : Int := if cmpI (wth c y) (wth c x) ≠ 0 then cmpI (wth c y) (wth c x) else cmpS x y
def ltU (c : List UInt8 → Nat) (x y : List UInt8) : Bool := decide (cfU c x y < 0)
theorem bytesLess_iff : ∀ {a b : List UInt8}, Op.bytesLess a b = true ↔ a < b
  | [], [] => by simp [Op.bytesLess]
  | [], b :: q => by simp [Op.bytesLess]
  | a :: r, [] => by simp [Op.bytesLess]
  | a :: r, b :: q => by
    unfold Op.bytesLess
    rw [List.cons_lt_cons_iff]
    by_cases h : a = b
    · subst h
      simp [bytesLess_iff (a := r) (b := q)]
    · simp [h]
theorem cmpS_lt {a b : List UInt8} : cmpS a b < 0 ↔ a < b := by
  unfold cmpS
  by_cases h : Op.bytesLess a b = true
  · rw [if_pos h]; exact ⟨fun _ => bytesLess_iff.1 h, fun _ => by decide⟩
  · rw [if_neg h]
    exact ⟨fun h2 => by split at h2 <;> simp at h2, fun h2 => absurd (bytesLess_iff.2 h2) h⟩
theorem ltU_iff {c : List UInt8 → Nat} {x y : List UInt8} : ltU c x y = true ↔ wth c y < wth c x ∨ (wth c y = wth c x ∧ x < y) := by
  unfold ltU cfU cmpI
  rw [decide_eq_true_iff, ← cmpS_lt]
  by_cases h1 : wth c y < wth c x
  · simp [h1]
  · by_cases h2 : wth c y > wth c x
    · rw [if_neg h1, if_pos h2, if_pos (by decide)]
      constructor
      · intro h; simp at h
      · intro h; omega
    · rw [if_neg h1, if_neg h2]
      simp only [ne_eq, not_true, if_false]
      constructor
      · intro h; exact .inr ⟨by omega, h⟩
      · intro h
        rcases h with h | h
        · omega
        · exact h.2
theorem lt_irrU (x : List UInt8) : ¬ x < x := List.lt_irrefl x
theorem ltU_irr (c : List UInt8 → Nat) (x : List UInt8) : ltU c x x = false := by
  cases h : ltU c x x with
  | false => rfl
  | true =>
    rcases ltU_iff.1 h with h | h
    · omega
    · exact absurd h.2 (lt_irrU x)
theorem ltU_trans {c : List UInt8 → Nat} {x y z : List UInt8} (h1 : ltU c x y = true) (h2 : ltU c y z = true) : ltU c x z = true := by
  rw [ltU_iff] at *
  rcases h1 with h1 | h1 <;> rcases h2 with h2 | h2
  · exact .inl (by omega)
  · exact .inl (by omega)
  · exact .inl (by omega)
  · exact .inr ⟨by omega, List.lt_trans h1.2 h2.2⟩
theorem ltU_total {c : List UInt8 → Nat} {x y : List UInt8} (h1 : ltU c x y = false) (h2 : ltU c y x = false) : x = y := by
  have n1 : ¬ _ := fun h => by rw [ltU_iff.2 h] at h1; cases h1
  have n2 : ¬ _ := fun h => by rw [ltU_iff.2 h] at h2; cases h2
  have e : wth c y = wth c x := by
    refine Decidable.byContradiction fun hne => ?_
    rcases Int.lt_or_gt_of_ne hne with h | h
    · exact n1 (.inl h)
    · exact n2 (.inl h)
  have a : ¬ x < y := fun h => n1 (.inr ⟨e, h⟩)
  have b : ¬ y < x := fun h => n2 (.inr ⟨e.symm, h⟩)
  exact List.le_antisymm b a
/-- Without repeats. -/
def dd : List (List UInt8) → List (List UInt8)
  | [] => []
  | x :: l => if x ∈ dd l then dd l else x :: dd l
theorem mem_dd : ∀ {l : List (List UInt8)} {x : List UInt8}, x ∈ dd l ↔ x ∈ l
  | [], x => by simp [dd]
  | y :: l, x => by
    rw [dd]
    split
    · rename_i h
      rw [mem_dd, List.mem_cons]
      exact ⟨.inr, fun h' => by rcases h' with rfl | h'; exact mem_dd.1 h; exact h'⟩
    · rw [List.mem_cons, List.mem_cons, mem_dd]
theorem nodup_dd : ∀ l : List (List UInt8), (dd l).Nodup
  | [] => List.nodup_nil
  | y :: l => by
    rw [dd]
    split
    · exact nodup_dd l
    · rename_i h; exact List.nodup_cons.2 ⟨h, nodup_dd l⟩
def sortedU (ws : List (List UInt8)) : List (List UInt8) := (dd ws).mergeSort fun x y => !ltU (fun s => ws.count s) y x
/-- The words that are worth the most. -/
def findU (ws : List (List UInt8)) : List (List UInt8) := ((sortedU ws).filter fun s => decide (1 < ws.count s)).take 64
theorem perm_of_mem : ∀ {l m : List (List UInt8)}, l.Nodup → m.Nodup → (∀ x, x ∈ l ↔ x ∈ m) → l.Perm m := fun {l m} hl hm h => by
  refine List.perm_iff_count.2 fun a => ?_
  rw [hl.count, hm.count]
  by_cases ha : a ∈ l
  · rw [if_pos ha, if_pos ((h a).1 ha)]
  · rw [if_neg ha, if_neg fun hh => ha ((h a).2 hh)]
theorem sortedU_perm (ws : List (List UInt8)) : (sortedU ws).Perm (dd ws) := List.mergeSort_perm _ _
theorem leU_trans (c : List UInt8 → Nat) (x y z : List UInt8) (h1 : (!ltU c y x) = true) (h2 : (!ltU c z y) = true) : (!ltU c z x) = true := by
  cases h : ltU c z x with
  | false => rfl
  | true =>
    exfalso
    simp only [Bool.not_eq_true'] at h1 h2
    cases h3 : ltU c x y with
    | true => rw [ltU_trans h h3] at h2; cases h2
    | false =>
      have := ltU_total h3 h1
      subst this
      rw [h] at h2; cases h2
theorem leU_total (c : List UInt8 → Nat) (x y : List UInt8) : (!ltU c y x || !ltU c x y) = true := by
  cases h1 : ltU c y x with
  | false => rfl
  | true =>
    cases h2 : ltU c x y with
    | false => rfl
    | true => have := ltU_trans h1 h2; rw [ltU_irr] at this; cases this
theorem pairwise_U (c : List UInt8 → Nat) {l : List (List UInt8)} (hn : l.Nodup) (h : l.Pairwise fun x y => (!ltU c y x) = true) : l.Pairwise fun x y => ltU c x y = true := by
  have := List.Pairwise.and hn h
  refine this.imp fun {x y} ⟨h1, h2⟩ => ?_
  simp only [Bool.not_eq_true'] at h2
  cases h3 : ltU c x y with
  | true => rfl
  | false => exact absurd (ltU_total h3 h2) h1
theorem sorted_strict (c : List UInt8 → Nat) {l : List (List UInt8)} (hn : l.Nodup) : (l.mergeSort fun x y => !ltU c y x).Pairwise fun x y => ltU c x y = true :=
  pairwise_U c ((List.mergeSort_perm _ _).nodup_iff.2 hn) (List.pairwise_mergeSort (fun a b c' h1 h2 => leU_trans c a b c' h1 h2) (fun a b => leU_total c a b) l)
/-- Two lists that rise strictly and have the same in them are one. -/
theorem rise_eq (c : List UInt8 → Nat) : ∀ {l m : List (List UInt8)}, l.Pairwise (fun x y => ltU c x y = true) → m.Pairwise (fun x y => ltU c x y = true) → (∀ x, x ∈ l ↔ x ∈ m) → l = m
  | [], [], _, _, _ => rfl
  | [], y :: m, _, _, h => absurd ((h y).2 List.mem_cons_self) (by simp)
  | x :: l, [], _, _, h => absurd ((h x).1 List.mem_cons_self) (by simp)
  | x :: l, y :: m, hl, hm, h => by
    have hl' := List.pairwise_cons.1 hl
    have hm' := List.pairwise_cons.1 hm
    have exy : x = y := by
      rcases List.mem_cons.1 ((h x).1 List.mem_cons_self) with e | hx
      · exact e
      · rcases List.mem_cons.1 ((h y).2 List.mem_cons_self) with e | hy
        · exact e.symm
        · have := ltU_trans (hl'.1 y hy) (hm'.1 x hx)
          rw [ltU_irr] at this; cases this
    subst exy
    rw [rise_eq c hl'.2 hm'.2 fun z => ?_]
    constructor
    · intro hz
      rcases List.mem_cons.1 ((h z).1 (List.mem_cons_of_mem _ hz)) with e | hz'
      · subst e; have := hl'.1 z hz; rw [ltU_irr] at this; cases this
      · exact hz'
    · intro hz
      rcases List.mem_cons.1 ((h z).2 (List.mem_cons_of_mem _ hz)) with e | hz'
      · subst e; have := hm'.1 z hz; rw [ltU_irr] at this; cases this
      · exact hz'
theorem sortedU_rise (ws : List (List UInt8)) : (sortedU ws).Pairwise fun x y => ltU (fun s => ws.count s) x y = true := sorted_strict _ (nodup_dd ws)
theorem mem_sortedU {ws : List (List UInt8)} {x : List UInt8} : x ∈ sortedU ws ↔ x ∈ ws := by rw [(sortedU_perm ws).mem_iff, mem_dd]
/-- Whatever list without repeats has just these words: sorted it is this one. -/
theorem sorted_of {ws ss : List (List UInt8)} (hn : ss.Nodup) (hm : ∀ x, x ∈ ss ↔ x ∈ ws) : (ss.mergeSort fun x y => !ltU (fun s => ws.count s) y x) = sortedU ws :=
  rise_eq (fun s => ws.count s) (sorted_strict _ hn) (sortedU_rise ws) fun x => by rw [(List.mergeSort_perm _ _).mem_iff, hm, mem_sortedU]
theorem sortedU_len (ws : List (List UInt8)) : (sortedU ws).length ≤ ws.length := by
  rw [(sortedU_perm ws).length_eq]
  induction ws with
  | nil => exact Nat.le_refl _
  | cons y l ih => rw [dd]; split <;> simp <;> omega
theorem wth_rg {ws : List (List UInt8)} {s : List UInt8} (h1 : ws.length ≤ 1000000000) (h2 : s.length ≤ 24) : -24 ≤ wth (fun s => ws.count s) s ∧ wth (fun s => ws.count s) s ≤ 24000000000 := by
  have hc : ws.count s ≤ ws.length := List.count_le_length
  unfold wth
  show -24 ≤ (((ws.count s : Nat) : Int) - 1) * ((s.length : Nat) : Int) ∧ (((ws.count s : Nat) : Int) - 1) * ((s.length : Nat) : Int) ≤ 24000000000
  generalize ws.count s = k at *
  have hk : ((s.length : Nat) : Int) ≤ 24 := by omega
  by_cases h0 : k = 0
  · subst h0
    omega
  · have a := Int.mul_nonneg (show 0 ≤ (k : Int) - 1 by omega) (show 0 ≤ (s.length : Int) by omega)
    have b := Int.mul_le_mul (show (k : Int) - 1 ≤ 1000000000 by omega) hk (by omega) (by omega)
    omega
end Go.Proofs.YtilpoinhfiajcaaGreatDoorV

/- Package words: a map of words and how often they come. -/
namespace Go.Proofs.YtilpoinhfiajcaaGreatDoorV
open Go Go.RowKit Go.Maps
theorem keyS : Keyed P t_string := string_keyed (by kernel_rfl)
theorem undM : P.underlying t_maparstring_int = some (.map t_string t_int) := by kernel_rfl
theorem undI : P.underlying t_int = some (.int .i64) := by kernel_rfl
theorem zeroI (w : World) : (zeroValue t_int).run P w = .ok (.int .i64 0) w := by kernel_rfl
abbrev Dt := DataW Unit
noncomputable abbrev RI : Value → Option (DataW Unit × List MemPlace) := plainElem P t_int
/-- Block b is a map that tells how often each word comes. -/
def MapI (w : World) (b : Nat) (ws : List (List UInt8)) : Prop := ∃ D : Dt, w.ownsMap P t_string RI b ws.length D ∧ IsMap D ∧ (∀ s, D.atKey (.string s) (.lit (.int .i64 0)) = .lit (.int .i64 (ws.count s : Nat))) ∧ ∀ s, Maps.has D (.string s) = true ↔ s ∈ ws
theorem MapI.keep {w w' : World} {b : Nat} {ws : List (List UInt8)} (h : MapI w b ws) (hb : ∀ o, w.heap[b]? = some o → w'.heap[b]? = some o) : MapI w' b ws := by
  obtain ⟨D, ⟨es, clock, h1, h2, h3, h4⟩, hr⟩ := h
  exact ⟨D, ⟨es, clock, hb _ h1, h2, h3, h4⟩, hr⟩
theorem MapI.block {w : World} {b : Nat} {ws : List (List UInt8)} (h : MapI w b ws) : ∃ o, w.heap[b]? = some o ∧ o.isCells = false := by
  obtain ⟨D, ⟨es, clock, h1, _⟩, _⟩ := h
  exact ⟨_, h1, rfl⟩
theorem MapI.ch {S : SS} {w w' : World} {b : Nat} {ws : List (List UInt8)} (h : MapI w b ws) (hc : Ch S w w') : MapI w' b ws := by
  obtain ⟨o, h1, h2⟩ := h.block
  exact h.keep fun o' ho => by rw [h1] at ho; injection ho with ho; subst ho; exact hc.oth _ _ h1 h2
section
variable {w0 w : World} {F : List It} {b : Nat} {ws : List (List UInt8)}
theorem gMakeMap {K : Value → World → Prop} (hk : ∀ w', Ev w w' → MapI w' w.heap.size [] → K (.map (some w.heap.size)) w') : gAny P shV (do pure (Next.value (← Instr.makeMap t_maparstring_int none))) w K :=
  ⟨.map (some w.heap.size), w.alloc (.map #[] 0), rfl, hk _ (Ev.alloc w _) ⟨_, World.ownsMap_made w P t_string RI, isMap_empty, fun s => by simp [DataW.atKey], fun s => by simp [Maps.has]⟩⟩
theorem gLookup {s : List UInt8} {K : Int → World → Prop} (h : MapI w b ws) (hs : s.length ≤ 1000) (hk : K (ws.count s : Nat) w) : gAny P (shI .i64) (do pure (Next.value (← Instr.lookup t_maparstring_int (.map (some b)) (.string (mkS s)) false))) w K := by
  obtain ⟨D, h1, _, h3, _⟩ := h
  have hkey : keyOf P t_string (.string (mkS s)) = some (.string s) := by
    have := Go.WideMaps.keyOf_string_mk (P := P) (k := t_string) (by kernel_rfl) (s := mkS s) (by rw [mkS_size]; unfold maxLen; omega)
    rwa [mkS_data] at this
  obtain ⟨c, hrun, hat, _⟩ := h1.lookup_int keyS undM undI (zeroI w) hkey
  rw [h3 s] at hat
  injection hat with hat
  injection hat with _ hat
  subst hat
  exact ⟨_, w, run_v hrun, hk⟩
theorem gBump {s : List UInt8} {n : Int} {K : World → Prop} (h : MapI w b ws) (hs : s.length ≤ 1000) (hl : ws.length ≤ 1000000000) (hn : n = ((ws.count s : Nat) : Int) + 1) (hk : ∀ w', w.grownBy w' (some b) → MapI w' b (ws ++ [s]) → K w') :
    gAnyU P (do Instr.mapUpdate t_maparstring_int (.map (some b)) (.string (mkS s)) (.int .i64 n); pure Next.skip) w K := by
  obtain ⟨D, h1, h2, h3, h4⟩ := h
  have hc : ws.count s ≤ ws.length := List.count_le_length
  have hkey : keyOf P t_string (.string (mkS s)) = some (.string s) := by
    have := Go.WideMaps.keyOf_string_mk (P := P) (k := t_string) (by kernel_rfl) (s := mkS s) (by rw [mkS_size]; unfold maxLen; omega)
    rwa [mkS_data] at this
  have hik : WideAt.IsKeyLit (.string s) := keyS.key hkey
  obtain ⟨w', hrun, h5, h6⟩ := h1.update keyS undM (by unfold maxLen; omega) hkey (plainElem_int (e := t_int) (q := .i64) (a := n) undI (WalkArith.wf_i64 (by omega)))
  refine ⟨w', ?_, hk w' h6 ⟨_, by simpa using h5, h2.put _ _, fun s' => ?_, fun s' => ?_⟩⟩
  · simp only [Sem.run_bind, hrun, Result.andThen_ok, Sem.run_pure]
  · by_cases e : s' = s
    · subst e
      rw [atKey_put_same h2 hik, List.count_append, List.count_singleton_self, hn]; rfl
    · rw [atKey_put_other (by intro h; injection h with h; exact e h), h3 s', List.count_append, List.count_singleton]
      simp [Ne.symm e]
  · by_cases e : s' = s
    · subst e
      rw [has_put_same h2 hik]; simp
    · rw [has_put_other (by intro h; injection h with h; exact e h), h4 s', List.mem_append, List.mem_singleton]
      simp [e]
theorem Fr.grownW {w' : World} {row : Option Nat} (h : Fr w0 w F) (hg : w.grownBy w' row) (hr : ∀ r, row = some r → w0.heap.size ≤ r ∧ ∃ o : Obj, w.heap[r]? = some o ∧ o.isCells = false) : Fr w0 w' F :=
  h.gr hg.size hg.os hg.tape hg.output (fun k hk => hg.block k (Nat.lt_of_lt_of_le hk h.old.size) fun e => by have := (hr k e.symm).1; omega)
    fun k c e f hc => hg.block k (hlt hc) fun e' => by obtain ⟨_, o, ho, hn⟩ := hr k e'.symm; exact ne_cells hc ho hn rfl
theorem Fr.putObjW {D : Nat} {o o' : Obj} (h : Fr w0 w F) (hD : w0.heap.size ≤ D) (hk : w.heap[D]? = some o) (ho : o.isCells = false) : Fr w0 (w.putObj D o') F :=
  h.gr (by simp) rfl rfl rfl (fun k hk' => World.putObj_heap_other (by omega)) fun k c e f hc => World.putObj_heap_other (ne_cells hc hk ho).symm
theorem Fr.cell0W {ad : Addr} {u : Value} (h : Fr w0 w F) (i : Nat) (hi : F[i]? = some (sIt ad [u])) : w.cell? ad = some u := by
  have := h.cell i 0 hi rfl
  rwa [Addr.add_zero'] at this
end
end Go.Proofs.YtilpoinhfiajcaaGreatDoorV

/- Package words: Apply, Undo. -/
namespace Go.Proofs.YtilpoinhfiajcaaGreatDoorV
open Go Go.RowKit
/-- A word's place; how many there are, if it has none. -/
def idxW (L : List (List Int)) (u : List Int) : Nat := L.findIdx fun x => decide (x = u)
def tokW (L : List (List Int)) (xs : List Int) : List Int :=
  if 0 < runN xs ∧ idxW L (xs.take (runN xs)) < L.length then [128 + (idxW L (xs.take (runN xs)) : Int)]
  else if 0 < runN xs then xs.take (runN xs)
  else if rd xs 0 ≥ 128 then [255, rd xs 0] else [rd xs 0]
def mxR (xs : List Int) : Nat := if 1 > runN xs then 1 else runN xs
def apS (L : List (List Int)) : Nat → List Int → List Int
  | 0, _ => []
  | f + 1, xs => if xs = [] then [] else tokW L xs ++ apS L f (xs.drop (mxR xs))
def applyW (L : List (List Int)) (xs : List Int) : List Int := apS L xs.length xs
theorem mxR_pos (xs : List Int) : 1 ≤ mxR xs := by unfold mxR; split <;> omega
theorem apS_nil (L : List (List Int)) : ∀ f, apS L f [] = []
  | 0 => rfl
  | f + 1 => by rw [apS, if_pos rfl]
theorem apS_fuel (L : List (List Int)) : ∀ (f g : Nat) (xs : List Int), xs.length ≤ f → xs.length ≤ g → apS L f xs = apS L g xs
  | 0, g, xs, h, _ => by
    obtain rfl : xs = [] := List.eq_nil_of_length_eq_zero (by omega)
    rw [apS_nil, apS_nil]
  | f + 1, 0, xs, _, h => by
    obtain rfl : xs = [] := List.eq_nil_of_length_eq_zero (by omega)
    rw [apS_nil, apS_nil]
  | f + 1, g + 1, xs, h1, h2 => by
    rw [apS, apS]
    by_cases hx : xs = []
    · rw [if_pos hx, if_pos hx]
    · have : 0 < xs.length := List.length_pos_iff.2 hx
      have := mxR_pos xs
      rw [if_neg hx, if_neg hx, apS_fuel L f g _ (by rw [List.length_drop]; omega) (by rw [List.length_drop]; omega)]
theorem applyW_nil (L : List (List Int)) : applyW L [] = [] := rfl
theorem applyW_step {L : List (List Int)} {xs : List Int} (h : xs ≠ []) : applyW L xs = tokW L xs ++ applyW L (xs.drop (mxR xs)) := by
  have h0 : 0 < xs.length := List.length_pos_iff.2 h
  have := mxR_pos xs
  unfold applyW
  conv => lhs; rw [show xs.length = xs.length - 1 + 1 by omega, apS, if_neg h]
  rw [apS_fuel L _ (xs.drop (mxR xs)).length _ (by rw [List.length_drop]; omega) (Nat.le_refl _)]
section
variable {w0 w : World} {F : List It}
theorem NL.take {v : Value} {L : List (List Int)} {m : Nat} (h : NL .u8 w v L) (hm : m ≤ L.length) : NL .u8 w (subV 1 v 0 m) (L.take m) := by
  obtain ⟨us, h1, h2⟩ := h
  have hs := h1.sub 0 m (Nat.zero_le _) hm
  rw [Nat.zero_mul, List.drop_zero, Nat.sub_zero, Nat.mul_one] at hs
  refine ⟨us.take m, by rw [List.length_take, Nat.min_eq_left hm]; exact hs, fun i u xs hu hx => ?_⟩
  rw [List.getElem?_take] at hu hx
  split at hu
  · rename_i hi
    rw [if_pos hi] at hx
    exact h2 i u xs hu hx
  · cases hu
theorem first_any {v : Value} {L : List (List Int)} (h : NL .u8 w v L) : Calls P n_words_first #[v] w (fun e w' => e = .returned (subV 1 v 0 (min 64 L.length)) ∧ w' = w) := by
  obtain ⟨us, h1, h2⟩ := h
  refine of_words_first (gLen_slv h1 ?_)
  have e : (if (64 : Int) < ((L.length : Nat) : Int) then (64 : Int) else ((L.length : Nat) : Int)) = ((min 64 L.length : Nat) : Int) := by split <;> omega
  rw [e]
  obtain ⟨a, c, rfl, hc⟩ := h1.shape
  exact gSlice_any (sz := 1) (l := 0) (h := min 64 L.length) (.inl ⟨rfl, rfl⟩) (.inr ⟨_, rfl⟩) (Nat.zero_le _) (by omega) ⟨rfl, rfl⟩ (by kernel_rfl)
theorem NL.first {v : Value} {L : List (List Int)} (h : NL .u8 w v L) : NL .u8 w (subV 1 v 0 (min 64 L.length)) (L.take 64) := by
  have := h.take (m := min 64 L.length) (by omega)
  rwa [List.take_eq_take_iff.2 (show min (min 64 L.length) L.length = min 64 L.length by omega)] at this
theorem NL.at {v : Value} {L : List (List Int)} {k : Nat} {K : Value → Prop} (h : NL .u8 w v L) (hk : k < L.length) (hK : ∀ u, Nm .u8 w u L[k] → K u) : gIdx P t_sl_sl_uint8 v (.int .i64 (k : Int)) fun ad => gLoad P t_sl_uint8 shV (.pointer (some ad)) w K := by
  obtain ⟨us, h1, h2⟩ := h
  refine gIdx_1 h1 (by omega) (by omega) fun a u hua hc _ => gLoad_v hc (hK u (h2 k u _ ?_ (List.getElem?_eq_getElem hk)))
  rwa [Int.toNat_natCast] at hua
theorem EqualB_any {a c : Value} {xs ys : List Int} (ha : Nm .u8 w a xs) (hc : Nm .u8 w c ys) : Calls P n_bytes_Equal #[a, c] w (fun e w' => e = .returned (.bool (decide (xs = ys))) ∧ w' = w) :=
  of_bytes_Equal (gConv_bs ha (gConv_bs hc ⟨by rw [bsOf_eq ha.2 hc.2], rfl⟩))
theorem isW_any {u b' : Value} {ys xs : List Int} {np bp : Addr} {n : Nat} (hu : Nm .u8 w u ys) (hn : w.cell? np = some (.int .i64 (n : Int))) (hb : w.cell? bp = some b') (hx : Nm .u8 w b' xs) (hnl : n ≤ xs.length) :
    Calls P n_words_Apply_1 #[u, .pointer (some np), .pointer (some bp)] w (fun e w' => e = .returned (.bool (decide (0 < n ∧ ys = xs.take n))) ∧ w' = w) := by
  refine of_words_Apply_1 (gLoad_i hn (gIf_dec (fun h => gLoad_v hb (gLoad_i hn (gSlice_nm hx 0 n (.inl ⟨rfl, rfl⟩) (.inr ⟨_, rfl⟩) (Nat.zero_le _) hnl fun hs => gCall_of (EqualB_any hu hs) ?_))) (fun h => ⟨?_, rfl⟩)))
  · rintro _ _ ⟨rfl, rfl⟩
    refine ⟨_, rfl, ?_, rfl⟩
    rw [List.drop_zero, Nat.sub_zero]
    congr 2
    exact decide_eq_decide.2 ⟨fun h' => ⟨by omega, h'⟩, fun h' => h'.2⟩
  · congr 2
    exact (decide_eq_false (by omega)).symm
theorem idxW_at {L : List (List Int)} {u : List Int} {k : Nat} (hk : k < L.length) (h1 : ∀ j (hj : j < k), L[j]'(by omega) ≠ u) (h2 : L[k] = u) : idxW L u = k := by
  unfold idxW
  refine (List.findIdx_eq hk).2 ⟨by simp [h2], fun j hj => by simpa using h1 j hj⟩
theorem idxW_none {L : List (List Int)} {u : List Int} (h : ∀ j (hj : j < L.length), L[j] ≠ u) : idxW L u = L.length := by
  unfold idxW
  refine List.findIdx_eq_length.2 fun x hx => ?_
  obtain ⟨j, hj, rfl⟩ := List.mem_iff_getElem.1 hx
  simpa using h j hj
theorem Place_any {v b' : Value} {L : List (List Int)} {xs : List Int} {np bp : Addr} {n : Nat} (h : NL .u8 w v L) (hll : L.length ≤ 1000) (hn : w.cell? np = some (.int .i64 (n : Int))) (hb : w.cell? bp = some b') (hx : Nm .u8 w b' xs) (hnl : n ≤ xs.length) :
    Calls P n_slices_IndexFunc_byte_byte #[v, .func (.func n_words_Apply_1) #[] #[.pointer (some np), .pointer (some bp)]] w (fun e w' => e = .returned (.int .i64 (if 0 < n ∧ idxW L (xs.take n) < L.length then (idxW L (xs.take n) : Int) else -1)) ∧ w' = w) := by
  have hsl : ∃ us, Sl w 1 v L.length us := let ⟨us, h1, _⟩ := h; ⟨us, h1⟩
  obtain ⟨us, hS⟩ := hsl
  refine of_slices_IndexFunc_byte_byte (gLen_slv hS ⟨fun i w' => ∃ k : Nat, i = (k : Int) ∧ k ≤ L.length ∧ (∀ j (hj : j < k) (hl : j < L.length), ¬ (0 < n ∧ L[j] = xs.take n)) ∧ w' = w, fun i _ => (L.length - i).toNat, ⟨0, rfl, Nat.zero_le _, (fun j h => by omega), rfl⟩, ?_⟩)
  rintro _ i w1 ⟨k, rfl, hk, hall, hw1⟩
  obtain rfl : w = w1 := hw1.symm
  refine gIf_dec (fun hlt => h.at (k := k) (by omega) fun u hu => gCallV_of rfl (by kernel_rfl) (show Calls P n_words_Apply_1 #[u, .pointer (some np), .pointer (some bp)] _ _ from isW_any hu hn hb hx hnl) ?_) (fun hge => ⟨?_, rfl⟩)
  · rintro _ w2 ⟨rfl, hw2⟩
    obtain rfl : w = w2 := hw2.symm
    refine ⟨_, rfl, gIf_dec (fun hy => ⟨?_, rfl⟩) (fun hy => ⟨⟨k + 1, by rw [i64_id (by omega) (by omega)]; omega, by omega, fun j hj hl => ?_, rfl⟩, by dsimp only; rw [i64_id (by omega) (by omega)]; omega⟩)⟩
    · have e : idxW L (xs.take n) = k := idxW_at (by omega) (fun j hj he => hall j hj (by omega) ⟨hy.1, he⟩) hy.2
      rw [e, if_pos ⟨hy.1, by omega⟩]
    · by_cases hjk : j = k
      · subst hjk; exact hy
      · exact hall j (by omega) hl
  · by_cases h0 : 0 < n
    · rw [idxW_none (u := xs.take n) fun j hj he => hall j (by omega) hj ⟨h0, he⟩, if_neg (by omega)]
    · rw [if_neg (by omega)]
theorem tokW_len (L : List (List Int)) (xs : List Int) : (tokW L xs).length ≤ 2 * mxR xs := by
  have := mxR_pos xs
  unfold tokW
  split
  · simp; omega
  · split
    · rw [List.length_take]; unfold mxR; split <;> omega
    · split <;> simp <;> omega
theorem wApply_any {b v : Value} {L : List (List Int)} {xs : List Int} (hb : Nm .u8 w b xs) (hl : xs.length ≤ 10000000) (hv : NL .u8 w v L) : Calls P n_words_Apply #[b, v] w (NewB w (applyW (L.take 64) xs)) := by
  refine of_words_Apply (fBox (Fr.start w) fun bp w1 f1 => gCall_of (first_any (hv.ev f1.old)) ?_)
  rintro _ w2 ⟨rfl, hw2⟩
  obtain rfl : w1 = w2 := hw2.symm
  have hL0 := hv.first
  obtain ⟨t9, ht9⟩ : ∃ t9, t9 = subV 1 v 0 (min 64 L.length) := ⟨_, rfl⟩
  obtain ⟨M, hM⟩ : ∃ M, M = L.take 64 := ⟨_, rfl⟩
  rw [← hM, ← ht9] at hL0
  rw [← hM, ← ht9]
  have hMl : M.length ≤ 64 := by rw [hM, List.length_take]; omega
  have hb1 : b.cells.toList = [b] := by rw [hb.one]
  rw [hb1] at f1
  have cl : ∀ {u : Value} {zs : List Int}, Nm .u8 w u zs → u.cells = #[u] ∧ u.oneCell' = true := fun hu => by
    obtain ⟨a, c, rfl, _⟩ := hu.shape; exact ⟨rfl, rfl⟩
  refine ⟨_, rfl, fun out w' => ∃ (p : Nat) (b' : Value) (ys : List Int), p ≤ xs.length ∧ Nm .u8 w b' (xs.drop p) ∧ ys ++ applyW M (xs.drop p) = applyW M xs ∧ ys.length ≤ 2 * p ∧ Fr w w' [oIt .u8 eB out ys, sIt bp [b']], fun _ w' => (match w'.cell? bp with | some (.slice _ n _) => n | _ => 0), ⟨0, b, [], Nat.zero_le _, by rw [List.drop_zero]; exact hb, by rw [List.drop_zero]; rfl, Nat.le_refl _, f1.nil0 .u8 eB⟩, ?_⟩
  rintro _ out w4 ⟨p, b', ys, hp, hb', hys, hyl, f4⟩
  have hdl : (xs.drop p).length = xs.length - p := List.length_drop
  have hb4 := hb'.ev f4.old
  have cb4 : w4.cell? bp = some b' := by have := f4.cell 1 0 rfl rfl; rwa [Addr.add_zero'] at this
  refine gLoad_v cb4 (gLen_nm hb4 (gIf_dec (fun hgt => ?_) (fun hle => ?_)))
  · refine gLoad_v cb4 (gCall_of (run_any hb4 (by omega)) ?_)
    rintro _ w5 ⟨rfl, hw5⟩
    obtain rfl : w4 = w5 := hw5.symm
    have hrl := runN_le (xs.drop p)
    have hne : xs.drop p ≠ [] := fun h => by rw [h] at hgt; simp at hgt
    have hst := applyW_step (L := M) hne
    have htl := tokW_len M (xs.drop p)
    have hmp := mxR_pos (xs.drop p)
    obtain ⟨n, hn⟩ : ∃ n, n = runN (xs.drop p) := ⟨_, rfl⟩
    have hmx : mxR (xs.drop p) = if 1 > n then 1 else n := by unfold mxR; rw [hn]
    rw [← hn] at hrl ⊢
    refine ⟨_, rfl, fAlloc (z := .int .i64 0) f4 (by kernel_rfl) fun np w6 f6 => ?_⟩
    have f6 : Fr w w6 [sIt np [.int .i64 0], oIt .u8 eB out ys, sIt bp [b']] := f6
    refine gStore_st0 (f6.get 0 rfl) (by decide) rfl rfl fun w7 hc7 _ hS7 => ?_
    have f7 : Fr w w7 [sIt np [.int .i64 (n : Int)], oIt .u8 eB out ys, sIt bp [b']] := f6.upd (jt := sIt np [.int .i64 (n : Int)]) 0 rfl hc7 (fun k _ hh => .inl hh.1) hS7 fun k hk => .inl hk
    have cn : ∀ {w' : World} {F' : List It}, Fr w w' (sIt np [.int .i64 (n : Int)] :: F') → w'.cell? np = some (.int .i64 (n : Int)) := fun f => by have := f.cell 0 0 rfl rfl; rwa [Addr.add_zero'] at this
    have cb : ∀ {w' : World} {o : It}, Fr w w' [sIt np [.int .i64 (n : Int)], o, sIt bp [b']] → w'.cell? bp = some b' := fun f => by have := f.cell 2 0 rfl rfl; rwa [Addr.add_zero'] at this
    refine gCall_of (Place_any (hL0.ev f7.old) (by omega) (cn f7) (cb f7) (hb'.ev f7.old) (by omega)) ?_
    rintro _ w8 ⟨rfl, hw8⟩
    obtain rfl : w7 = w8 := hw8.symm
    have hr0 : 0 ≤ rd (xs.drop p) 0 ∧ rd (xs.drop p) 0 < 256 := rd_u8 hb'.2 0
    refine ⟨_, rfl, fun out' w' => Fr w w' [sIt np [.int .i64 (n : Int)], oIt .u8 eB out' (ys ++ tokW M (xs.drop p)), sIt bp [b']], ?_, ?_⟩
    · have htok : tokW M (xs.drop p) = if 0 < n ∧ idxW M ((xs.drop p).take n) < M.length then [128 + (idxW M ((xs.drop p).take n) : Int)] else if 0 < n then (xs.drop p).take n else if rd (xs.drop p) 0 ≥ 128 then [255, rd (xs.drop p) 0] else [rd (xs.drop p) 0] := by unfold tokW; rw [← hn]
      rw [htok]
      by_cases hq : 0 < n ∧ idxW M ((xs.drop p).take n) < M.length
      · rw [if_pos hq, if_pos hq]
        obtain ⟨q, hqe⟩ : ∃ q, q = idxW M ((xs.drop p).take n) := ⟨_, rfl⟩
        rw [← hqe] at hq ⊢
        refine gIf_dec (fun _ => ?_) (fun h => by omega)
        rw [i64_id (n := 128 + (q : Int)) (by omega) (by omega), show u8 (128 + (q : Int)) = 128 + (q : Int) by rw [u8_def]; omega]
        refine fLit_n [128 + (q : Int)] f7 rfl rfl (fun y hy => by simp at hy; subst hy; exact u8i (by omega)) fun t w9 f9 => fApp f9 2 rfl (f9.nm 0 rfl) (by simp; omega) fun v' w10 f10 => f10.drop 0
      · rw [if_neg hq, if_neg hq]
        refine gIf_dec (fun h => by omega) (fun _ => gLoad_i (cn f7) (gIf_dec (fun h0 => ?_) (fun h0 => ?_)))
        · rw [if_pos (by omega)]
          refine gLoad_v (cb f7) (gLoad_i (cn f7) (gSlice_nm (hb'.ev f7.old) 0 n (.inl ⟨rfl, rfl⟩) (.inr ⟨_, rfl⟩) (Nat.zero_le _) (by omega) fun hs => ?_))
          rw [List.drop_zero, Nat.sub_zero] at hs
          exact fApp f7 1 rfl hs (by rw [List.length_take]; omega) fun v' w10 f10 => f10
        · rw [if_neg (by omega)]
          refine gLoad_v (cb f7) (gGet (hb'.ev f7.old) (by omega) (by omega) (gIf_dec (fun h128 => ?_) (fun h128 => ?_)))
          · rw [if_pos h128]
            refine gLoad_v (cb f7) (gGet (hb'.ev f7.old) (by omega) (by omega) ?_)
            refine fLit_n [255, rd (xs.drop p) 0] f7 rfl rfl (fun y hy => by simp at hy; rcases hy with rfl | rfl <;> exact u8i (by omega)) fun t w9 f9 => fApp f9 2 rfl (f9.nm 0 rfl) (by simp; omega) fun v' w10 f10 => f10.drop 0
          · rw [if_neg h128]
            refine gLoad_v (cb f7) (gGet (hb'.ev f7.old) (by omega) (by omega) ?_)
            refine fLit_n [rd (xs.drop p) 0] f7 rfl rfl (fun y hy => by simp at hy; subst hy; exact u8i (by omega)) fun t w9 f9 => fApp f9 2 rfl (f9.nm 0 rfl) (by simp; omega) fun v' w10 f10 => f10.drop 0
    · rintro _ out' w11 f11
      have hmi : (if 1 > ((n : Nat) : Int) then (1 : Int) else ((n : Nat) : Int)) = ((mxR (xs.drop p) : Nat) : Int) := by rw [hmx]; split <;> split <;> omega
      obtain ⟨m, hm⟩ : ∃ m, m = mxR (xs.drop p) := ⟨_, rfl⟩
      rw [← hm] at hst htl hmp hmi
      have hm1 : m ≤ xs.length - p := by rw [hm, hmx]; split <;> omega
      refine gLoad_v (cb f11) (gLoad_i (cn f11) ?_)
      rw [hmi]
      refine gSlice_nm (hb'.ev f11.old) m (xs.drop p).length (.inr ⟨_, rfl⟩) (.inl ⟨rfl, rfl⟩) (by omega) (Nat.le_refl _) fun hs => ?_
      have hsub := hb'.sub m (xs.drop p).length (by omega) (Nat.le_refl _)
      rw [List.take_of_length_le (by rw [List.length_drop]; omega), List.drop_drop] at hsub
      obtain ⟨c1, c2⟩ := cl hsub
      refine gStore_st0 (f11.get 2 rfl) (Nat.zero_lt_succ _) c2 c1 fun w12 hc12 _ hS12 => ?_
      have f12 : Fr w w12 [sIt np [.int .i64 (n : Int)], oIt .u8 eB out' (ys ++ tokW M (xs.drop p)), sIt bp [_]] := f11.upd (jt := sIt bp [_]) 2 rfl hc12 (fun k _ hh => .inl hh.1) hS12 fun k hk => .inl hk
      have cbn := f12.cell 2 0 rfl rfl
      rw [Addr.add_zero'] at cbn
      refine ⟨⟨p + m, _, _, by omega, hsub, ?_, by rw [List.length_append]; omega, f12.drop 0⟩, ?_⟩
      · rw [List.append_assoc, ← List.drop_drop, ← hst]; exact hys
      · dsimp only
        rw [cbn, cb4]
        obtain ⟨a1, d1, e1, _⟩ := hb'.shape
        obtain ⟨a2, d2, e2, _⟩ := hsub.shape
        rw [e2, e1]
        dsimp only
        rw [List.length_drop, List.length_drop]; omega
  · have hnil : xs.drop p = [] := List.eq_nil_of_length_eq_zero (by omega)
    rw [hnil, applyW_nil, List.append_nil] at hys
    subst hys
    exact ⟨out, rfl, f4.old, f4.on 0 rfl⟩
end
end Go.Proofs.YtilpoinhfiajcaaGreatDoorV

/- Package slices: IndexFunc, ContainsFunc, Index, Contains of bytes; valisehelp: In. -/
namespace Go.Proofs.YtilpoinhfiajcaaGreatDoorV
open Go Go.RowKit
section
variable {b : Value} {xs : List Int} {w : World}
/-- The first place of such a one; none: -1. -/
def idxP (p : Int → Bool) : Nat → List Int → Int
  | _, [] => -1
  | j, c :: r => if p c = true then (j : Int) else idxP p (j + 1) r
theorem idxP_ge {p : Int → Bool} : ∀ {l : List Int} {j : Nat}, (idxP p j l ≥ 0) ↔ l.any p = true
  | [], j => by simp [idxP]
  | c :: r, j => by
    rw [idxP, List.any_cons]
    by_cases h : p c = true
    · rw [if_pos h, h]; simp
    · rw [if_neg h, idxP_ge, Bool.eq_false_iff.2 h]; simp
theorem IndexFunc_any {f : FuncId} {pf : Int → Bool} (hok : callOk P f = true) (hf : ∀ {c : Int} {w : World}, Calls P f #[.int .u8 c] w (fun e w' => e = .returned (.bool (pf c)) ∧ w' = w)) (hb : Nm .u8 w b xs) (hl : xs.length ≤ 1000000000) :
    Calls P n_slices_IndexFunc_byte_byte' #[b, .func (.func f) #[] #[]] w (fun e w' => e = .returned (.int .i64 (idxP pf 0 xs)) ∧ w' = w) := by
  refine of_slices_IndexFunc_byte_byte' (gLen_nm hb ⟨fun i w' => ∃ j : Nat, i = j ∧ j ≤ xs.length ∧ idxP pf 0 xs = idxP pf j (xs.drop j) ∧ w = w', fun i _ => xs.length - i.toNat, ⟨0, rfl, by omega, rfl, rfl⟩, ?_⟩)
  rintro _ i _ ⟨j, rfl, hj, hi, rfl⟩
  refine gIf_dec (fun hlt => ?_) (fun hge => ?_)
  · have hlt' : j < xs.length := by omega
    rw [List.drop_eq_getElem_cons hlt', idxP, ← rd_nat xs j hlt'] at hi
    refine gIdx_nm hb (by omega) hlt fun a1 c1 _ => gLoad_i c1 (gCallV_of rfl hok hf ?_)
    rintro _ _ ⟨rfl, rfl⟩
    refine ⟨_, rfl, gIf_b (fun h => ?_) (fun h => ?_)⟩
    · exact ⟨by rw [hi, if_pos h], rfl⟩
    · rw [if_neg (by rw [h]; simp)] at hi
      rw [i64_id (n := (j : Int) + 1) (by omega) (by omega)]
      exact ⟨⟨j + 1, rfl, by omega, hi, rfl⟩, by dsimp only; omega⟩
  · exact ⟨by rw [hi, List.drop_of_length_le (by omega)]; rfl, rfl⟩
theorem ContainsFunc_any {f : FuncId} {pf : Int → Bool} (hok : callOk P f = true) (hf : ∀ {c : Int} {w : World}, Calls P f #[.int .u8 c] w (fun e w' => e = .returned (.bool (pf c)) ∧ w' = w)) (hb : Nm .u8 w b xs) (hl : xs.length ≤ 1000000000) :
    Calls P n_slices_ContainsFunc_byte_byte #[b, .func (.func f) #[] #[]] w (fun e w' => e = .returned (.bool (xs.any pf)) ∧ w' = w) := by
  have e : decide (idxP pf 0 xs ≥ 0) = xs.any pf := by
    cases h : xs.any pf
    · exact decide_eq_false fun hh => by rw [idxP_ge, h] at hh; cases hh
    · exact decide_eq_true (idxP_ge.2 h)
  exact of_slices_ContainsFunc_byte_byte (gCall_i0 (IndexFunc_any hok hf hb hl) ⟨by rw [e], rfl⟩)
end
end Go.Proofs.YtilpoinhfiajcaaGreatDoorV

/- Package text: the writer, Caps, Uncaps; the same of valiseref22. -/
namespace Go.Proofs.YtilpoinhfiajcaaGreatDoorV
open Go Go.RowKit
def capB (c : Int) : Bool := decide (65 ≤ c ∧ c ≤ 90)
def capE (c : Int) : List Int := if capB c = true then [2, c + 32] else if c = 2 ∨ c = 3 then [3, c] else [c]
def capL (xs : List Int) : List Int := xs.flatMap capE
def capsT (xs : List Int) : List Int × Bool := if xs.any capB = true ∧ xs.length ≤ 1048576 then (capL xs, true) else ([], false)
theorem capE_u8 {c : Int} (h : 0 ≤ c ∧ c < 256) : inR .u8 (capE c) := fun x hx => by
  unfold capE capB at hx
  split at hx
  · rename_i hc
    have hc := of_decide_eq_true hc
    simp at hx; exact u8i (by omega)
  · split at hx <;> (simp at hx; exact u8i (by omega))
theorem capE_len (c : Int) : (capE c).length ≤ 2 ∧ 1 ≤ (capE c).length := by unfold capE; split; simp; split <;> simp
theorem capL_len : ∀ (xs : List Int), (capL xs).length ≤ 2 * xs.length
  | [] => by simp [capL]
  | c :: r => by
    have := capL_len r
    have h2 := capE_len c
    unfold capL at this ⊢
    simp only [List.flatMap_cons, List.length_append, List.length_cons]; omega
theorem capL_snoc (xs : List Int) (i : Nat) (h : i < xs.length) : capL (xs.take (i + 1)) = capL (xs.take i) ++ capE (rd xs i) := by
  unfold capL
  rw [List.take_succ_eq_append_getElem h, rd_nat xs i h, List.flatMap_append, List.flatMap_cons, List.flatMap_nil, List.append_nil]
section
variable {b : Value} {xs : List Int} {w : World}
theorem capital_any {c : Int} {w : World} : Calls P n_text_capital #[.int .u8 c] w (fun e w' => e = .returned (.bool (capB c)) ∧ w' = w) := by
  refine of_text_capital (gIf_dec (fun h => ⟨?_, rfl⟩) (fun h => ⟨?_, rfl⟩))
  · unfold capB; congr 2; exact decide_eq_decide.2 ⟨fun h2 => ⟨h, h2⟩, fun h2 => h2.2⟩
  · unfold capB; rw [decide_eq_false (fun h2 => h h2.1)]
theorem tput_any {ad : Addr} {v l : Value} {ys : List Int} (h : Wr eB w ad v xs) (hl : Nm .u8 w l ys) (hb : (xs.length + ys.length) * 8 ≤ 140737488355328) : Calls P n_text_writer_put #[.pointer (some ad), l] w (fun e w' => e = .returned (.tuple #[]) ∧ ∃ v', WrS eB w w' ad v v' (xs ++ ys)) :=
  of_text_writer_put (gNil_some (gLoad_v (h.1.cell (j := 0) rfl) (wrApp h hl hb fun v' w' hw => ⟨rfl, v', hw⟩)))
/-- Bytes of a literal, put. -/
theorem fPutLit {w0 : World} {F : List It} {ad : Addr} {v : Value} {K : World → Prop} {parts : Array (Nat × Value)} {n : Nat} (ys : List Int) (hp : parts.toList = enumV 0 (ys.map (.int .u8))) (hn : ys.length = n) (hy : inR .u8 ys) (h : Fr w0 w (wIt eB ad v xs :: F)) (hb : xs.length ≤ 1000000000) (hn2 : n ≤ 100) (hk : ∀ v' w', Fr w0 w' (wIt eB ad v' (xs ++ ys) :: F) → K w') :
    gLit P t_sl_uint8 n parts w fun l w1 => gCall P n_text_writer_put shU #[.pointer (some ad), l] w1 K :=
  fLit_n ys h hp hn hy (fun l w1 f1 => gCall_u (tput_any (f1.get 1 rfl) (f1.nm 0 rfl) (by omega)) fun w2 ⟨v', hw⟩ => hk v' w2 ((f1.wr 1 rfl hw).drop 0)) (by omega)
theorem Caps_any (hb : Nm .u8 w b xs) (hl : xs.length ≤ 100000000) : Calls P n_text_Caps #[b] w (TupB w (capsT xs)) := by
  have hno : ¬ (xs.any capB = true ∧ xs.length ≤ 1048576) → capsT xs = ([], false) := fun h => by unfold capsT; rw [if_neg h]
  refine of_text_Caps ⟨fun w' => (xs.any capB = true ∧ xs.length ≤ 1048576) ∧ w = w', gCall_b0 (ContainsFunc_any (by kernel_rfl) capital_any hb (by omega)) (gIf_b (fun h => ?_) (fun h => ?_)), ?_⟩
  · have h : xs.any capB = true := by simpa using h
    refine gLen_nm hb (gIf_dec (fun hg => ?_) (fun hg => ⟨⟨h, by omega⟩, rfl⟩))
    rw [hno (by omega)]; exact ⟨_, rfl, Ch.refl _ w, ON.nil _ _ _ _⟩
  · have h : xs.any capB = false := by simpa using h
    rw [hno (by rw [h]; simp)]; exact ⟨_, rfl, Ch.refl _ w, ON.nil _ _ _ _⟩
  rintro _ _ ⟨hok, rfl⟩
  refine fAlloc (z := .agg #[.slice none 0 0]) (Fr.start w) (by kernel_rfl) fun ad w1 f1 => ?_
  have f1 := f1.asW (e := eB) 0 rfl
  rw [Addr.add_zero' ad]
  refine gLen_nm hb ⟨fun i w' => ∃ (j : Nat) (v : Value), i = j ∧ j ≤ xs.length ∧ Fr w w' [wIt eB ad v (capL (xs.take j))], fun i _ => xs.length - i.toNat, ⟨0, _, rfl, by omega, f1⟩, ?_⟩
  rintro _ i w2 ⟨j, v, rfl, hj, f2⟩
  have hcl := capL_len (xs.take j)
  rw [List.length_take, Nat.min_eq_left hj] at hcl
  refine gIf_dec (fun hlt => ?_) (fun hge => ?_)
  · have hlt' : j < xs.length := by omega
    have hc := rd_u8 hb.2 j
    have hs := capL_snoc xs j hlt'
    have hsu := capE_u8 hc
    rw [i64_id (n := (j : Int) + 1) (by omega) (by omega)]
    refine gIdx_nm (hb.ev f2.old) (by omega) hlt fun a1 c1 _ => gLoad_i c1 (gCall_b0 capital_any (gIf_b (fun hcap => ?_) (fun hcap => ?_)))
    · have he : capE (rd xs j) = [2, u8 (rd xs j + 32)] := by
        have := of_decide_eq_true hcap
        unfold capE; rw [if_pos hcap, u8_id (by omega) (by omega)]
      rw [he] at hs hsu
      refine fPutLit [2, u8 (rd xs j + 32)] rfl rfl hsu f2 (by omega) (by decide) fun v' w3 f3 => ?_
      rw [← hs] at f3
      exact ⟨⟨j + 1, v', rfl, by omega, f3⟩, by dsimp only; omega⟩
    · have fin2 : (rd xs j = 2 ∨ rd xs j = 3) → gLit P t_sl_uint8 2 #[(0, .int .u8 3), (1, .int .u8 (rd xs j))] w2 fun (t42 : Value) ww8 => gCall P n_text_writer_put shU #[.pointer (some ad), t42] ww8 fun ww9 => (∃ (j' : Nat) (v : Value), ((j : Int) + 1) = j' ∧ j' ≤ xs.length ∧ Fr w ww9 [wIt eB ad v (capL (xs.take j'))]) ∧ xs.length - ((j : Int) + 1).toNat < xs.length - (j : Int).toNat := fun h23 => by
        have he : capE (rd xs j) = [3, rd xs j] := by unfold capE; rw [if_neg (by rw [hcap]; simp), if_pos h23]
        rw [he] at hs hsu
        refine fPutLit [3, rd xs j] rfl rfl hsu f2 (by omega) (by decide) fun v' w3 f3 => ?_
        rw [← hs] at f3
        exact ⟨⟨j + 1, v', rfl, by omega, f3⟩, by omega⟩
      refine gIf_neqq (fun n2 => gIf_eq (fun e3 => fin2 (.inr e3)) (fun n3 => ?_)) (fun e2 => fin2 (.inl e2))
      have he : capE (rd xs j) = [rd xs j] := by unfold capE; rw [if_neg (by rw [hcap]; simp), if_neg (by omega)]
      rw [he] at hs hsu
      refine fPutLit [rd xs j] rfl rfl hsu f2 (by omega) (by decide) fun v' w3 f3 => ?_
      rw [← hs] at f3
      exact ⟨⟨j + 1, v', rfl, by omega, f3⟩, by dsimp only; omega⟩
  · obtain rfl : j = xs.length := by omega
    have hW : Wr eB w2 ad v (capL (xs.take xs.length)) := f2.get 0 rfl
    refine gLoad_v (hW.1.cell (j := 0) rfl) ?_
    have hc : capsT xs = (capL (xs.take xs.length), true) := by unfold capsT; rw [if_pos hok, List.take_length]
    rw [hc]
    refine ⟨v, rfl, f2.old, ?_⟩
    exact on_new hW.2.1 fun g hg => (f2.ft 0 rfl (k := g) (.inr hg)).1
end
end Go.Proofs.YtilpoinhfiajcaaGreatDoorV

/- Package text: Uncaps; the same of valiseref22; Caps of valiseref22; the law TextCaps. -/
namespace Go.Proofs.YtilpoinhfiajcaaGreatDoorV
open Go Go.RowKit
section
variable {b : Value} {xs : List Int} {w : World}
theorem rCaps_any (hb : Nm .u8 w b xs) (hl : xs.length ≤ 100000000) : Calls P n_valiseref22_Caps #[b] w (TupB w (capsT xs)) := by
  have hno : ∀ {w' : World}, Ev w w' → ¬ (xs.any capB = true ∧ xs.length ≤ 1048576) → TupB w (capsT xs) (.returned (.tuple #[.slice none 0 0, .bool false])) w' := fun he h => by unfold capsT; rw [if_neg h]; exact ⟨_, rfl, he, ON.nil _ _ _ _⟩
  refine of_valiseref22_Caps (gLen_nm hb (gIf_dec (fun h => hno (Ch.refl _ w) (by omega)) (fun hs => ?_)))
  refine ⟨fun o s i w' => ∃ j : Nat, i = j ∧ j ≤ xs.length ∧ s = (xs.take j).any capB ∧ Fr w w' [oIt .u8 eB o (capL (xs.take j))], fun _ _ i _ => xs.length - i.toNat, ⟨0, rfl, by omega, rfl, (Fr.start w).nil0 _ _⟩, ?_⟩
  rintro _ o s i w2 ⟨j, rfl, hj, rfl, f2⟩
  have hcl := capL_len (xs.take j)
  rw [List.length_take, Nat.min_eq_left hj] at hcl
  have hbw := hb.ev f2.old
  refine gLen_nm hb (gIf_dec (fun hlt => ?_) (fun hge => ?_))
  · have hlt' : j < xs.length := by omega
    have hc := rd_u8 hb.2 j
    have hs := capL_snoc xs j hlt'
    have hsu := capE_u8 hc
    have hany : (xs.take (j + 1)).any capB = ((xs.take j).any capB || capB (rd xs j)) := by rw [List.take_succ_eq_append_getElem hlt', ← rd_nat xs j hlt', List.any_append]; simp
    refine ⟨fun o s w' => s = (xs.take (j + 1)).any capB ∧ Fr w w' [oIt .u8 eB o (capL (xs.take (j + 1)))], gIdx_nm hbw (by omega) hlt fun a1 c1 _ => gLoad_i c1 ⟨fun t w' => t = capB (rd xs j) ∧ w2 = w', gIf_dec (fun h1 => ⟨?_, rfl⟩) (fun h1 => ⟨?_, rfl⟩), ?_⟩, ?_⟩
    · unfold capB; exact decide_eq_decide.2 ⟨fun h2 => ⟨h1, h2⟩, fun h2 => h2.2⟩
    · unfold capB; rw [decide_eq_false (fun h2 => h1 h2.1)]
    · rintro _ _ _ ⟨rfl, rfl⟩
      refine gIf_b (fun hcap => ?_) (fun hcap => ?_)
      · have he : capE (rd xs j) = [2, u8 (rd xs j + 32)] := by
          have := of_decide_eq_true hcap
          unfold capE; rw [if_pos hcap, u8_id (by omega) (by omega)]
        rw [he] at hs hsu
        refine fLit_n [2, u8 (rd xs j + 32)] f2 rfl rfl hsu fun l w3 f3 => fApp f3 1 rfl (f3.nm 0 rfl) (by simp; omega) fun o2 w4 f4 => ⟨by rw [hany, hcap, Bool.or_true], ?_⟩
        rw [hs]; exact f4.drop 0
      · rw [hcap, Bool.or_false] at hany
        have fin2 : (rd xs j = 2 ∨ rd xs j = 3) → gLit P t_sl_uint8 2 #[(0, .int .u8 3), (1, .int .u8 (rd xs j))] w2 fun (t42 : Value) ww8 => gApp P #[t_sl_uint8, t_sl_uint8] t_sl_uint8 #[o, t42] ww8 fun (t47 : Value) ww9 => (xs.take j).any capB = (xs.take (j + 1)).any capB ∧ Fr w ww9 [oIt .u8 eB t47 (capL (xs.take (j + 1)))] := fun h23 => by
          have he : capE (rd xs j) = [3, rd xs j] := by unfold capE; rw [if_neg (by rw [hcap]; simp), if_pos h23]
          rw [he] at hs hsu
          refine fLit_n [3, rd xs j] f2 rfl rfl hsu fun l w3 f3 => fApp f3 1 rfl (f3.nm 0 rfl) (by simp; omega) fun o2 w4 f4 => ⟨hany.symm, ?_⟩
          rw [hs]; exact f4.drop 0
        refine gIf_neqq (fun n2 => gIf_eq (fun e3 => fin2 (.inr e3)) (fun n3 => ?_)) (fun e2 => fin2 (.inl e2))
        have he : capE (rd xs j) = [rd xs j] := by unfold capE; rw [if_neg (by rw [hcap]; simp), if_neg (by omega)]
        rw [he] at hs hsu
        refine fLit_n [rd xs j] f2 rfl rfl hsu fun l w3 f3 => fApp f3 1 rfl (f3.nm 0 rfl) (by simp; omega) fun o2 w4 f4 => ⟨hany.symm, ?_⟩
        rw [hs]; exact f4.drop 0
    · rintro _ o3 s3 w3 ⟨hs3, f3⟩
      rw [i64_id (n := (j : Int) + 1) (by omega) (by omega)]
      exact ⟨⟨j + 1, rfl, by omega, hs3, f3⟩, by dsimp only; omega⟩
  · obtain rfl : j = xs.length := by omega
    rw [List.take_length] at f2 ⊢
    refine gIf_nb (fun h => hno f2.old (by rw [h]; simp)) (fun h => ?_)
    unfold capsT
    rw [if_pos ⟨h, by omega⟩]
    exact ⟨o, rfl, f2.old, f2.on 0 rfl⟩
end
end Go.Proofs.YtilpoinhfiajcaaGreatDoorV

/- What a row hands in that lists variables: the shape of the world, too. -/
namespace Go.Proofs.YtilpoinhfiajcaaGreatDoorV
open Go
theorem returnsInHanded_of_change_shaped {H : Type} {enc : TypeId × Value → H} {a : Assume} {C : Checked} {os : Os} {f : FuncId} {fn : Func} {s : ChangeSpec} {conds : List PathCond} {apart fresh handsOn again : Bool} {X : World → Array Value → Prop}
    (hX : ∀ (w w' : World) (args : Array Value), w.heap = w'.heap → X w args → X w' args)
    (own : ownKnob C.prog.godebug = none) (started : os.Started) (noInit : C.prog.inits.idxOf? f = none) (hfn : C.prog.funcs[f]? = some fn)
    (witness : ∃ (w : World) (tape : Tape) (i : Input), w.os = os ∧ (w.forCall tape i).Shaped C.prog ∧ i.vars = [] ∧ Input.okWide C.prog (w.forCall tape i) .any w.heap.size f i ∧
      ((s.pre enc C.prog fn conds apart (w.forCall tape i).memory i.args ∧ X (w.forCall tape i).memory i.args) ∧ sizedMet enc C.prog fn (OpenSpec.ofChange s) apart (w.forCall tape i).memory i.args) ∧ a.holds C.prog (lone (Frame.enter C.prog f i.args .normal) [] (w.forCall tape i)))
    (contract : ∀ (W : World) (base : Nat) (args : Array Value) (ds gs : List (DataW H)) (before : List MemPlace),
      (∀ (j : Nat) t v, fn.params[j]? = some t → args[j]? = some v → Value.okWide C.prog W .any base t v) →
      DataW.Whole enc C.prog fn.params.toList s.vars apart W args.toList ds gs before →
      conds.all (PathCond.test C.prog ⟨fn.params.toList, ds, s.plain.varTypes C.prog, gs⟩) = true →
      (DataW.weightsEach C.prog (fn.params.toList ++ s.plain.varTypes C.prog) (ds ++ gs)).all (· ≤ reachBytes) = true → X W args →
      a.holds C.prog (lone (Frame.enter C.prog f args .normal) [] W) → W.ShapedOpen C.prog →
      Calls C.prog f args W fun e W' => ∃ v, e = .returned v ∧ s.post enc C.prog fn apart fresh handsOn again W args v W') :
    ReturnsInHanded a C os f .any (fun w args => (s.pre enc C.prog fn conds apart w args ∧ X w args) ∧ sizedMet enc C.prog fn (OpenSpec.ofChange s) apart w args) (s.post enc C.prog fn apart fresh handsOn again) := by
  refine returnsInHanded_of_calls own started noInit witness ?_
  intro w tape i _ hsh _ hok hpre hholds
  obtain ⟨_, _, _, fn', hfn', _, _, _, _, hval⟩ := hok
  have e : fn' = fn := Option.some.inj (hfn'.symm.trans hfn)
  subst e
  obtain ⟨⟨⟨ds, gs, before, hw, hc⟩, hx⟩, hz⟩ := hpre
  have hw' := DataW.Whole.of_heap (w' := w.forCall tape i) (by rfl) hw
  refine (contract (w.forCall tape i) w.heap.size i.args ds gs before hval hw' hc (hz.weights hw) (hX _ _ _ (by rfl) hx) hholds hsh).mono fun e W' ⟨v, he, hp⟩ => ?_
  subst he
  exact ChangeSpec.post_blind hp
end Go.Proofs.YtilpoinhfiajcaaGreatDoorV
