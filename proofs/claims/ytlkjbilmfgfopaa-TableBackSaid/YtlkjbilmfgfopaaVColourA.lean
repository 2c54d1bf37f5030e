/- Package colour: Apart and Together. -/
import Derived.Test.YtlkjbilmfgfopaaVBase
namespace Go.Proofs.YtlkjbilmfgfopaaV
open Go Go.RowKit
def cl16 (n : Int) : Nat := (if (if 16 < n then 16 else n) > 1 then (if 16 < n then 16 else n) else 1).toNat
theorem cl16_eq (n : Int) : (if (if 16 < n then 16 else n) > 1 then (if 16 < n then 16 else n) else 1) = (cl16 n : Int) := by unfold cl16; split <;> split <;> omega
theorem cl16_bd (n : Int) : 1 ≤ cl16 n ∧ cl16 n ≤ 16 := by unfold cl16; split <;> split <;> omega
def apAt (xs : List Int) (n m q : Nat) : Int := if q < n * m then rd xs ((q % m * n + q / m : Nat) : Int) else rd xs q
def toAt (xs : List Int) (n m q : Nat) : Int := if q < n * m then rd xs ((q % n * m + q / n : Nat) : Int) else rd xs q
def apartL (xs : List Int) (n : Nat) : List Int := tab xs.length (apAt xs n (xs.length / n))
def togetherL (xs : List Int) (n : Nat) : List Int := tab xs.length (toAt xs n (xs.length / n))
theorem apartL_len (xs : List Int) (n : Nat) : (apartL xs n).length = xs.length := tab_len _ _
theorem togetherL_len (xs : List Int) (n : Nat) : (togetherL xs n).length = xs.length := tab_len _ _
theorem grid {n m i k : Nat} (hi : i < m) (hk : k < n) : i * n + k < n * m ∧ (i * n + k) % n = k ∧ (i * n + k) / n = i := by
  have h1 : (i + 1) * n ≤ m * n := Nat.mul_le_mul_right _ hi
  rw [Nat.succ_mul, Nat.mul_comm m n] at h1
  refine ⟨by omega, ?_, ?_⟩
  · rw [Nat.mul_comm, Nat.mul_add_mod, Nat.mod_eq_of_lt hk]
  · rw [Nat.mul_comm, Nat.mul_add_div (by omega), Nat.div_eq_of_lt hk]; omega
theorem together_apart (xs : List Int) {n : Nat} (hn : 1 ≤ n) : togetherL (apartL xs n) n = xs := by
  unfold togetherL
  rw [apartL_len]
  conv => rhs; rw [← tab_rd xs]
  refine tab_ext fun q hq => ?_
  unfold toAt
  have hm := Nat.div_mul_le_self xs.length n
  rw [Nat.mul_comm] at hm
  split
  · rename_i h
    have hk := Nat.mod_lt q (show n > 0 by omega)
    have hi : q / n < xs.length / n := by rw [Nat.div_lt_iff_lt_mul (by omega), Nat.mul_comm]; exact h
    obtain ⟨g1, g2, g3⟩ := grid (n := xs.length / n) (m := n) (i := q % n) (k := q / n) hk hi
    rw [Nat.mul_comm (xs.length / n) n] at g1
    unfold apartL
    rw [rd_tab (by omega), apAt, if_pos g1, g2, g3, Nat.mul_comm, Nat.div_add_mod]
  · unfold apartL
    rw [rd_tab hq, apAt, if_neg (by assumption)]
theorem quo_nat {a n : Nat} (ha : a ≤ 1000000000) : IntKind.wrap .i64 (Int.tdiv (a : Int) (n : Int)) = ((a / n : Nat) : Int) := by
  rw [Int.tdiv_eq_ediv_of_nonneg (by omega)]
  have h1 : a / n ≤ a := Nat.div_le_self _ _
  have : ((a / n : Nat) : Int) = (a : Int) / n := by rw [Int.natCast_ediv]
  rw [← this]; clear this; generalize a / n = t at h1 ⊢; exact i64_id (by omega) (by omega)
theorem Apart_any {b : Value} {xs : List Int} {n : Int} {w : World} (hb : Nm .u8 w b xs) (hl : xs.length ≤ 1000000000) : Calls P n_colour_Apart #[b, .int .i64 n] w (NewB w (apartL xs (cl16 n))) := by
  refine of_colour_Apart (gLen_nm hb ?_)
  rw [cl16_eq]
  have hn := cl16_bd n
  generalize cl16 n = N at hn
  refine gBin_quo (by omega) ?_
  rw [quo_nat hl]
  unfold apartL
  have hm := Nat.div_mul_le_self xs.length N
  rw [Nat.mul_comm] at hm
  have hmle : xs.length / N ≤ xs.length := Nat.div_le_self _ _
  generalize xs.length / N = M at *
  refine gApp_on (ON.nil .u8 eB w w.heap.size) hb (by simp; omega) (Nat.le_refl _) fun v w1 hO hc hmv => ?_
  have h1 : Ev w w1 := hc.mono fun _ _ _ hh => by cases hh
  rw [List.nil_append] at hO
  have t0 : ∀ c, c = 0 → (tab xs.length fun q => if q < c then apAt xs N M q else rd xs q) = xs := fun c hc => by
    subst hc
    conv => rhs; rw [← tab_rd xs]
    exact tab_ext fun q _ => by rw [if_neg (by omega)]
  refine ⟨fun k w' => ∃ K : Nat, k = K ∧ K ≤ N ∧ Ev w w' ∧ ON .u8 eB w' w.heap.size v (tab xs.length fun q => if q < K * M then apAt xs N M q else rd xs q), fun k _ => N - k.toNat, ⟨0, rfl, by omega, h1, by rw [t0 _ (by simp)]; exact hO⟩, ?_⟩
  rintro _ k w2 ⟨K, rfl, hK, h2, hO2⟩
  refine gIf_dec (fun hlt => ?_) (fun hge => ⟨v, rfl, h2, ?_⟩)
  · have hKN : K < N := by omega
    refine ⟨fun i w' => ∃ I : Nat, i = I ∧ I ≤ M ∧ Ev w w' ∧ ON .u8 eB w' w.heap.size v (tab xs.length fun q => if q < K * M + I then apAt xs N M q else rd xs q), fun i _ => M - i.toNat, ⟨0, rfl, by omega, h2, hO2⟩, ?_⟩
    rintro _ i w3 ⟨I, rfl, hI, h3, hO3⟩
    refine gIf_dec (fun hil => ?_) (fun hig => ?_)
    · obtain ⟨g1, g2, g3⟩ := grid (n := N) (m := M) (i := I) (k := K) (by omega) hKN
      obtain ⟨g4, g5, g6⟩ := grid (n := M) (m := N) (i := K) (k := I) hKN (by omega)
      rw [Nat.mul_comm M N] at g4
      have hIN : I * N ≤ 1000000000 := by omega
      have hKM : K * M ≤ 1000000000 := by omega
      rw [show i64 ((I : Int) * (N : Int)) = ((I * N : Nat) : Int) by rw [← Int.natCast_mul]; exact i64_id (by omega) (by omega), show i64 (((I * N : Nat) : Int) + K) = ((I * N + K : Nat) : Int) by rw [i64_id (by omega) (by omega)]; omega,
        show i64 ((K : Int) * (M : Int)) = ((K * M : Nat) : Int) by rw [← Int.natCast_mul]; exact i64_id (by omega) (by omega), show i64 (((K * M : Nat) : Int) + I) = ((K * M + I : Nat) : Int) by rw [i64_id (by omega) (by omega)]; omega, i64_id (n := (I : Int) + 1) (by omega) (by omega)]
      refine gIdx_nm (hb.ev h3) (by omega) (by omega) fun a1 c1 _ => gLoad_i c1 (gIdx_on hO3 (by omega) (by rw [tab_len]; omega) fun a2 s2 _ => gStore_on hO3 s2 (by omega) (by rw [tab_len]; omega) (u8i (rd_u8 hb.2 _)) fun w4 h4 _ hO4 => ⟨⟨I + 1, by omega, by omega, h3.new h4 fun g _ hg => (hO3.base hg).1, ?_⟩, by dsimp only; omega⟩)
      rw [Int.toNat_natCast, tab_set (by omega)] at hO4
      rw [show (tab xs.length fun q => if q < K * M + (I + 1) then apAt xs N M q else rd xs q) = tab xs.length fun q => if q = K * M + I then rd xs ((I * N + K : Nat) : Int) else if q < K * M + I then apAt xs N M q else rd xs q from tab_ext fun q hq => by
        by_cases e : q = K * M + I
        · subst e
          rw [if_pos rfl, if_pos (by omega), apAt, if_pos g4, g5, g6]
        · rw [if_neg e]
          by_cases e3 : q < K * M + I
          · rw [if_pos e3, if_pos (by omega)]
          · rw [if_neg e3, if_neg (by omega)]]
      exact hO4
    · have : I = M := by omega
      subst this
      rw [i64_id (n := (K : Int) + 1) (by omega) (by omega)]
      exact ⟨⟨K + 1, by omega, by omega, h3, by rw [Nat.succ_mul]; exact hO3⟩, by dsimp only; omega⟩
  · have : K = N := by omega
    subst this
    rw [show tab xs.length (apAt xs K M) = tab xs.length fun q => if q < K * M then apAt xs K M q else rd xs q from tab_ext fun q hq => by
      by_cases e : q < K * M
      · rw [if_pos e]
      · rw [if_neg e, apAt, if_neg e]]
    exact hO2
theorem Together_any {b : Value} {xs : List Int} {n : Int} {w : World} (hb : Nm .u8 w b xs) (hl : xs.length ≤ 1000000000) : Calls P n_colour_Together #[b, .int .i64 n] w (NewB w (togetherL xs (cl16 n))) := by
  refine of_colour_Together (gLen_nm hb ?_)
  rw [cl16_eq]
  have hn := cl16_bd n
  generalize cl16 n = N at hn
  refine gBin_quo (by omega) ?_
  rw [quo_nat hl]
  unfold togetherL
  have hm := Nat.div_mul_le_self xs.length N
  rw [Nat.mul_comm] at hm
  have hmle : xs.length / N ≤ xs.length := Nat.div_le_self _ _
  generalize xs.length / N = M at *
  refine gApp_on (ON.nil .u8 eB w w.heap.size) hb (by simp; omega) (Nat.le_refl _) fun v w1 hO hc hmv => ?_
  have h1 : Ev w w1 := hc.mono fun _ _ _ hh => by cases hh
  rw [List.nil_append] at hO
  refine ⟨fun k w' => ∃ K : Nat, k = K ∧ K ≤ N ∧ Ev w w' ∧ ON .u8 eB w' w.heap.size v (tab xs.length fun q => if q < N * M ∧ q % N < K then toAt xs N M q else rd xs q), fun k _ => N - k.toNat, ⟨0, rfl, by omega, h1, ?_⟩, ?_⟩
  · rw [show (tab xs.length fun q => if q < N * M ∧ q % N < 0 then toAt xs N M q else rd xs q) = xs by
      conv => rhs; rw [← tab_rd xs]
      exact tab_ext fun q _ => by rw [if_neg (by omega)]]
    exact hO
  rintro _ k w2 ⟨K, rfl, hK, h2, hO2⟩
  refine gIf_dec (fun hlt => ?_) (fun hge => ⟨v, rfl, h2, ?_⟩)
  · have hKN : K < N := by omega
    refine ⟨fun i w' => ∃ I : Nat, i = I ∧ I ≤ M ∧ Ev w w' ∧ ON .u8 eB w' w.heap.size v (tab xs.length fun q => if q < N * M ∧ (q % N < K ∨ q % N = K ∧ q / N < I) then toAt xs N M q else rd xs q), fun i _ => M - i.toNat, ⟨0, rfl, by omega, h2, ?_⟩, ?_⟩
    · rw [show (tab xs.length fun q => if q < N * M ∧ (q % N < K ∨ q % N = K ∧ q / N < 0) then toAt xs N M q else rd xs q) = tab xs.length fun q => if q < N * M ∧ q % N < K then toAt xs N M q else rd xs q from tab_ext fun q _ => by
        by_cases e : q < N * M ∧ q % N < K
        · rw [if_pos e, if_pos ⟨e.1, .inl e.2⟩]
        · rw [if_neg e, if_neg (fun hh => hh.2.elim (fun h => e ⟨hh.1, h⟩) (fun h => Nat.not_lt_zero _ h.2))]]
      exact hO2
    rintro _ i w3 ⟨I, rfl, hI, h3, hO3⟩
    refine gIf_dec (fun hil => ?_) (fun hig => ?_)
    · obtain ⟨g1, g2, g3⟩ := grid (n := N) (m := M) (i := I) (k := K) (by omega) hKN
      obtain ⟨g4, g5, g6⟩ := grid (n := M) (m := N) (i := K) (k := I) hKN (by omega)
      rw [Nat.mul_comm M N] at g4
      have hIN : I * N ≤ 1000000000 := by omega
      have hKM : K * M ≤ 1000000000 := by omega
      rw [show i64 ((I : Int) * (N : Int)) = ((I * N : Nat) : Int) by rw [← Int.natCast_mul]; exact i64_id (by omega) (by omega), show i64 (((I * N : Nat) : Int) + K) = ((I * N + K : Nat) : Int) by rw [i64_id (by omega) (by omega)]; omega,
        show i64 ((K : Int) * (M : Int)) = ((K * M : Nat) : Int) by rw [← Int.natCast_mul]; exact i64_id (by omega) (by omega), show i64 (((K * M : Nat) : Int) + I) = ((K * M + I : Nat) : Int) by rw [i64_id (by omega) (by omega)]; omega, i64_id (n := (I : Int) + 1) (by omega) (by omega)]
      refine gIdx_nm (hb.ev h3) (by omega) (by omega) fun a1 c1 _ => gLoad_i c1 (gIdx_on hO3 (by omega) (by rw [tab_len]; omega) fun a2 s2 _ => gStore_on hO3 s2 (by omega) (by rw [tab_len]; omega) (u8i (rd_u8 hb.2 _)) fun w4 h4 _ hO4 => ⟨⟨I + 1, by omega, by omega, h3.new h4 fun g _ hg => (hO3.base hg).1, ?_⟩, by dsimp only; omega⟩)
      rw [Int.toNat_natCast, tab_set (by omega)] at hO4
      rw [show (tab xs.length fun q => if q < N * M ∧ (q % N < K ∨ q % N = K ∧ q / N < I + 1) then toAt xs N M q else rd xs q) = tab xs.length fun q => if q = I * N + K then rd xs ((K * M + I : Nat) : Int) else if q < N * M ∧ (q % N < K ∨ q % N = K ∧ q / N < I) then toAt xs N M q else rd xs q from tab_ext fun q hq => by
        by_cases e : q = I * N + K
        · subst e
          rw [if_pos rfl, if_pos ⟨g1, .inr ⟨g2, by omega⟩⟩, toAt, if_pos g1, g2, g3]
        · rw [if_neg e]
          by_cases e3 : q < N * M ∧ (q % N < K ∨ q % N = K ∧ q / N < I)
          · rw [if_pos e3, if_pos ⟨e3.1, e3.2.elim .inl fun h => .inr ⟨h.1, by omega⟩⟩]
          · have : ¬ (q < N * M ∧ (q % N < K ∨ q % N = K ∧ q / N < I + 1)) := fun hh => e3 ⟨hh.1, hh.2.elim .inl fun h => .inr ⟨h.1, by
              have hd := Nat.div_add_mod q N
              rcases Nat.lt_or_ge (q / N) I with h4 | h4
              · exact h4
              · exfalso
                have : q / N = I := by omega
                rw [this, h.1, Nat.mul_comm] at hd
                exact e hd.symm⟩⟩
            rw [if_neg e3, if_neg this]]
      exact hO4
    · have : I = M := by omega
      subst this
      rw [i64_id (n := (K : Int) + 1) (by omega) (by omega)]
      refine ⟨⟨K + 1, by omega, by omega, h3, ?_⟩, by dsimp only; omega⟩
      rw [show (tab xs.length fun q => if q < N * I ∧ q % N < K + 1 then toAt xs N I q else rd xs q) = tab xs.length fun q => if q < N * I ∧ (q % N < K ∨ q % N = K ∧ q / N < I) then toAt xs N I q else rd xs q from tab_ext fun q hq => by
        by_cases e : q < N * I ∧ q % N < K + 1
        · have hd : q / N < I := by rw [Nat.div_lt_iff_lt_mul (by omega), Nat.mul_comm]; exact e.1
          have : q % N < K ∨ q % N = K ∧ q / N < I := by
            rcases Nat.lt_or_ge (q % N) K with h | h
            · exact .inl h
            · exact .inr ⟨by omega, hd⟩
          rw [if_pos e, if_pos ⟨e.1, this⟩]
        · rw [if_neg e, if_neg (fun hh => e ⟨hh.1, by rcases hh.2 with h | h <;> omega⟩)]]
      exact hO3
  · have : K = N := by omega
    subst this
    rw [show tab xs.length (toAt xs K M) = tab xs.length fun q => if q < K * M ∧ q % K < K then toAt xs K M q else rd xs q from tab_ext fun q hq => by
      have hk := Nat.mod_lt q (show K > 0 by omega)
      by_cases e : q < K * M
      · rw [if_pos ⟨e, hk⟩]
      · rw [if_neg (fun hh => e hh.1), toAt, if_neg e]]
    exact hO2
end Go.Proofs.YtlkjbilmfgfopaaV
