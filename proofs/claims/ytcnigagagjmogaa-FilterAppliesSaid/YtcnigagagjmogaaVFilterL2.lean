/- The law FilterFlat. -/
import Derived.Test.YtcnigagagjmogaaVFilterL1
namespace Go.Proofs.YtcnigagagjmogaaV
open Go Go.RowKit

theorem rd_append_lt {A B : List Int} {i : Int} (h : i.toNat < A.length) : rd (A ++ B) i = rd A i := by
  unfold rd; rw [List.getD_eq_getElem?_getD, List.getElem?_append_left h, ← List.getD_eq_getElem?_getD]
theorem rd_append_eq {A : List Int} {x : Int} {j : Nat} (h : A.length = j) : rd (A ++ [x]) j = x := by
  unfold rd; subst h; simp
theorem rowN_rd {kind : Int} {xs us : List Int} {p : Int} : ∀ {n j : Nat}, j < n → rd (rowN kind xs us p n) j = (rd xs j - guessI kind (ofL xs (j - p)) (ofL us j) (ofL us (j - p))) % 256
  | n + 1, j, h => by
    simp only [rowN]
    by_cases e : j = n
    · subst e; exact rd_append_eq (rowN_len ..)
    · rw [rd_append_lt (by rw [rowN_len]; omega)]; exact rowN_rd (by omega)
theorem unrowN_rd {kind : Int} {xs us : List Int} {p : Int} : ∀ {n j : Nat}, j < n → rd (unrowN kind xs us p n) j = (rd xs j + guessI kind (ofL (unrowN kind xs us p j) (j - p)) (ofL us j) (ofL us (j - p))) % 256
  | n + 1, j, h => by
    simp only [unrowN]
    by_cases e : j = n
    · subst e; exact rd_append_eq (unrowN_len ..)
    · rw [rd_append_lt (by rw [unrowN_len]; omega)]; exact unrowN_rd (by omega)
/-- What kind 2 leaves of a row like the one ahead. -/
theorem flat2 (xs : List Int) (p : Int) {n j : Nat} (hn : n ≤ xs.length) (h : j < n) : rd (rowN 2 xs xs p n) j = 0 := by
  rw [rowN_rd h]
  have : guessI 2 (ofL xs (j - p)) (ofL xs j) (ofL xs (j - p)) = rd xs j := by
    unfold guessI; rw [if_neg (by decide), if_pos rfl]; unfold ofL; rw [if_neg (by omega)]
  rw [this]; omega
theorem weightN_zero {xs : List Int} : ∀ {n : Nat}, (∀ j : Nat, j < n → rd xs j = 0) → weightN xs n = 0
  | 0, _ => rfl
  | n + 1, h => by simp only [weightN]; rw [weightN_zero (fun j hj => h j (by omega)), h n (by omega)]; rfl
theorem wt_zero {c : Int} (h : rng c) (h0 : wt c ≤ 0) : c = 0 := by unfold wt at h0; split at h0 <;> omega
theorem zero_weightN {xs : List Int} (hx : inR .u8 xs) : ∀ {n : Nat}, weightN xs n ≤ 0 → ∀ j : Nat, j < n → rd xs j = 0
  | n + 1, h, j, hj => by
    simp only [weightN] at h
    have h1 := weightN_bd hx n
    have h2 := wt_bd (rd_u8 hx n)
    by_cases e : j = n
    · subst e; exact wt_zero (rd_u8 hx _) (by omega)
    · exact zero_weightN hx (n := n) (by omega) j (by omega)
theorem leftW_nn (xs us : List Int) (p k : Int) : 0 ≤ leftW xs us p k := (weightN_bd (inR_u8 fun x hx => rowN_u8 _ _ _ _ _ x hx) _).1
theorem bestN_min (f : Int → Int) : ∀ k, (∀ j : Nat, j ≤ k → (bestN f k).2 ≤ f j) ∧ (∀ j : Nat, (j : Int) < (bestN f k).1 → (bestN f k).2 < f j)
  | 0 => ⟨fun j hj => by obtain rfl : j = 0 := by omega
                         exact Int.le_refl _, fun j hj => by simp only [bestN] at hj; omega⟩
  | k + 1 => by
    obtain ⟨h1, h2⟩ := bestN_min f k
    have hb := bestN_bd f k
    simp only [bestN]
    split
    · rename_i hlt
      refine ⟨fun j hj => ?_, fun j hj => ?_⟩
      · by_cases e : j = k + 1
        · subst e; exact Int.le_refl _
        · have := h1 j (by omega); dsimp only; omega
      · have := h1 j (by dsimp only at hj; omega); dsimp only; omega
    · rename_i hge
      refine ⟨fun j hj => ?_, h2⟩
      by_cases e : j = k + 1
      · subst e; omega
      · exact h1 j (by omega)
theorem best_flat (xs : List Int) (p : Int) : bestI xs xs p ≤ 2 ∧ leftW xs xs p (bestI xs xs p) = 0 := by
  have h2 : leftW xs xs p 2 = 0 := by unfold leftW; exact weightN_zero fun j hj => flat2 xs _ (Nat.le_refl _) hj
  obtain ⟨m1, m2⟩ := bestN_min (leftW xs xs p) 4
  have hb := bestN_bd (leftW xs xs p) 4
  have n1 := leftW_nn xs xs p (bestN (leftW xs xs p) 4).1
  have hle : (bestN (leftW xs xs p) 4).2 ≤ leftW xs xs p 2 := m1 2 (by omega)
  have hlt : 2 < (bestN (leftW xs xs p) 4).1 → (bestN (leftW xs xs p) 4).2 < leftW xs xs p 2 := m2 2
  unfold bestI
  have h0 := hb.2.2
  rw [← h0] at n1 ⊢
  exact ⟨by have := fun h => hlt h; omega, by omega⟩
theorem FilterFlat_law {row : Value} {xs : List Int} {p : Int} {w : World} (hr : Nm .u8 w row xs) (hp : IntKind.i64.min ≤ p ∧ p ≤ IntKind.i64.max) : Calls P n_valiselaw17_FilterFlat #[row, .int .i64 p] w (Holds w) := by
  replace hp : p ≤ 9223372036854775807 := by have := hp.2; simp [IntKind.max, IntKind.signed, IntKind.bits] at this; omega
  refine of_valiselaw17_FilterFlat (gLen_nm hr (gIf_dec (fun h => gCall_of awake_any ?_) (fun h => gCall_of (Row_any hr hr (by omega) hp) ?_)))
  · rintro _ w1 ⟨rfl, h1⟩; exact ⟨_, rfl, rfl, h1⟩
  rintro _ w2 ⟨x, rfl, h2, hx⟩
  refine ⟨x, rfl, gCall_of (Best_any (hr.ev h2) (hr.ev h2) (by omega) hp) ?_⟩
  rintro _ w3 ⟨rfl, h3⟩
  have he3 := h2.trans h3
  obtain ⟨hb1, hb2⟩ := best_flat xs p
  have hb0 : 0 ≤ bestI xs xs p := (bestN_bd _ 4).1
  refine ⟨_, rfl, gCall_of (Row_any (hr.ev he3) (hr.ev he3) (by omega) hp) ?_⟩
  rintro _ w4 ⟨y, rfl, h4, hy⟩
  have he4 := he3.trans h4
  refine ⟨y, rfl, fun w' => Ev w4 w', gCall_of awake_any ?_, ?_⟩
  · rintro _ w5 ⟨rfl, h5⟩
    refine ⟨_, rfl, gIf_nn ?_⟩
    refine gLen_nm ((hx.ev (h3.trans h4)).ev h5).nm (gLen_nm (hr.ev (he4.trans h5)) (gIf_nneq (fun _ => gLen_nm (hy.ev h5).nm (gLen_nm (hr.ev (he4.trans h5)) (gIf_neq (fun e => ?_) (fun _ => h5)))) (fun e => ?_)))
    · exact absurd (by rw [rowN_len]) e
    · exact absurd (by rw [rowN_len]) e
  · rintro _ w6 h6
    have hx6 := ((hx.ev (h3.trans h4)).ev h6).nm
    have hy6 := (hy.ev h6).nm
    refine ⟨fun i w' => ∃ j : Nat, i = j ∧ j ≤ xs.length ∧ w' = w6, fun i _ => xs.length - i.toNat, ⟨0, rfl, by omega, rfl⟩, ?_⟩
    rintro _ i _ ⟨j, rfl, hj, rfl⟩
    refine gLen_nm (hr.ev (he4.trans h6)) (gIf_dec (fun hlt => ?_) (fun hge => gIf_dec (fun _ => ⟨by rw [decide_eq_true hb1], he4.trans h6⟩) (fun h => (h hb0).elim)))
    have z1 : rd (rowN 2 xs xs (planesI p) xs.length) j = 0 := flat2 xs _ (Nat.le_refl _) (by omega)
    have z2 : rd (rowN (bestI xs xs p) xs xs (planesI p) xs.length) j = 0 := zero_weightN (inR_u8 fun x hx => rowN_u8 _ _ _ _ _ x hx) (n := xs.length) (by unfold leftW at hb2; omega) j (by omega)
    refine gIdx_nm hx6 (by omega) (by rw [rowN_len]; omega) fun a1 c1 _ => gLoad_i c1 (gIf_nneq (fun _ => gIdx_nm hy6 (by omega) (by rw [rowN_len]; omega) fun a2 c2 _ => gLoad_i c2 (gIf_neq (fun h => (h z2).elim) (fun _ => ?_))) (fun h => (h z1).elim))
    rw [i64_id (n := (j : Int) + 1) (by omega) (by omega)]
    exact ⟨⟨j + 1, by omega, by omega, rfl⟩, by dsimp only; omega⟩
end Go.Proofs.YtcnigagagjmogaaV
