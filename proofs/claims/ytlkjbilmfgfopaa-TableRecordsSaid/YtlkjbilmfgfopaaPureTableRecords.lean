/- Records of 2 to 16 bytes, four to twenty-three of them one behind the other, have a width from 2 to the record's length, and its score is at least that of the record's length. -/
import Derived.Test.YtlkjbilmfgfopaaPTableRecordsx1
import Derived.Test.YtlkjbilmfgfopaaWSized
/- The printed row asks for the lemma on an argument's reach by a shorter name than the printed words bear. -/
namespace Go.Proofs.Ytlkjbilmfgfopaa.PrintWords
abbrev sized_ints := @Go.Proofs.YtlkjbilmfgfopaaW.PrintWords.sized_ints
end Go.Proofs.Ytlkjbilmfgfopaa.PrintWords
namespace Go.Proofs.Ytlkjbilmfgfopaa.Pure
open Go.RowKit Go.Proofs.Ytlkjbilmfgfopaa.PTableRecords Go.Proofs.YtlkjbilmfgfopaaW.PrintWords Go.Proofs.YtlkjbilmfgfopaaW.PrintLast

/-- How many of the places from i on, d of them, hold what stands w ahead. -/
def cntS (b : List Int) (w : Int) : Nat → Int → Int
  | 0, _ => 0
  | d + 1, i => (if rd b i = rd b (i - w) then 1 else 0) + cntS b w d (i + 1)

theorem cntS_range (b : List Int) (w : Int) : ∀ d i, 0 ≤ cntS b w d i ∧ cntS b w d i ≤ d
  | 0, _ => by simp [cntS]
  | d + 1, i => by
    have := cntS_range b w d (i + 1)
    simp only [cntS]
    split <;> omega

theorem cntS_all (b : List Int) (w : Int) : ∀ (d : Nat) (i : Int), (∀ j, i ≤ j → j < i + d → rd b j = rd b (j - w)) → cntS b w d i = d
  | 0, _, _ => by simp [cntS]
  | d + 1, i, h => by
    have h1 := cntS_all b w d (i + 1) (fun j h1 h2 => h j (by omega) (by omega))
    simp only [cntS]
    rw [if_pos (h i (by omega) (by omega)), h1]
    omega

theorem w64 {x : Int} (h0 : -1000000 ≤ x) (h1 : x ≤ 1000000) : wrap64 x = x := by unfold wrap64; omega

theorem score_l0 (b : List Int) (w : Int) (hw : 1 ≤ w) (hw2 : w ≤ 16) (hN : b.length ≤ 1000) : ∀ (d k : Nat) (i n : Int), w ≤ i → i + d = (b.length : Int) → d < k → 0 ≤ n → n ≤ i →
    table_Score.l0 k b w n i = some (n + cntS b w d i) := by
  intro d
  induction d with
  | zero =>
    intro k i n h1 h2 h3 h4 h5
    obtain ⟨k, rfl⟩ : ∃ m, k = m + 1 := ⟨k - 1, by omega⟩
    simp only [table_Score.l0]
    rw [if_neg (by omega)]; simp [cntS]
  | succ d ih =>
    intro k i n h1 h2 h3 h4 h5
    obtain ⟨k, rfl⟩ : ∃ m, k = m + 1 := ⟨k - 1, by omega⟩
    simp only [table_Score.l0, cntS]
    rw [w64 (x := i - w) (by omega) (by omega), w64 (x := n + 1) (by omega) (by omega), w64 (x := i + 1) (by omega) (by omega)]
    rw [if_pos (by omega), if_pos (by omega), if_pos (by omega), if_pos (by omega)]
    by_cases e : rd b i = rd b (i - w)
    · rw [if_pos e, if_pos e, ih k (i + 1) (n + 1) (by omega) (by omega) (by omega) (by omega) (by omega)]
      congr 1; omega
    · rw [if_neg e, if_neg e, ih k (i + 1) n (by omega) (by omega) (by omega) (by omega) (by omega)]
      congr 1; omega

/-- The score of a width. -/
def sco (b : List Int) (w : Int) : Int := cntS b w (b.length - w.toNat) w

theorem score_f (b : List Int) (w : Int) (hw : 1 ≤ w) (hw2 : w ≤ 16) (hN : b.length ≤ 1000) (hl : w ≤ b.length) (k : Nat) (hk : 1000 < k) : table_Score.f k b w = some (sco b w) := by
  unfold table_Score.f
  rw [if_neg (by omega), score_l0 b w hw hw2 hN (b.length - w.toNat) k w 0 (by omega) (by omega) (by omega) (by omega) (by omega)]
  simp [sco]

theorem sco_le (b : List Int) (w : Int) (hw : 1 ≤ w) (hl : w ≤ b.length) : sco b w ≤ b.length - w := by
  have := (cntS_range b w (b.length - w.toNat) w).2
  unfold sco; omega

section
variable (b : List Int) (L : Int)
theorem width_step (hN : b.length ≤ 1000) (k : Nat) (best most w : Int) (hw : 2 ≤ w) (hw2 : w ≤ 16) (h4 : 4 * w ≤ b.length) (hk : 1000 < k) :
    table_Width.l0 (k + 2) b best most w = if sco b w > most then table_Width.l0 k b w (sco b w) (w + 1) else table_Width.l0 k b best most (w + 1) := by
  rw [show k + 2 = (k + 1) + 1 from rfl]
  simp only [table_Width.l0, table_Width.j1]
  rw [w64 (x := 4 * w) (by omega) (by omega), w64 (x := w + 1) (by omega) (by omega), if_pos hw2, decide_eq_true h4, score_f b w (by omega) hw2 hN (by omega) k hk]
  simp
theorem width_stop (k : Nat) (best most w : Int) (hw : 2 ≤ w) (h : ¬ (w ≤ 16 ∧ 4 * w ≤ b.length)) (hw3 : w ≤ 17) :
    table_Width.l0 (k + 2) b best most w = some best := by
  rw [show k + 2 = (k + 1) + 1 from rfl]
  simp only [table_Width.l0, table_Width.j1]
  rw [w64 (x := 4 * w) (by omega) (by omega)]
  by_cases h1 : w ≤ 16
  · rw [if_pos h1, decide_eq_false (by omega)]; simp
  · rw [if_neg h1]; simp

theorem width_late (hN : b.length ≤ 1000) (hL : 2 ≤ L) : ∀ (d k : Nat) (best most w : Int), w + d = 17 → L < w → 2 * d + 1003 < k → b.length - L ≤ most →
    table_Width.l0 k b best most w = some best := by
  intro d
  induction d with
  | zero =>
    intro k best most w h1 h2 h3 h4
    obtain ⟨k, rfl⟩ : ∃ m, k = m + 2 := ⟨k - 2, by omega⟩
    exact width_stop b k best most w (by omega) (by omega) (by omega)
  | succ d ih =>
    intro k best most w h1 h2 h3 h4
    obtain ⟨k, rfl⟩ : ∃ m, k = m + 2 := ⟨k - 2, by omega⟩
    by_cases h : w ≤ 16 ∧ 4 * w ≤ b.length
    · rw [width_step b hN k best most w (by omega) h.1 h.2 (by omega), if_neg (by have := sco_le b w (by omega) (by omega); omega)]
      exact ih k best most (w + 1) (by omega) (by omega) (by omega) h4
    · exact width_stop b k best most w (by omega) h (by omega)

theorem width_early (hN : b.length ≤ 1000) (hL : 2 ≤ L) (hL2 : L ≤ 16) (h4L : 4 * L ≤ b.length) (hS : sco b L = b.length - L) : ∀ (d k : Nat) (best most w : Int), w + d = L → 2 ≤ w → 2 * d + 1060 < k →
    (best = 0 ∧ most = b.length / 2 ∨ 2 ≤ best ∧ best < w ∧ most = sco b best) →
    ∃ t, table_Width.l0 k b best most w = some t ∧ 2 ≤ t ∧ t ≤ L ∧ sco b L ≤ sco b t := by
  intro d
  induction d with
  | zero =>
    intro k best most w h1 h2 h3 h4
    obtain ⟨k, rfl⟩ : ∃ m, k = m + 2 := ⟨k - 2, by omega⟩
    have : w = L := by omega
    subst this
    rw [width_step b hN k best most w (by omega) hL2 h4L (by omega)]
    by_cases h : sco b w > most
    · rw [if_pos h, width_late b w hN hL (16 - w.toNat) k _ _ _ (by omega) (by omega) (by omega) (by omega)]
      exact ⟨w, rfl, hL, by omega, by omega⟩
    · rw [if_neg h, width_late b w hN hL (16 - w.toNat) k _ _ _ (by omega) (by omega) (by omega) (by omega)]
      rcases h4 with ⟨_, h4⟩ | ⟨h5, h6, h7⟩
      · omega
      · exact ⟨best, rfl, h5, by omega, by omega⟩
  | succ d ih =>
    intro k best most w h1 h2 h3 h4
    obtain ⟨k, rfl⟩ : ∃ m, k = m + 2 := ⟨k - 2, by omega⟩
    rw [width_step b hN k best most w (by omega) (by omega) (by omega) (by omega)]
    by_cases h : sco b w > most
    · rw [if_pos h]
      exact ih k w _ (w + 1) (by omega) (by omega) (by omega) (.inr ⟨by omega, by omega, rfl⟩)
    · rw [if_neg h]
      refine ih k best most (w + 1) (by omega) (by omega) (by omega) ?_
      rcases h4 with h4 | ⟨h5, h6, h7⟩
      · exact .inl h4
      · exact .inr ⟨h5, by omega, h7⟩
end

/-- A record, m times. -/
def rep (r : List Int) : Nat → List Int
  | 0 => []
  | m + 1 => rep r m ++ r
theorem rep_len (r : List Int) : ∀ m, (rep r m).length = m * r.length
  | 0 => by simp [rep]
  | m + 1 => by simp [rep, rep_len r m, Nat.succ_mul]
theorem rep_get (r : List Int) (hr : 0 < r.length) : ∀ (m j : Nat), j < m * r.length → (rep r m).getD j 0 = r.getD (j % r.length) 0
  | 0, j, h => by simp at h
  | m + 1, j, h => by
    have hl := rep_len r m
    simp only [rep]
    rw [Nat.succ_mul] at h
    by_cases hj : j < m * r.length
    · rw [List.getD_eq_getElem?_getD, List.getElem?_append_left (by omega), ← List.getD_eq_getElem?_getD, rep_get r hr m j hj]
    · rw [List.getD_eq_getElem?_getD, List.getElem?_append_right (by omega), hl, ← List.getD_eq_getElem?_getD]
      congr 1
      obtain ⟨q, rfl⟩ : ∃ q, j = m * r.length + q := ⟨j - m * r.length, by omega⟩
      rw [Nat.add_sub_cancel_left, Nat.add_comm, Nat.add_mul_mod_self_right, Nat.mod_eq_of_lt (by omega)]

theorem rep_same (r : List Int) (hr : 0 < r.length) (m : Nat) (j : Int) (h1 : (r.length : Int) ≤ j) (h2 : j < (m * r.length : Nat)) : rd (rep r m) j = rd (rep r m) (j - r.length) := by
  unfold rd
  obtain ⟨q, rfl⟩ : ∃ q : Nat, j = r.length + q := ⟨(j - r.length).toNat, by omega⟩
  rw [show ((r.length : Int) + q).toNat = r.length + q by omega, show ((r.length : Int) + q - r.length).toNat = q by omega, rep_get r hr m _ (by omega), rep_get r hr m _ (by omega), Nat.add_mod_left]

theorem rep_sco (r : List Int) (hr : 0 < r.length) (m : Nat) (hm : 1 ≤ m) : sco (rep r m) r.length = (rep r m).length - r.length := by
  have hl := rep_len r m
  have hge : r.length ≤ m * r.length := Nat.le_mul_of_pos_left _ hm
  unfold sco
  rw [cntS_all]
  · omega
  · intro j h1 h2
    exact rep_same r hr m j h1 (by omega)

theorem awake_true (k : Nat) (hk : 60 ≤ k) : valiselaw20_awake.f k = some true :=
  at_rounds (g := fun k => valiselaw20_awake.f k) (fun k => valiselaw20_awake.mono k) hk (by kernel_rfl)

theorem law_l0 (r : List Int) (n : Int) (h2 : 2 ≤ r.length) (h16 : r.length ≤ 16) (M : Nat) (hM : wrap64 (4 + (wrap64 (Int.tmod (IntKind.u64.wrap n) 20))) = M) (hM4 : 4 ≤ M) (hM23 : M ≤ 23) :
    ∀ (d k i : Nat), i + d = M → d + 1200 < k → valiselaw20_TableRecords.l0 k r n (rep r i) i = some true := by
  intro d
  induction d with
  | zero =>
    intro k i h1 h3
    obtain ⟨k, rfl⟩ : ∃ m, k = m + 1 := ⟨k - 1, by omega⟩
    obtain rfl : i = M := by omega
    simp only [valiselaw20_TableRecords.l0]
    have hl := rep_len r i
    have hN : (rep r i).length ≤ 1000 := by
      have : i * r.length ≤ 23 * 16 := Nat.mul_le_mul hM23 h16
      omega
    have h4L : 4 * r.length ≤ (rep r i).length := by rw [hl]; exact Nat.mul_le_mul_right _ hM4
    have hS := rep_sco r (by omega) i (by omega)
    obtain ⟨t, ht, ht1, ht2, ht3⟩ := width_early (rep r i) r.length hN (by omega) (by omega) (by omega) hS (r.length - 2) k 0 ((rep r i).length / 2) 2 (by omega) (by omega) (by omega) (.inl ⟨rfl, rfl⟩)
    rw [hM, if_neg (by omega), awake_true k (by omega)]
    unfold table_Width.f
    rw [w64 (x := ((rep r i).length : Int) / 2) (by omega) (by omega), ht]
    simp only [Option.bind_some, if_true]
    rw [if_pos ht1, if_pos ht2, score_f _ t (by omega) (by omega) hN (by omega) k (by omega), score_f _ r.length (by omega) (by omega) hN (by omega) k (by omega)]
    simp only [Option.bind_some]
    rw [decide_eq_true ht3]
  | succ d ih =>
    intro k i h1 h3
    obtain ⟨k, rfl⟩ : ∃ m, k = m + 1 := ⟨k - 1, by omega⟩
    simp only [valiselaw20_TableRecords.l0]
    have hl := rep_len r i
    have hN : i * r.length ≤ 23 * 16 := Nat.mul_le_mul (by omega) h16
    rw [hM, if_pos (by omega), if_pos (by omega), w64 (x := (i : Int) + 1) (by omega) (by omega)]
    exact ih k (i + 1) (by omega) (by omega)

/-- YOURS: ∀ (l0 : List Int) (a1 : Int), l0.length ≤ maxLen → l0.length * 1 ≤ 140737488351232 → (∀ x ∈ l0, (Lit.int .u8 x).wf = true) → (Lit.int .i64 a1).wf = true → ∃ k, valiselaw20_TableRecords.f k l0 a1 = some true
What it reaches (each with k first where it has rounds; `.mono`: more rounds tell the same; `.l0`, ..: its loops, with `.mono_l`): table_Score.f, table_Width.f, valiselaw20_awake.f, valiselaw20_TableRecords.f -/
theorem TableRecords : valiselaw20_TableRecords.Pure := by
  intro r n _ _ _ _
  obtain ⟨k, hk⟩ : ∃ k, k = 3000 := ⟨_, rfl⟩
  refine ⟨k + 1, ?_⟩
  unfold valiselaw20_TableRecords.f
  by_cases h2 : (r.length : Int) < 2
  · rw [if_pos h2]
    simp only [valiselaw20_TableRecords.j0]
    rw [awake_true _ (by omega)]; rfl
  · rw [if_neg h2]
    by_cases h16 : (r.length : Int) > 16
    · rw [decide_eq_true h16]
      simp only [valiselaw20_TableRecords.j0]
      rw [awake_true _ (by omega)]; rfl
    · rw [decide_eq_false h16]
      simp only [valiselaw20_TableRecords.j0]
      have hu : 0 ≤ IntKind.u64.wrap n := Int.emod_nonneg _ (by decide)
      have ht : 0 ≤ (IntKind.u64.wrap n).tmod 20 ∧ (IntKind.u64.wrap n).tmod 20 < 20 := by
        rw [Int.tmod_eq_emod_of_nonneg hu]; omega
      obtain ⟨q, hq⟩ : ∃ q : Nat, (IntKind.u64.wrap n).tmod 20 = q := ⟨((IntKind.u64.wrap n).tmod 20).toNat, by omega⟩
      refine law_l0 r n (by omega) (by omega) (4 + q) ?_ (by omega) (by omega) (4 + q) k 0 (by omega) (by omega)
      rw [hq, w64 (x := (q : Int)) (by omega) (by omega), w64 (by omega) (by omega)]; omega

end Go.Proofs.Ytlkjbilmfgfopaa.Pure
