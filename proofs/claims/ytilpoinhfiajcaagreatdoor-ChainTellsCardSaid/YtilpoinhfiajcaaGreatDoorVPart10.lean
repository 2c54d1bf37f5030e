import Derived.Test.YtilpoinhfiajcaaGreatDoorVPart9
set_option linter.unusedVariables false
set_option linter.unusedSimpArgs false
/- Package num: the reader, second part. -/
namespace Go.Proofs.YtilpoinhfiajcaaGreatDoorV
open Go Go.RowKit

theorem lookL_end {xs : List Int} {a : Nat} : ∀ (f n : Nat) (v : Int), (lookL xs a f n v).2.2 = 0 → 0 ≤ v → (a + n : Int) < (lookL xs a f n v).2.1 ∧ (lookL xs a f n v).2.1 ≤ xs.length ∧ 0 ≤ (lookL xs a f n v).1
  | 0, n, v, h, _ => by simp [lookL] at h
  | f + 1, n, v, h, hv => by
    rw [lookL] at h ⊢
    split at h
    · simp at h
    · rename_i h1
      rw [if_neg h1]
      split at h
      · simp at h
      · rename_i h2
        rw [if_neg h2]
        split at h
        · rename_i h3
          rw [if_pos h3]
          split at h
          · simp at h
          · rename_i h4
            rw [if_neg h4]
            exact ⟨by dsimp only; omega, by dsimp only; omega, Int.add_nonneg hv (Int.mul_nonneg (by omega) (Int.natCast_nonneg _))⟩
        · rename_i h3
          rw [if_neg h3]
          have := lookL_end f (n + 1) _ h (Int.add_nonneg hv (Int.mul_nonneg (by omega) (Int.natCast_nonneg _)))
          exact ⟨by omega, this.2⟩
theorem lookI_end {xs : List Int} {a : Nat} (h : (lookI xs a).2.2 = 0) : (a : Int) < (lookI xs a).2.1 ∧ (lookI xs a).2.1 ≤ xs.length ∧ 0 ≤ (lookI xs a).1 := by
  unfold lookI at h ⊢
  have := lookL_end 10 0 0 h (by decide); exact ⟨by simpa using this.1, this.2⟩
theorem RS.pre {w w1 w2 : World} {ad : Addr} {b : Value} {xs : List Int} {a : Nat} {er : Int} (he : Ev w w1) (h : RS w1 w2 ad b xs a er) : RS w w2 ad b xs a er := ⟨h.1, Ch.trans (he.mono fun _ _ _ h => h.elim) h.2 fun _ _ _ h => h⟩
/-- The next number: it, where it ends, and the fault. -/
def numR (xs : List Int) (a : Nat) (er most : Int) : Int × Nat × Int :=
  if er ≠ 0 then (0, a, er)
  else if (lookI xs a).2.2 = 0 ∧ (lookI xs a).1 > most then (0, a, 4)
  else if (lookI xs a).2.2 ≠ 0 then (0, a, (lookI xs a).2.2)
  else ((lookI xs a).1, (lookI xs a).2.1.toNat, 0)
theorem num_any {ad : Addr} {b : Value} {xs : List Int} {a : Nat} {er most : Int} {w : World} (h : Rd w ad b xs a er) : Calls P n_num_Reader_num #[.pointer (some ad), .int .u64 most] w (fun e w' => e = .returned (.int .u64 (numR xs a er most).1) ∧ RS w w' ad b xs (numR xs a er most).2.1 (numR xs a er most).2.2) := by
  refine of_num_Reader_num ⟨fun w' => er = 0 ∧ w' = w, gEq_pnil (gIf_nf (gNil_some (gLoad_i (h.1.cell (j := 2) rfl) (gIf_neq (fun hne => ?_) (fun he => ⟨he, rfl⟩))))), ?_⟩
  · unfold numR; rw [if_pos hne]; exact ⟨rfl, h.step⟩
  rintro _ _ ⟨rfl, rfl⟩
  rename_i w
  have hl := lookI_end (xs := xs) (a := a)
  unfold numR
  rw [if_neg (by simp)]
  refine gCall_of (look_any h) ?_
  rintro _ w1 ⟨rfl, h1⟩
  generalize lookI xs a = r at hl
  obtain ⟨v, a2, e⟩ := r
  dsimp only at hl ⊢
  have hR := h.ev h1
  refine ⟨v, a2, e, rfl, fun e' w' => e' = (if e = 0 ∧ v > most then 4 else e) ∧ w' = w1, ?_, ?_⟩
  · exact gIf_eq (fun e0 => gIf_dec (fun hg => ⟨by rw [if_pos ⟨e0, hg⟩], rfl⟩) (fun hg => ⟨by rw [if_neg (fun hh => hg hh.2)], rfl⟩)) (fun e0 => ⟨by rw [if_neg (fun hh => e0 hh.1)], rfl⟩)
  · rintro _ e' _ ⟨he', rfl⟩
    refine gIf_neq (fun hne => ?_) (fun he0 => ?_)
    · refine gNil_some (gStore_st hR.1 (j := 2) (by simp) rfl rfl fun w2 h2 _ hS2 => ?_)
      have hRS := hR.set (j := 2) (a2 := a) (er2 := e') (by decide) h2 hS2 rfl hR.2.2.2.1
      have : RS w w2 ad b xs a e' := ⟨hRS.1, Ch.trans (h1.mono fun _ _ _ h => h.elim) hRS.2 fun _ _ _ h => h⟩
      by_cases hc : e = 0 ∧ v > most
      · rw [if_pos hc] at he' ⊢; subst he'; exact ⟨rfl, this⟩
      · rw [if_neg hc] at he' ⊢; subst he'; rw [if_pos hne]; exact ⟨rfl, this⟩
    · subst he0
      have hc : ¬ (e = 0 ∧ v > most) := fun hc => by rw [if_pos hc] at he'; cases he'
      rw [if_neg hc] at he' ⊢
      rw [← he'] at hl ⊢
      rw [if_neg (by simp)]
      have hl2 := hl rfl
      refine gNil_some (gStore_st hR.1 (j := 1) (by simp) rfl rfl fun w2 h2 _ hS2 => ⟨rfl, ?_⟩)
      have hRS := hR.set (j := 1) (a2 := a2.toNat) (er2 := 0) (by decide) h2 hS2 (by rw [show ((a2.toNat : Nat) : Int) = a2 by omega]; rfl) (by omega)
      exact ⟨hRS.1, Ch.trans (h1.mono fun _ _ _ h => h.elim) hRS.2 fun _ _ _ h => h⟩
theorem rNum_any {ad : Addr} {b : Value} {xs : List Int} {a : Nat} {er : Int} {w : World} (h : Rd w ad b xs a er) : Calls P n_num_Reader_Num #[.pointer (some ad)] w (fun e w' => e = .returned (.int .u64 (numR xs a er 18446744073709551615).1) ∧ RS w w' ad b xs (numR xs a er 18446744073709551615).2.1 (numR xs a er 18446744073709551615).2.2) :=
  of_num_Reader_Num (gCall_i (num_any h) fun _ h => ⟨rfl, h⟩)
theorem lookL_64 {xs : List Int} {a : Nat} (hx : inR .u8 xs) : ∀ (f n : Nat) (v : Int), f + n = 10 → 0 ≤ v → (n ≤ 9 → v < ((2 ^ (7 * n) : Nat) : Int)) → (lookL xs a f n v).1 < 18446744073709551616
  | 0, n, v, _, _, _ => by simp [lookL]
  | f + 1, n, v, hf, h0, h1 => by
    rw [lookL]
    split
    · simp
    · split
      · simp
      · rename_i hne
        have h3 := h1 (by omega)
        split
        · split
          · simp
          · show v + _ < _
            by_cases h9 : n = 9
            · subst h9
              have := rd_u8 hx ((a + 9 : Nat) : Int)
              have e : ((2 ^ (7 * 9) : Nat) : Int) = 9223372036854775808 := by decide
              rw [e] at h3 ⊢; omega
            · have hq : ((2 ^ (7 * n) : Nat) : Int) ≤ ((72057594037927936 : Nat) : Int) := Int.ofNat_le.2 (pow7_le (n := n) (by omega))
              have : rd xs ((a + n : Nat) : Int) % 128 * ((2 ^ (7 * n) : Nat) : Int) ≤ 127 * ((2 ^ (7 * n) : Nat) : Int) := Int.mul_le_mul_of_nonneg_right (by omega) (by omega)
              omega
        · refine lookL_64 hx f (n + 1) _ (by omega) (Int.add_nonneg h0 (Int.mul_nonneg (by omega) (Int.natCast_nonneg _))) fun h9 => ?_
          rw [show 7 * (n + 1) = 7 * n + 7 by omega, Nat.pow_add]
          have e : ((2 ^ (7 * n) * 2 ^ 7 : Nat) : Int) = ((2 ^ (7 * n) : Nat) : Int) * 128 := by rw [Int.natCast_mul]; rfl
          rw [e]
          have : rd xs ((a + n : Nat) : Int) % 128 * ((2 ^ (7 * n) : Nat) : Int) ≤ 127 * ((2 ^ (7 * n) : Nat) : Int) := Int.mul_le_mul_of_nonneg_right (by omega) (by omega)
          omega
theorem lookI_rng {xs : List Int} {a : Nat} (hx : inR .u8 xs) (h : (lookI xs a).2.2 = 0) : 0 ≤ (lookI xs a).1 ∧ (lookI xs a).1 < 18446744073709551616 := ⟨(lookL_end 10 0 0 h (by decide)).2.2, lookL_64 hx 10 0 0 rfl (by decide) (fun _ => by decide)⟩
theorem numR_rng {xs : List Int} {a : Nat} {er most : Int} (hx : inR .u8 xs) : 0 ≤ (numR xs a er most).1 ∧ (numR xs a er most).1 < 18446744073709551616 := by
  unfold numR
  split
  · simp
  · split
    · simp
    · split
      · simp
      · rename_i h; exact lookI_rng hx (by omega)
theorem numR_most {xs : List Int} {a : Nat} {er most : Int} (hm : 0 ≤ most) : (numR xs a er most).1 ≤ most := by
  unfold numR
  split
  · exact hm
  · split
    · exact hm
    · rename_i h2
      split
      · exact hm
      · rename_i h3; dsimp only; omega
theorem numR_at {xs : List Int} {a : Nat} {er most : Int} (ha : a ≤ xs.length) : a ≤ (numR xs a er most).2.1 ∧ (numR xs a er most).2.1 ≤ xs.length := by
  unfold numR
  split
  · exact ⟨Nat.le_refl _, ha⟩
  · split
    · exact ⟨Nat.le_refl _, ha⟩
    · split
      · exact ⟨Nat.le_refl _, ha⟩
      · rename_i h
        have := lookI_end (xs := xs) (a := a) (by simpa using h)
        dsimp only; omega
/-- The next bytes. -/
def rawR (xs : List Int) (a : Nat) (er n : Int) : List Int × Nat × Int :=
  if er ≠ 0 ∨ n ≤ 0 then ([], a, er) else if n > (xs.length : Int) - a then ([], a, 3) else ((xs.drop a).take n.toNat, a + n.toNat, 0)
def RawE (w : World) (ad : Addr) (b : Value) (xs : List Int) (r : List Int × Nat × Int) (e : Ending) (w' : World) : Prop := ∃ y, e = .returned y ∧ RS w w' ad b xs r.2.1 r.2.2 ∧ ON .u8 eB w' w.heap.size y r.1
theorem rRaw_any {ad : Addr} {b : Value} {xs : List Int} {a : Nat} {er n : Int} {w : World} (h : Rd w ad b xs a er) (hn : n ≤ 9223372036854775807) : Calls P n_num_Reader_Raw #[.pointer (some ad), .int .i64 n] w (RawE w ad b xs (rawR xs a er n)) := by
  have hal := h.2.2.2.1
  have hxl := h.2.2.2.2
  refine of_num_Reader_Raw ⟨fun w' => er = 0 ∧ 0 < n ∧ w' = w, gEq_pnil (gIf_nf (gNil_some (gLoad_i (h.1.cell (j := 2) rfl) (gIf_nneq (fun he => gIf_dec (fun hle => ?_) (fun hgt => ⟨he, by omega, rfl⟩)) (fun hne => ?_))))), ?_⟩
  · unfold rawR; rw [if_pos (.inr hle)]; exact ⟨_, rfl, h.step, ON.nil _ _ _ _⟩
  · unfold rawR; rw [if_pos (.inl hne)]; exact ⟨_, rfl, h.step, ON.nil _ _ _ _⟩
  rintro _ _ ⟨rfl, hn0, rfl⟩
  rename_i w
  unfold rawR
  rw [if_neg (by omega)]
  refine gNil_some (gLoadB_v (at1 (h.1.cell (j := 0) rfl)) (gLen_nm h.2.1 (gNil_some (gLoadB_i (at1 (h.1.cell (j := 1) rfl)) ?_))))
  rw [i64_id (n := (xs.length : Int) - a) (by omega) (by omega)]
  refine gIf_dec (fun hg => ?_) (fun hle => ?_)
  · rw [if_pos hg]
    refine gNil_some (gStore_st h.drew.1 (j := 2) (by simp) rfl rfl fun w2 h2 _ hS2 => ⟨_, rfl, ?_, ON.nil _ _ _ _⟩)
    exact RS.pre (Ev.drew0 w) (h.drew.set (j := 2) (a2 := a) (er2 := 3) (by decide) h2 hS2 rfl hal)
  · rw [if_neg hle]
    obtain ⟨m, rfl⟩ : ∃ m : Nat, n = m := ⟨n.toNat, by omega⟩
    rw [Int.toNat_natCast]
    refine gNil_some (gLoad_i (h.drew.1.cell (j := 1) rfl) (gNil_some (gStore_st h.drew.1 (j := 1) (by simp) rfl rfl fun w2 h2 hs2 hS2 => ?_)))
    have hRS : RS w w2 ad b xs (a + m) 0 := RS.pre (Ev.drew0 w) <| h.drew.set (j := 1) (a2 := a + m) (er2 := 0) (by decide) h2 hS2 (by rw [i64_id (by omega) (by omega)]; rfl) (by omega)
    have hR := hRS.1.drew
    refine ⟨fun w' => Rd w' ad b xs (a + m) 0, hR, gNil_some (gLoadB_v (fun w' h => h.1.cell (j := 0) rfl) (gNil_some (gLoadB_i (fun w' h => h.1.cell (j := 1) rfl) (gNil_some (gLoadB_i (fun w' h => h.1.cell (j := 1) rfl) ?_)))))⟩
    rw [show i64 (((a + m : Nat) : Int) - (m : Int)) = (a : Int) by rw [i64_id (by omega) (by omega)]; omega]
    refine gSlice_nm hR.2.1 a (a + m) (.inr ⟨_, rfl⟩) (.inr ⟨_, rfl⟩) (by omega) (by omega) fun hs => ?_
    rw [Nat.add_sub_cancel_left] at hs
    refine gApp_on (ON.nil .u8 eB w2.drew w.heap.size) hs (by rw [List.length_take, List.length_drop]; simp; omega) (Nat.le_of_eq hs2.symm) fun y w3 hy hc hm => ?_
    have h3 : Ev w2.drew w3 := hc.mono fun _ _ _ hh => by cases hh
    exact ⟨hR.ev h3, y, rfl, RS.ev hRS ((Ev.drew0 w2).trans h3), by simpa using hy⟩
end Go.Proofs.YtilpoinhfiajcaaGreatDoorV

/- Package num: the reader, third part; nil readers; laws NumNil. -/
namespace Go.Proofs.YtilpoinhfiajcaaGreatDoorV
open Go Go.RowKit

theorem rLeft_any {ad : Addr} {b : Value} {xs : List Int} {a : Nat} {er : Int} {w : World} (h : Rd w ad b xs a er) : Calls P n_num_Reader_Left #[.pointer (some ad)] w (fun e w' => e = .returned (.int .i64 ((xs.length : Int) - a)) ∧ Ev w w') := by
  have hal := h.2.2.2.1
  have hxl := h.2.2.2.2
  refine of_num_Reader_Left (gEq_pnil (gIf_f (gNil_some (gLoadB_v (at1 (h.1.cell (j := 0) rfl)) (gLen_nm h.2.1 (gNil_some (gLoadB_i (at1 (h.1.cell (j := 1) rfl)) ⟨?_, Ev.drew0 w⟩)))))))
  rw [i64_id (by omega) (by omega)]
theorem rErr_any {ad : Addr} {b : Value} {xs : List Int} {a : Nat} {er : Int} {w : World} (h : Rd w ad b xs a er) : Calls P n_num_Reader_Err #[.pointer (some ad)] w (fun e w' => e = .returned (.int .i64 er) ∧ w' = w) :=
  of_num_Reader_Err (gEq_pnil (gIf_f (gNil_some (gLoad_i (h.1.cell (j := 2) rfl) ⟨rfl, rfl⟩))))
def endR (n a : Nat) (er : Int) : Int := if er ≠ 0 then er else if (n : Int) - a > 0 then 4 else 0
theorem rEnd_any {ad : Addr} {b : Value} {xs : List Int} {a : Nat} {er : Int} {w : World} (h : Rd w ad b xs a er) : Calls P n_num_Reader_End #[.pointer (some ad)] w (fun e w' => e = .returned (.int .i64 (endR xs.length a er)) ∧ Ev w w') := by
  refine of_num_Reader_End (gCall_i0 (rErr_any h) (gIf_neq (fun hne => ⟨?_, Ch.refl _ w⟩) (fun he => gCall_i (rLeft_any h) fun w1 h1 => gIf_dec (fun hg => ⟨?_, h1⟩) (fun hg => ⟨?_, h1⟩))))
  · unfold endR; rw [if_pos hne]
  · unfold endR; rw [if_neg (by omega), if_pos hg]
  · unfold endR; rw [if_neg (by omega), if_neg hg]
theorem rNew_any {b : Value} {xs : List Int} {w : World} (hb : Nm .u8 w b xs) (hl : xs.length ≤ 10000000000) : Calls P n_num_New #[b] w (fun e w' => ∃ ad y, e = .returned (.pointer (some ad)) ∧ Ev w w' ∧ w.heap.size ≤ ad.block ∧ Rd w' ad y xs 0 0) := by
  refine of_num_New (gApp_on (ON.nil .u8 eB w w.heap.size) hb (by simp; omega) (Nat.le_refl _) fun y w1 hy hc hm => ⟨hy.one, gBox_of fun ad w2 h2 had hs hS => ?_⟩)
  have h1 : Ev w w1 := hc.mono fun _ _ _ hh => by cases hh
  have hy' := hy.ev h2
  refine ⟨ad, y, rfl, h1.trans h2, by rw [had]; exact h1.size, hS, by simpa using hy'.nm, fun hh => ?_, by omega, hl⟩
  have := (hy.base hh).2
  rw [had] at this; dsimp only at this; omega
/-- The next text. -/
def textR (xs : List Int) (a : Nat) (er most : Int) : List Int × Nat × Int :=
  if er ≠ 0 then ([], a, er)
  else
    let p := numR xs a er (if 0 > most then 0 else most)
    let q := rawR xs p.2.1 p.2.2 p.1
    if q.2.2 ≠ 0 then ([], a, q.2.2) else q
theorem rawR_er {xs : List Int} {a : Nat} {er n : Int} (h : (rawR xs a er n).2.2 = 0) : er = 0 := by
  unfold rawR at h; split at h
  · exact h
  · omega
theorem rText_any {ad : Addr} {b : Value} {xs : List Int} {a : Nat} {er most : Int} {w : World} (h : Rd w ad b xs a er) (hm : most ≤ 9223372036854775807) : Calls P n_num_Reader_Text #[.pointer (some ad), .int .i64 most] w (RawE w ad b xs (textR xs a er most)) := by
  refine of_num_Reader_Text ⟨fun w' => er = 0 ∧ w' = w, gEq_pnil (gIf_nf (gNil_some (gLoad_i (h.1.cell (j := 2) rfl) (gIf_neq (fun hne => ?_) (fun he => ⟨he, rfl⟩))))), ?_⟩
  · unfold textR; rw [if_pos hne]; exact ⟨_, rfl, h.step, ON.nil _ _ _ _⟩
  rintro _ _ ⟨rfl, rfl⟩
  rename_i w
  unfold textR
  rw [if_neg (show ¬ ((0 : Int) ≠ 0) by simp)]
  have hm0 : 0 ≤ (if 0 > most then 0 else most) ∧ (if 0 > most then 0 else most) ≤ 9223372036854775807 := by split <;> omega
  generalize (if 0 > most then 0 else most) = mm at hm0
  rw [show u64 mm = mm by rw [u64_def]; omega]
  refine gNil_some (gLoad_i (h.1.cell (j := 1) rfl) (gCall_i (num_any h) fun w1 h1 => ?_))
  have hr := numR_rng (xs := xs) (a := a) (er := 0) (most := mm) h.2.1.2
  have hm2 := numR_most (xs := xs) (a := a) (er := 0) (most := mm) hm0.1
  dsimp only
  generalize numR xs a 0 mm = p at *
  rw [i64_id (n := p.1) (by omega) (by omega)]
  refine gCall_of (rRaw_any h1.1 (by omega)) ?_
  rintro _ w2 ⟨y, rfl, h2, hy⟩
  have hw2 := h1.trans h2
  generalize rawR xs p.2.1 p.2.2 p.1 = q at *
  refine ⟨y, rfl, gNil_some (gLoad_i (hw2.1.1.cell (j := 2) rfl) (gIf_neq (fun hne => gNil_some (gStore_st hw2.1.1 (j := 1) (by simp) rfl rfl fun w3 h3 _ hS3 => ?_)) (fun he => ?_)))⟩
  · rw [if_pos hne]
    exact ⟨_, rfl, hw2.trans (hw2.1.set (j := 1) (a2 := a) (er2 := q.2.2) (by decide) h3 hS3 rfl h.2.2.2.1), ON.nil _ _ _ _⟩
  · rw [if_neg (by omega)]
    exact ⟨y, rfl, hw2, hy.low h1.2.size⟩
def leN : List Int → Int
  | [] => 0
  | c :: r => c + 256 * leN r
theorem rawR_len {xs : List Int} {a : Nat} {er n : Int} {m : Nat} (hm : n ≤ m) : (rawR xs a er n).1.length ≤ m := by
  unfold rawR; split
  · simp
  · split
    · simp
    · rw [List.length_take]; omega
theorem leN_take {ys : List Int} : ∀ {j : Nat}, j < ys.length → leN (ys.take (j + 1)) = leN (ys.take j) + rd ys j * ((2 ^ (8 * j) : Nat) : Int) := by
  induction ys with
  | nil => intro j h; simp at h
  | cons c r ih =>
    intro j h
    cases j with
    | zero => simp [leN, rd]
    | succ j =>
      have hr : rd (c :: r) ((j + 1 : Nat) : Int) = rd r j := by simp [rd]
      rw [List.take_succ_cons, List.take_succ_cons, leN, leN, ih (by simpa using h), hr, show 8 * (j + 1) = 8 * j + 8 by omega, Nat.pow_add]
      have e : ((2 ^ (8 * j) * 2 ^ 8 : Nat) : Int) = ((2 ^ (8 * j) : Nat) : Int) * 256 := by rw [Int.natCast_mul]; rfl
      rw [e, Int.mul_add]; ac_rfl
theorem leN_bd {ys : List Int} (h : inR .u8 ys) : 0 ≤ leN ys ∧ leN ys < ((2 ^ (8 * ys.length) : Nat) : Int) := by
  induction ys with
  | nil => simp [leN]
  | cons c r ih =>
    have h1 := ih fun x hx => h x (by simp [hx])
    have h2 := h.u8 (x := c) (by simp)
    rw [leN, List.length_cons, show 8 * (r.length + 1) = 8 * r.length + 8 by omega, Nat.pow_add]
    have e : ((2 ^ (8 * r.length) * 2 ^ 8 : Nat) : Int) = ((2 ^ (8 * r.length) : Nat) : Int) * 256 := by rw [Int.natCast_mul]; rfl
    rw [e]; omega
def U64E (w : World) (ad : Addr) (b : Value) (xs : List Int) (v : Int) (r : List Int × Nat × Int) (e : Ending) (w' : World) : Prop := e = .returned (.int .u64 v) ∧ RS w w' ad b xs r.2.1 r.2.2
theorem rLittle_any {ad : Addr} {b : Value} {xs : List Int} {a : Nat} {er n : Int} {w : World} (h : Rd w ad b xs a er) : Calls P n_num_Reader_Little #[.pointer (some ad), .int .i64 n] w (U64E w ad b xs (leN (rawR xs a er (if 8 < n then 8 else n)).1) (rawR xs a er (if 8 < n then 8 else n))) := by
  have hn8 : (if 8 < n then 8 else n) ≤ 8 := by split <;> omega
  refine of_num_Reader_Little ?_
  generalize (if 8 < n then 8 else n) = m at *
  refine gCall_of (rRaw_any h (by omega)) ?_
  have hlen := rawR_len (xs := xs) (a := a) (er := er) (n := m) (m := 8) (by omega)
  rintro _ w1 ⟨y, rfl, h1, hy⟩
  generalize rawR xs a er m = r at *
  refine ⟨y, rfl, gLen_nm hy.nm ⟨fun v i w' => ∃ j : Nat, i = j ∧ j ≤ r.1.length ∧ v = leN (r.1.take j) ∧ w' = w1, fun _ i _ => r.1.length - i.toNat, ⟨0, rfl, by omega, by simp [leN], rfl⟩, ?_⟩⟩
  rintro _ v i _ ⟨j, rfl, hj, rfl, rfl⟩
  refine gIf_dec (fun hlt => gIdx_nm hy.nm (by omega) hlt fun a1 c1 _ => gLoad_i c1 (gBin_shl (by rw [i64_id (by omega) (by omega)]; omega) ?_)) (fun hge => ?_)
  · have hc := rd_u8 hy.2 j
    have hb := leN_bd (hy.2.take j)
    have hb2 := leN_bd (hy.2.take (j + 1))
    rw [leN_take (by omega)] at hb2
    rw [show u64 (rd r.1 j) = rd r.1 j by rw [u64_def]; omega, show i64 (8 * (j : Int)) = ((8 * j : Nat) : Int) by rw [i64_id (by omega) (by omega)]; omega, i64_id (n := (j : Int) + 1) (by omega) (by omega)]
    rw [List.length_take, Nat.min_eq_left (by omega)] at hb hb2
    have h64 : ((2 ^ (8 * (j + 1)) : Nat) : Int) ≤ ((18446744073709551616 : Nat) : Int) := Int.ofNat_le.2 (Nat.le_trans (Nat.pow_le_pow_right (by decide) (show 8 * (j + 1) ≤ 64 by omega)) (by decide))
    rw [iShl_u (k := .u64) rfl (by have : IntKind.u64.bits = 64 := rfl; omega) (by omega), bits64, Int.emod_eq_of_lt (Int.mul_nonneg (by omega) (Int.natCast_nonneg _)) (by show _ < (18446744073709551616 : Int); omega), iOr_add rfl hb.1 hb.2 hc.1 (by rw [bits64]; show _ < (18446744073709551616 : Int); omega)]
    exact ⟨⟨j + 1, by omega, by omega, by rw [leN_take (by omega)], rfl⟩, by dsimp only; omega⟩
  · rw [List.take_of_length_le (by omega)]; exact ⟨rfl, h1⟩
/-! ### A nil reader -/
end Go.Proofs.YtilpoinhfiajcaaGreatDoorV

/- Package valiseref02: Little, New, Raw, Little of a reader. -/
namespace Go.Proofs.YtilpoinhfiajcaaGreatDoorV
open Go Go.RowKit
section
variable {w0 w : World} {F : List It} {xs : List Int} {ad : Addr} {y : Value} {a : Nat} {er : Int}
/-- A reader that is new: its struct, and its bytes. -/
theorem Fr.rd (h : Fr w0 w F) (i j : Nat) (hi : F[i]? = some (sIt ad [y, .int .i64 a, .int .i64 er])) (hj : F[j]? = some (oIt .u8 eB y xs)) (hn : i ≠ j) (ha : a ≤ xs.length) (hl : xs.length ≤ 10000000000) : Rd w ad y xs a er :=
  ⟨h.get i hi, h.nm j hj, fun hg => h.apart hi hj hn ad.block rfl hg, ha, hl⟩
theorem Fr.rs {w' : World} {a2 : Nat} {er2 : Int} (h : Fr w0 w F) (i : Nat) (hi : F[i]? = some (sIt ad [y, .int .i64 a, .int .i64 er])) (g : RS w w' ad y xs a2 er2) : Fr w0 w' (F.set i (sIt ad [y, .int .i64 a2, .int .i64 er2])) :=
  h.upd i hi g.2 (fun k _ hh => .inl hh.1) g.1.1 fun k hk => .inl hk
/-- What New hands back. -/
def NewR (w : World) (xs : List Int) (e : Ending) (w' : World) : Prop := ∃ ad y, e = .returned (.pointer (some ad)) ∧ ∀ {w0 F}, Fr w0 w F → Fr w0 w' (sIt ad [y, .int .i64 0, .int .i64 0] :: oIt .u8 eB y xs :: F)
theorem nNew_any {b : Value} {w : World} (hb : Nm .u8 w b xs) (hl : xs.length ≤ 10000000000) : Calls P n_num_New #[b] w (NewR w xs) := by
  refine of_num_New (gApp_on (ON.nil .u8 eB w w.heap.size) hb (by simp; omega) (Nat.le_refl _) fun y w1 hy hc hm => ⟨hy.one, gBox_of fun ad w2 h2 had hs hS => ?_⟩)
  have h1 : Ev w w1 := hc.mono fun _ _ _ hh => by cases hh
  exact ⟨ad, y, rfl, fun f => (f.newO h1 (by simpa using hy)).new h2 hS fun k hk => by have hk : k = ad.block := hk; subst had; dsimp only at hk; omega⟩
theorem rrNew_any {b : Value} {w : World} (hb : Nm .u8 w b xs) (hl : xs.length ≤ 10000000000) : Calls P n_valiseref02_New #[b] w (NewR w xs) := by
  refine of_valiseref02_New (gApp_on (ON.nil .u8 eB w w.heap.size) hb (by simp; omega) (Nat.le_refl _) fun y w1 hy hc hm => ⟨hy.one, gBox_of fun ad w2 h2 had hs hS => ?_⟩)
  have h1 : Ev w w1 := hc.mono fun _ _ _ hh => by cases hh
  exact ⟨ad, y, rfl, fun f => (f.newO h1 (by simpa using hy)).new h2 hS fun k hk => by have hk : k = ad.block := hk; subst had; dsimp only at hk; omega⟩
theorem fNew {b : Value} {K : Option Addr → World → Prop} (h : Fr w0 w F) (hb : Nm .u8 w b xs) (hl : xs.length ≤ 10000000000) (hk : ∀ ad y w', Fr w0 w' (sIt ad [y, .int .i64 0, .int .i64 0] :: oIt .u8 eB y xs :: F) → K (some ad) w') : gCall P n_num_New shP #[b] w K :=
  gCall_of (nNew_any hb hl) fun _ w' ⟨ad, y, h1, h2⟩ => ⟨some ad, h1, hk ad y w' (h2 h)⟩
theorem frNew {b : Value} {K : Option Addr → World → Prop} (h : Fr w0 w F) (hb : Nm .u8 w b xs) (hl : xs.length ≤ 10000000000) (hk : ∀ ad y w', Fr w0 w' (sIt ad [y, .int .i64 0, .int .i64 0] :: oIt .u8 eB y xs :: F) → K (some ad) w') : gCall P n_valiseref02_New shP #[b] w K :=
  gCall_of (rrNew_any hb hl) fun _ w' ⟨ad, y, h1, h2⟩ => ⟨some ad, h1, hk ad y w' (h2 h)⟩
theorem rrRaw_any {b : Value} {n : Int} {w : World} (h : Rd w ad b xs a er) (hn : n ≤ 9223372036854775807) : Calls P n_valiseref02_Reader_Raw #[.pointer (some ad), .int .i64 n] w (RawE w ad b xs (rawR xs a er n)) := by
  have hal := h.2.2.2.1
  have hxl := h.2.2.2.2
  refine of_valiseref02_Reader_Raw (gNil_some (gLoad_i (h.1.cell (j := 2) rfl) (gIf_neq (fun hne => ?_) (fun he => ?_))))
  · unfold rawR; rw [if_pos (.inl hne)]; exact ⟨_, rfl, h.step, ON.nil _ _ _ _⟩
  subst he
  refine gNil_some (gLoadB_v (at1 (h.1.cell (j := 0) rfl)) (gLen_nm h.2.1 (gNil_some (gLoadB_i (at1 (h.1.cell (j := 1) rfl)) ?_))))
  rw [i64_id (n := (xs.length : Int) - a) (by omega) (by omega)]
  have hraw : rawR xs a 0 n = if (if 0 > n then 0 else n) > (xs.length : Int) - a then ([], a, 3) else ((xs.drop a).take (if 0 > n then 0 else n).toNat, a + (if 0 > n then 0 else n).toNat, 0) := by
    unfold rawR
    by_cases hn0 : n ≤ 0
    · rw [if_pos (.inr hn0)]
      have : (if 0 > n then 0 else n) = 0 := by split <;> omega
      rw [this, if_neg (by omega)]; simp
    · rw [if_neg (by omega), if_neg (show ¬ 0 > n by omega)]
  rw [hraw]
  have hm0 : 0 ≤ (if 0 > n then 0 else n) := by split <;> omega
  generalize (if 0 > n then 0 else n) = m at *
  refine gIf_dec (fun hg => ?_) (fun hle => ?_)
  · rw [if_pos hg]
    refine gNil_some (gStore_st h.drew.1 (j := 2) (by simp) rfl rfl fun w2 h2 _ hS2 => ⟨_, rfl, ?_, ON.nil _ _ _ _⟩)
    exact RS.pre (Ev.drew0 w) (h.drew.set (j := 2) (a2 := a) (er2 := 3) (by decide) h2 hS2 rfl hal)
  · rw [if_neg hle]
    obtain ⟨m, rfl⟩ : ∃ q : Nat, m = q := ⟨m.toNat, by omega⟩
    rw [Int.toNat_natCast]
    refine gNil_some (gLoad_i (h.drew.1.cell (j := 1) rfl) (gNil_some (gStore_st h.drew.1 (j := 1) (by simp) rfl rfl fun w2 h2 hs2 hS2 => ?_)))
    have hRS : RS w w2 ad b xs (a + m) 0 := RS.pre (Ev.drew0 w) <| h.drew.set (j := 1) (a2 := a + m) (er2 := 0) (by decide) h2 hS2 (by rw [i64_id (by omega) (by omega)]; rfl) (by omega)
    have hR := hRS.1.drew
    refine ⟨fun w' => Rd w' ad b xs (a + m) 0, hR, gNil_some (gLoadB_v (fun w' h => h.1.cell (j := 0) rfl) (gNil_some (gLoadB_i (fun w' h => h.1.cell (j := 1) rfl) (gNil_some (gLoadB_i (fun w' h => h.1.cell (j := 1) rfl) ?_)))))⟩
    rw [show i64 (((a + m : Nat) : Int) - (m : Int)) = (a : Int) by rw [i64_id (by omega) (by omega)]; omega]
    refine gSlice_nm hR.2.1 a (a + m) (.inr ⟨_, rfl⟩) (.inr ⟨_, rfl⟩) (by omega) (by omega) fun hs => ?_
    rw [Nat.add_sub_cancel_left] at hs
    refine gApp_on (ON.nil .u8 eB w2.drew w.heap.size) hs (by rw [List.length_take, List.length_drop]; simp; omega) (Nat.le_of_eq hs2.symm) fun y w3 hy hc hm => ?_
    have h3 : Ev w2.drew w3 := hc.mono fun _ _ _ hh => by cases hh
    exact ⟨hR.ev h3, y, rfl, RS.ev hRS ((Ev.drew0 w2).trans h3), by simpa using hy⟩
theorem shl8 {v : Int} (h0 : 0 ≤ v) (h : v < 72057594037927936) : iShl .u64 v 8 = v * ((2 ^ 8 : Nat) : Int) := by
  have e64 : ((2 ^ IntKind.u64.bits : Nat) : Int) = 18446744073709551616 := rfl
  have e8 : ((2 ^ 8 : Nat) : Int) = 256 := rfl
  have := iShl_u (k := .u64) (n := 8) rfl (by decide) h0
  rw [e64, e8, Int.emod_eq_of_lt (by omega) (by omega)] at this
  exact this
theorem leN_drop {ys : List Int} {j : Nat} (hj : j < ys.length) : leN (ys.drop j) = rd ys j + 256 * leN (ys.drop (j + 1)) := by
  rw [List.drop_eq_getElem_cons hj, leN, rd_nat ys j hj]
theorem rrLittle_any {b : Value} {n : Int} {w : World} (h : Rd w ad b xs a er) : Calls P n_valiseref02_Reader_Little #[.pointer (some ad), .int .i64 n] w (U64E w ad b xs (leN (rawR xs a er (if 8 < n then 8 else n)).1) (rawR xs a er (if 8 < n then 8 else n))) := by
  have hn8 : (if 8 < n then 8 else n) ≤ 8 := by split <;> omega
  refine of_valiseref02_Reader_Little ?_
  generalize (if 8 < n then 8 else n) = m at *
  refine gCall_of (rrRaw_any h (by omega)) ?_
  have hlen := rawR_len (xs := xs) (a := a) (er := er) (n := m) (m := 8) (by omega)
  rintro _ w1 ⟨y, rfl, h1, hy⟩
  generalize rawR xs a er m = r at *
  refine ⟨y, rfl, gLen_nm hy.nm ⟨fun v i w' => ∃ j : Nat, i = (j : Int) - 1 ∧ j ≤ r.1.length ∧ v = leN (r.1.drop j) ∧ w1 = w', fun _ i _ => (i + 1).toNat, ⟨r.1.length, by rw [i64_id (by omega) (by omega)], Nat.le_refl _, by rw [List.drop_of_length_le (Nat.le_refl _)]; rfl, rfl⟩, ?_⟩⟩
  rintro _ v i _ ⟨j, rfl, hj, rfl, rfl⟩
  refine gIf_dec (fun hlt => gIdx_nm hy.nm (by omega) (by omega) fun a1 c1 _ => gLoad_i c1 ?_) (fun hge => ?_)
  · obtain ⟨j, rfl⟩ : ∃ q, j = q + 1 := ⟨j - 1, by omega⟩
    rw [show ((j + 1 : Nat) : Int) - 1 = j by omega]
    have hc := rd_u8 hy.2 j
    have hb := leN_bd (hy.2.drop (j + 1))
    have hp : ((2 ^ (8 * (r.1.drop (j + 1)).length) : Nat) : Int) ≤ ((72057594037927936 : Nat) : Int) := by
      rw [List.length_drop]
      exact Int.ofNat_le.2 (Nat.le_trans (Nat.pow_le_pow_right (by decide) (show 8 * (r.1.length - (j + 1)) ≤ 56 by omega)) (by decide))
    have e64 : ((2 ^ IntKind.u64.bits : Nat) : Int) = 18446744073709551616 := rfl
    have e8 : ((2 ^ 8 : Nat) : Int) = 256 := rfl
    rw [shl8 hb.1 (Int.lt_of_lt_of_le hb.2 hp), show u64 (rd r.1 j) = rd r.1 j by rw [u64_def]; omega, iOr_add' (m := 8) rfl hc.1 (by rw [e8]; omega) hb.1 (by rw [e8, e64]; omega), e8, i64_id (n := (j : Int) - 1) (by omega) (by omega)]
    refine ⟨⟨j, rfl, by omega, ?_, rfl⟩, by dsimp only; omega⟩
    rw [leN_drop (j := j) (by omega), Int.mul_comm 256]
  · obtain rfl : j = 0 := by omega
    exact ⟨rfl, h1⟩
end
end Go.Proofs.YtilpoinhfiajcaaGreatDoorV

/- Writers and readers of numbers, in a frame. -/
namespace Go.Proofs.YtilpoinhfiajcaaGreatDoorV
open Go Go.RowKit
section
variable {w0 w w' : World} {F : List It}
theorem Fr.oth {it : It} {S : SS} (h : Fr w0 w F) (i : Nat) (hi : F[i]? = some it) (hc : Ch S w w') (hS : ∀ k q, S k q → it.ft k) : Fr w0 w' (F.eraseIdx i) := by
  refine (h.drop i).ch hc (fun k q hs => (h.ft i hi (hS k q hs)).1) fun jt hj k q hk hs => ?_
  obtain ⟨j, hj2⟩ := List.mem_iff_getElem?.1 hj
  rw [List.getElem?_eraseIdx] at hj2
  split at hj2
  · rename_i hlt
    exact h.apart hi hj2 (by omega) k (hS k q hs) hk
  · rename_i hge
    exact h.apart hi hj2 (by omega) k (hS k q hs) hk
theorem Fr.cons {jt : It} {n : Nat} (h : Fr w0 w F) (hn : w0.heap.size ≤ n) (hF : ∀ it ∈ F, ∀ k, it.ft k → k < n) (ok : jt.ok w) (hf : ∀ k, jt.ft k → n ≤ k) : Fr w0 w (jt :: F) :=
  ⟨ok, fun k hk => Nat.le_trans hn (hf k hk), fun it hi k hk hik => by have := hf k hk; have := hF it hi k hik; omega, h⟩
/-! ### Writers -/
theorem fNewW {K : Addr → World → Prop} (f : Fr w0 w F) (hk : ∀ ad v w', Fr w0 w' (wIt eB ad v [] :: F) → K ad w') : gAlloc P t_num_Writer w K :=
  fAlloc (z := .agg #[.slice none 0 0]) f (by kernel_rfl) fun ad w' f' => hk ad (.slice none 0 0) w' (f'.asW (e := eB) 0 rfl)
theorem fNum {ad : Addr} {v : Value} {xs : List Int} {n : Int} {K : World → Prop} (f : Fr w0 w F) (i : Nat) (hi : F[i]? = some (wIt eB ad v xs)) (hn : 0 ≤ n ∧ n < 18446744073709551616) (hl : xs.length + 10 ≤ 10000000000)
    (hk : ∀ v' w', Fr w0 w' (F.set i (wIt eB ad v' (xs ++ numB n.toNat))) → K w') : gCall P n_num_Writer_Num shU #[.pointer (some ad), .int .u64 n] w K :=
  gCall_u (Num_any (f.get i hi) hn hl) fun w' ⟨v', hw⟩ => hk v' w' (f.wr i hi hw)
theorem fRawW {ad : Addr} {v p : Value} {xs : List Int} {yss : List (List Int)} {K : World → Prop} (f : Fr w0 w F) (i : Nat) (hi : F[i]? = some (wIt eB ad v xs)) (hp : ∀ w', Fr w0 w' (F.eraseIdx i) → NL .u8 w' p yss) (hl : xs.length + yss.flatten.length ≤ 10000000000) (hn : yss.length ≤ 10000000000)
    (hk : ∀ v' w', Fr w0 w' (F.set i (wIt eB ad v' (xs ++ yss.flatten))) → K w') : gCall P n_num_Writer_Raw shU #[.pointer (some ad), p] w K :=
  gCall_u (Raw_any (f.get i hi) (fun w' hc => hp w' (f.oth i hi hc fun k q h => h)) hl hn) fun w' ⟨v', hw⟩ => hk v' w' (f.wr i hi hw)
theorem fBytesW {ad : Addr} {v : Value} {xs : List Int} {K : Value → World → Prop} (f : Fr w0 w F) (i : Nat) (hi : F[i]? = some (wIt eB ad v xs)) (hl : xs.length ≤ 10000000000) (hk : ∀ y w', Fr w0 w' (oIt .u8 eB y xs :: F) → K y w') : gCall P n_num_Writer_Bytes shV #[.pointer (some ad)] w K :=
  gCall_v (Q := fun y w' => Ev w w' ∧ ON .u8 eB w' w.heap.size y xs) (Bytes_W (f.get i hi) hl) fun y w' ⟨h1, h2⟩ => hk y w' (f.newO h1 h2)
/-! ### Readers -/
theorem fNewR {b : Value} {xs : List Int} {K : Option Addr → World → Prop} (f : Fr w0 w F) (hb : Nm .u8 w b xs) (hl : xs.length ≤ 10000000000) (hk : ∀ ad y w', Fr w0 w' (sIt ad [y, .int .i64 ((0 : Nat) : Int), .int .i64 0] :: oIt .u8 eB y xs :: F) → K (some ad) w') : gCall P n_num_New shP #[b] w K :=
  gCall_of (nNew_any hb hl) fun _ w' ⟨ad, y, h1, h2⟩ => ⟨some ad, h1, hk ad y w' (h2 f)⟩
theorem fNumR {ad : Addr} {y : Value} {xs : List Int} {a : Nat} {er : Int} {K : Int → World → Prop} (f : Fr w0 w (sIt ad [y, .int .i64 a, .int .i64 er] :: oIt .u8 eB y xs :: F)) (ha : a ≤ xs.length) (hl : xs.length ≤ 10000000000)
    (hk : ∀ w', Fr w0 w' (sIt ad [y, .int .i64 (numR xs a er 18446744073709551615).2.1, .int .i64 (numR xs a er 18446744073709551615).2.2] :: oIt .u8 eB y xs :: F) → K (numR xs a er 18446744073709551615).1 w') : gCall P n_num_Reader_Num (shI .u64) #[.pointer (some ad)] w K :=
  gCall_i (rNum_any (f.rd 0 1 rfl rfl (by decide) ha hl)) fun w' h => hk w' (f.rs 0 rfl h)
theorem fErrR {ad : Addr} {y : Value} {xs : List Int} {a : Nat} {er : Int} {K : Int → World → Prop} (f : Fr w0 w (sIt ad [y, .int .i64 a, .int .i64 er] :: oIt .u8 eB y xs :: F)) (ha : a ≤ xs.length) (hl : xs.length ≤ 10000000000) (hk : K er w) : gCall P n_num_Reader_Err (shI .i64) #[.pointer (some ad)] w K :=
  gCall_i0 (rErr_any (f.rd 0 1 rfl rfl (by decide) ha hl)) hk
theorem fEndR {ad : Addr} {y : Value} {xs : List Int} {a : Nat} {er : Int} {K : Int → World → Prop} (f : Fr w0 w (sIt ad [y, .int .i64 a, .int .i64 er] :: oIt .u8 eB y xs :: F)) (ha : a ≤ xs.length) (hl : xs.length ≤ 10000000000) (hk : ∀ w', Ev w w' → K (endR xs.length a er) w') : gCall P n_num_Reader_End (shI .i64) #[.pointer (some ad)] w K :=
  gCall_i (rEnd_any (f.rd 0 1 rfl rfl (by decide) ha hl)) hk
theorem fRawR {ad : Addr} {y : Value} {xs : List Int} {a : Nat} {er n : Int} {K : Value → World → Prop} (f : Fr w0 w (sIt ad [y, .int .i64 a, .int .i64 er] :: oIt .u8 eB y xs :: F)) (ha : a ≤ xs.length) (hl : xs.length ≤ 10000000000) (hn : n ≤ 9223372036854775807)
    (hk : ∀ z w', Fr w0 w' (sIt ad [y, .int .i64 (rawR xs a er n).2.1, .int .i64 (rawR xs a er n).2.2] :: oIt .u8 eB y xs :: oIt .u8 eB z (rawR xs a er n).1 :: F) → K z w') : gCall P n_num_Reader_Raw shV #[.pointer (some ad), .int .i64 n] w K := by
  refine gCall_of (rRaw_any (f.rd 0 1 rfl rfl (by decide) ha hl) hn) ?_
  rintro _ w' ⟨z, rfl, h1, h2⟩
  refine ⟨z, rfl, hk z w' ?_⟩
  have f' : Fr w0 w' (sIt ad [y, .int .i64 (rawR xs a er n).2.1, .int .i64 (rawR xs a er n).2.2] :: oIt .u8 eB y xs :: F) := f.rs 0 rfl h1
  have hz : ∀ k, z.ownBlock = some k → w.heap.size ≤ k := fun k hk => (h2.base hk).1
  have hlt : ∀ it ∈ (sIt ad [y, .int .i64 (rawR xs a er n).2.1, .int .i64 (rawR xs a er n).2.2] :: oIt .u8 eB y xs :: F), ∀ k, it.ft k → k < w.heap.size := fun it hi k hk => by
    rcases List.mem_cons.1 hi with rfl | hi
    · exact It.lt (sIt ad [y, .int .i64 a, .int .i64 er]) w k (f.get 0 rfl) hk
    · exact It.lt it w k (f.mem (List.mem_cons_of_mem _ hi)).1 hk
  have f2 := f'.cons (jt := oIt .u8 eB z (rawR xs a er n).1) f.old.size hlt (h2.low (Nat.zero_le _)) hz
  exact f2.picksN 3 [1, 2, 0] (by decide) (by decide)
theorem numR_le {xs : List Int} {a : Nat} {er m : Int} (ha : a ≤ xs.length) : (numR xs a er m).2.1 ≤ xs.length := (numR_at ha).2
theorem rawR_le {xs : List Int} {a : Nat} {er n : Int} (ha : a ≤ xs.length) : (rawR xs a er n).2.1 ≤ xs.length := by
  unfold rawR
  split
  · exact ha
  · split
    · exact ha
    · dsimp only; omega
/-- Slices of which each reads so, in a slice. -/
theorem fTextW {ad : Addr} {v b : Value} {xs ys : List Int} {K : World → Prop} (f : Fr w0 w F) (i : Nat) (hi : F[i]? = some (wIt eB ad v xs)) (hb : ∀ w', Fr w0 w' (F.eraseIdx i) → Nm .u8 w' b ys) (hl : xs.length + ys.length + 10 ≤ 10000000000)
    (hk : ∀ v' w', Fr w0 w' (F.set i (wIt eB ad v' (xs ++ numB ys.length ++ ys))) → K w') : gCall P n_num_Writer_Text shU #[.pointer (some ad), b] w K :=
  gCall_u (Text_any (f.get i hi) (fun w' hc => hb w' (f.oth i hi hc fun k q h => h)) hl) fun w' ⟨v', hw⟩ => hk v' w' (f.wr i hi hw)
theorem NL.of {k : IntKind} {p : Value} {us : List Value} {yss : List (List Int)} (hp : Sl w 1 p us.length us) (hl : us.length = yss.length) (h : ∀ (i : Nat) (u : Value) (ys : List Int), us[i]? = some u → yss[i]? = some ys → Nm k w u ys) : NL k w p yss := ⟨us, by rw [← hl]; exact hp, h⟩
end
end Go.Proofs.YtilpoinhfiajcaaGreatDoorV

/- Package audio: a track, packed. -/
namespace Go.Proofs.YtilpoinhfiajcaaGreatDoorV
open Go Go.RowKit
/-- A track, packed by a predictor. -/
noncomputable def pkK (l : List Int) (k : Int) : List Int := (packE (resG (kindG k) l)).1
noncomputable def pkT (l : List Int) : Int × List Int := if (pkK l 4).length < (pkK l (bestO l : Nat)).length then (4, pkK l 4) else ((bestO l : Nat), pkK l (bestO l : Nat))
section
variable {w0 w : World} {F : List It} {l0 : Value} {l : List Int}
theorem fTry {k : Int} {K : Addr → Value → World → Prop} (f : Fr w0 w F) (h : Nm .i32 w0 l0 l) (hl : l.length ≤ 1000000000) (hk : ∀ p6 v w', Fr w0 w' (oIt .u8 eB v (pkK l k) :: sIt p6 [.int .i64 k, v] :: F) → K p6 v w') :
    gAlloc P t_audio_packer w fun p6 ww6 => gStore P t_audio_packer (.pointer (some p6)) (.agg #[.int .i64 k, .slice none 0 0]) ww6 fun ww7 => gLoad P t_audio_predictor (.part (.agg [.int .i64])) (.pointer (some (Addr.add p6 0))) ww7 fun (t20_1 : Int) => gCall P n_audio_predictor_residual shV #[.agg #[.int .i64 t20_1], l0] ww7 fun t22 ww8 => gCall P n_rice_Pack (.tup [.one .val, .one (.int .i64)]) #[t22] ww8 fun (t23_1 : Value) (_ : Int) ww9 => gStore P t_sl_uint8 (.pointer (some (Addr.add p6 1))) t23_1 ww9 fun ww10 => K p6 t23_1 ww10 := by
  refine fAlloc (z := .agg #[.int .i64 0, .slice none 0 0]) f (by kernel_rfl) fun p6 w1 f1 => fStoreA f1 0 rfl (fun w2 f2 => ?_) rfl
  have f2 : Fr w0 w2 (sIt p6 [.int .i64 k, .slice none 0 0] :: F) := f2
  refine gLoad_agg [.int .i64 k] (fun j u hj => ?_) ?_ rfl (by kernel_rfl)
  · rcases j with _ | j
    · simp at hj; subst hj; rw [Addr.add_zero']; exact f2.cell 0 0 rfl rfl
    · simp at hj
  show gCall _ _ _ _ _ _
  refine gCall_of (pRes_any (k := k) (h.ev f2.old) hl) ?_
  rintro _ w3 ⟨t22, rfl, h3, o3⟩
  refine ⟨t22, rfl, gCall_of (rPack_any o3.nm) ?_⟩
  rintro _ w4 ⟨v, rfl, h4, o4⟩
  have f4 := (f2.ev h3).newO h4 o4
  refine ⟨v, _, rfl, fStore f4 1 1 rfl (fun w5 f5 => hk p6 v w5 f5) (by exact Nat.le_of_ble_eq_true rfl) (by obtain ⟨a, c, rfl, _⟩ := o4.nm.shape; rfl) (by obtain ⟨a, c, rfl, _⟩ := o4.nm.shape; rfl)⟩
theorem numL_pos (v : Int) (k : Nat) : 1 ≤ (numL v k).length := by
  unfold numL; split
  · simp only [List.length_append, List.length_cons]; omega
  · simp only [List.length_append, List.length_replicate]; omega
theorem packTo_pos (l : List Int) : ∀ m, 0 < m → 1 ≤ (packTo l m).length
  | 0, h => by omega
  | m + 1, _ => by
    rw [packTo, List.length_append]
    unfold piece
    have := numL_pos (rd l (m : Int)) (kOf l m)
    rw [List.length_append]; omega
theorem pkK_len (hl : l.length ≤ 1048576) (k : Int) : (l ≠ [] → 1 ≤ (pkK l k).length) ∧ (pkK l k).length ≤ 8 * l.length + 10000 := by
  have hr := resG_len (kindG k) l
  unfold pkK packE
  rw [if_neg (by omega)]
  dsimp only
  have hp := (pkB_ok (B01.pack (resG (kindG k) l) (resG (kindG k) l).length)).2.1
  have h1 := packTo_len (resG (kindG k) l) (resG (kindG k) l).length
  refine ⟨fun hne => ?_, by omega⟩
  have h0 : 0 < l.length := List.length_pos_iff.2 hne
  have := packTo_pos (resG (kindG k) l) (resG (kindG k) l).length (by omega)
  omega
theorem pkT_len (hl : l.length ≤ 1048576) : (pkT l).2.length ≤ 8 * l.length + 10000 := by
  unfold pkT; split <;> exact (pkK_len hl _).2
theorem pkT_kind : 0 ≤ (pkT l).1 ∧ (pkT l).1 ≤ 4 ∧ (pkT l).2 = pkK l (pkT l).1 := by
  have h3 : bestO l ≤ 3 := bfN_le l 3
  unfold pkT; split
  · exact ⟨by dsimp only; omega, by dsimp only; omega, rfl⟩
  · exact ⟨by dsimp only; omega, by dsimp only; omega, rfl⟩
def PackedE (w : World) (r : Int × List Int) (e : Ending) (w' : World) : Prop := ∃ v, e = .returned (.agg #[.int .i64 r.1, v]) ∧ Ev w w' ∧ ON .u8 eB w' w.heap.size v r.2
theorem ne_nil_some {k : IntKind} {v : Value} {xs : List Int} (h : Nm k w v xs) (hx : 1 ≤ xs.length) : ∃ a c, v = .slice (some a) xs.length c := by
  obtain ⟨⟨a, c, rfl, _, _, _, hn⟩, _⟩ := h
  cases a with
  | none => have := hn rfl; omega
  | some a => exact ⟨a, c, rfl⟩
theorem packed_any (h : Nm .i32 w l0 l) (hne : l ≠ []) (hl : l.length ≤ 1048576) : Calls P n_audio_packed #[l0] w (PackedE w (pkT l)) := by
  refine of_audio_packed (fAlloc (z := .agg #[.int .i64 0, .slice none 0 0]) (Fr.start w) (by kernel_rfl) fun t2 w1 f1 => fAlloc (z := .agg #[.int .i64 0, .slice none 0 0]) f1 (by kernel_rfl) fun best3 w2 f2 => gCall_i (fBest_any (h.ev f2.old) (by omega)) fun w3 h3 => ?_)
  have hb3 : bestO l ≤ 3 := bfN_le l 3
  have hin : inR .i64 [(bestO l : Int), 4] := fun x hx => by
    have h1 : IntKind.i64.min = -9223372036854775808 := by decide
    have h2 : IntKind.i64.max = 9223372036854775807 := by decide
    rw [h1, h2]
    simp only [List.mem_cons, List.not_mem_nil, or_false] at hx
    rcases hx with rfl | rfl <;> omega
  refine fLit_n [(bestO l : Int), 4] (f2.ev h3) rfl rfl hin fun t9 w4 f4 => gLen_nm (f4.nm 0 rfl) ?_
  have f4 : Fr w w4 [oIt .i64 (elOf P t_sl_int) t9 [(bestO l : Int), 4], sIt best3 [.int .i64 0, .slice none 0 0], sIt t2 [.int .i64 0, .slice none 0 0]] := f4
  obtain ⟨k1, hk1⟩ : ∃ k1 : Int, k1 = (bestO l : Nat) := ⟨_, rfl⟩
  rw [← hk1] at f4
  refine ⟨fun i w' => (i = 0 ∧ Fr w w' [oIt .i64 (elOf P t_sl_int) t9 [k1, 4], sIt best3 [.int .i64 0, .slice none 0 0], sIt t2 [.int .i64 0, .slice none 0 0]]) ∨ (∃ (r : Int × List Int) (v : Value), ((i = 1 ∧ r = (k1, pkK l k1)) ∨ (i = 2 ∧ r = pkT l)) ∧ Fr w w' [oIt .i64 (elOf P t_sl_int) t9 [k1, 4], sIt best3 [.int .i64 r.1, v], sIt t2 [.int .i64 0, .slice none 0 0], oIt .u8 eB v r.2]), fun i _ => (2 - i).toNat, .inl ⟨rfl, f4⟩, ?_⟩
  have one : ∀ (v : Value) (xs : List Int) (w' : World), Nm .u8 w' v xs → v.oneCell' = true := fun v xs w' hn => by obtain ⟨a, c, rfl, _⟩ := hn.shape; rfl
  rintro _ i w5 (⟨rfl, f5⟩ | ⟨r, v, hir, f5⟩)
  · refine gIf_t (gGet (f5.nm 0 rfl) (by decide) (by simp) ?_)
    rw [show rd [k1, 4] 0 = k1 from rfl]
    refine fTry (k := k1) f5 h (by omega) fun p6 v w6 f6 => fLoad_v f6 3 1 rfl rfl (gEq_snil (gIf_nt (fLoadA f6 1 rfl ?_ rfl (by kernel_rfl))))
    show gStore _ _ _ _ _ _
    refine fStoreA f6 3 rfl (fun w7 f7 => ⟨.inr ⟨(k1, pkK l k1), v, .inl ⟨by decide, rfl⟩, ?_⟩, by dsimp only; decide⟩) rfl (fun u hu => ?_)
    · have f7 : Fr w w7 [oIt .u8 eB v (pkK l k1), sIt p6 [.int .i64 k1, v], oIt .i64 (elOf P t_sl_int) t9 [k1, 4], sIt best3 [.int .i64 k1, v], sIt t2 [.int .i64 0, .slice none 0 0]] := f7
      exact f7.picks [2, 3, 4, 0] (by decide)
    · simp at hu
      rcases hu with rfl | rfl
      · rfl
      · exact one _ _ _ (f6.nm 0 rfl)
  · rcases hir with ⟨rfl, rfl⟩ | ⟨rfl, rfl⟩
    · refine gIf_t (gGet (f5.nm 0 rfl) (by decide) (by simp) ?_)
      rw [show rd [k1, 4] 1 = 4 from rfl]
      have f5 : Fr w w5 [oIt .i64 (elOf P t_sl_int) t9 [k1, 4], sIt best3 [.int .i64 k1, v], sIt t2 [.int .i64 0, .slice none 0 0], oIt .u8 eB v (pkK l k1)] := f5
      refine fTry (k := 4) f5 h (by omega) fun p6 v2 w6 f6 => fLoad_v f6 3 1 rfl rfl ?_
      obtain ⟨a, c, hv⟩ := ne_nil_some (f6.nm 5 rfl) ((pkK_len hl k1).1 hne)
      have hgo : ∀ K : Bool → Prop, K false → gEq P .eql t_sl_uint8 v (.slice none 0 0) K := fun K hK => by rw [hv]; exact gEq_snil hK
      refine hgo _ (gIf_nf (fLoad_v f6 1 1 rfl rfl (gLen_nm (f6.nm 0 rfl) (fLoad_v f6 3 1 rfl rfl (gLen_nm (f6.nm 5 rfl) (gIf_dec (fun hlt => fLoadA f6 1 rfl ?_ rfl (by kernel_rfl)) (fun hge => ?_)))))))
      · show gStore _ _ _ _ _ _
        refine fStoreA f6 3 rfl (fun w7 f7 => ⟨.inr ⟨pkT l, v2, .inr ⟨by decide, rfl⟩, ?_⟩, by dsimp only; decide⟩) rfl (fun u hu => ?_)
        · have f7 : Fr w w7 [oIt .u8 eB v2 (pkK l 4), sIt p6 [.int .i64 4, v2], oIt .i64 (elOf P t_sl_int) t9 [k1, 4], sIt best3 [.int .i64 4, v2], sIt t2 [.int .i64 0, .slice none 0 0], oIt .u8 eB v (pkK l k1)] := f7
          have e : pkT l = (4, pkK l 4) := by unfold pkT; rw [if_pos (by rw [← hk1]; omega)]
          rw [e]
          exact f7.picks [2, 3, 4, 0] (by decide)
        · simp at hu
          rcases hu with rfl | rfl
          · rfl
          · exact one _ _ _ (f6.nm 0 rfl)
      · refine ⟨.inr ⟨pkT l, v, .inr ⟨by decide, rfl⟩, ?_⟩, by dsimp only; decide⟩
        have e : pkT l = (k1, pkK l k1) := by unfold pkT; rw [if_neg (by rw [← hk1]; omega), ← hk1]
        rw [e]
        exact f6.picks [2, 3, 4, 5] (by decide)
    · refine gIf_f (fLoadA f5 1 rfl ?_ rfl (by kernel_rfl))
      show gStore _ _ _ _ _ _
      refine fStoreA f5 2 rfl (fun w6 f6 => ?_) rfl (fun u hu => ?_)
      · have f6 : Fr w w6 [oIt .i64 (elOf P t_sl_int) t9 [k1, 4], sIt best3 [.int .i64 (pkT l).1, v], sIt t2 [.int .i64 (pkT l).1, v], oIt .u8 eB v (pkT l).2] := f6
        refine fLoadA f6 2 rfl ?_ rfl (by kernel_rfl)
        exact ⟨v, rfl, f6.old, f6.on 3 rfl⟩
      · simp at hu
        rcases hu with rfl | rfl
        · rfl
        · exact one _ _ _ (f5.nm 3 rfl)
end
end Go.Proofs.YtilpoinhfiajcaaGreatDoorV

/- Package audio: all tracks, packed. -/
namespace Go.Proofs.YtilpoinhfiajcaaGreatDoorV
open Go Go.RowKit
noncomputable abbrev eP : TypeId := elOf P t_sl_audio_packer
/-- A packed track: its kind, its bytes' value, its bytes. -/
abbrev Pk := Int × Value × List Int
def pkp (u : Pk) : Int × List Int := (u.1, u.2.2)
def cellsP : List Pk → List Value
  | [] => []
  | u :: T => .int .i64 u.1 :: u.2.1 :: cellsP T
theorem cellsP_app (S T : List Pk) : cellsP (S ++ T) = cellsP S ++ cellsP T := by
  induction S with
  | nil => rfl
  | cons u S ih => rw [List.cons_append, cellsP, cellsP, ih]; rfl
theorem cellsP_at : ∀ {T : List Pk} {k : Nat} {u : Pk}, T[k]? = some u → (cellsP T)[2 * k]? = some (.int .i64 u.1) ∧ (cellsP T)[2 * k + 1]? = some u.2.1
  | t :: T, 0, u, h => by simp at h; subst h; exact ⟨rfl, rfl⟩
  | t :: T, k + 1, u, h => by
    have := cellsP_at (T := T) (k := k) (u := u) (by simpa using h)
    rw [cellsP, show 2 * (k + 1) = 2 * k + 1 + 1 by omega, List.getElem?_cons_succ, List.getElem?_cons_succ, List.getElem?_cons_succ]
    exact ⟨this.1, this.2⟩
/-- Packed tracks, all in memory of one's own. -/
noncomputable def pkF (v : Value) (T : List Pk) : List It := rIt eP 2 v T.length (cellsP T) :: T.reverse.map fun u => oIt .u8 eB u.2.1 u.2.2
def sizeP : List (Int × List Int) → Nat
  | [] => 0
  | u :: T => u.2.length + sizeP T
theorem sizeP_app (S T : List (Int × List Int)) : sizeP (S ++ T) = sizeP S + sizeP T := by
  induction S with
  | nil => simp [sizeP]
  | cons u S ih => rw [List.cons_append, sizeP, sizeP, ih]; omega
/-- All tracks, packed; whether the first two are a middle and a side. -/
noncomputable def allI (xss : List (List Int)) : List (Int × List Int) × Bool :=
  if xss.length ≠ 2 then (xss.map pkT, false)
  else if sizeP [pkT (midL (xss.getD 0 []) (xss.getD 1 [])), pkT (sideL (xss.getD 0 []) (xss.getD 1 []))] < sizeP (xss.map pkT) then ([pkT (midL (xss.getD 0 []) (xss.getD 1 [])), pkT (sideL (xss.getD 0 []) (xss.getD 1 []))], true)
  else (xss.map pkT, false)
section
variable {w0 w : World} {F : List It}
theorem Sl.of_cells {ad : Addr} {n : Nat} {cs : List Value} (h : St w ad cs) (hn : cs.length = n * 2) : Sl w 2 (.slice (some ad) n n) n cs :=
  ⟨some ad, n, rfl, Nat.le_refl _, by rw [hn], fun ad' ha j u hj => by injection ha with ha; subst ha; exact St.cell h hj, fun h => by cases h⟩
theorem pk_step {out v : Value} {T : List Pk} {k : Int} {bs : List Int} {K : Value → World → Prop} (f : Fr w0 w (oIt .u8 eB v bs :: pkF out T)) (hl : T.length ≤ 1000) (hk : ∀ out' w', Fr w0 w' (pkF out' (T ++ [(k, v, bs)])) → K out' w') :
    gLit P t_sl_audio_packer 1 #[(0, .agg #[.int .i64 k, v])] w fun t20 w5 => gApp P #[t_sl_audio_packer, t_sl_audio_packer] t_sl_audio_packer #[out, t20] w5 K := by
  have hn := f.nm 0 rfl
  have ho : v.oneCell' = true := by obtain ⟨a, c, rfl, _⟩ := hn.shape; rfl
  refine fLit_sz 2 [[.int .i64 k, v]] f rfl rfl (fun v hv => by simp at hv; subst hv; rfl) (fun ad w5 f5 => ?_) (by decide) (by kernel_rfl) (by decide +kernel)
  refine fAppR 40 (m := 1) f5 2 rfl (Sl.of_cells (f5.get 0 rfl) rfl) (fun x hx => ?_) (by omega) (by unfold maxLen; omega) (fun v' w6 f6 => hk v' w6 ?_) (by kernel_rfl)
  · simp at hx; rcases hx with rfl | rfl
    · rfl
    · exact ho
  · have f7 := f6.picksN 3 [2, 1] (by decide) (by decide)
    have e1 : pkF v' (T ++ [(k, v, bs)]) = rIt eP 2 v' (T.length + 1) (cellsP T ++ [.int .i64 k, v]) :: oIt .u8 eB v bs :: T.reverse.map fun u => oIt .u8 eB u.2.1 u.2.2 := by
      unfold pkF; rw [cellsP_app, List.length_append, List.reverse_append]; rfl
    rw [e1]; exact f7
/-- Where a packed track lies, and its bytes. -/
theorem pk_at {v : Value} {T : List Pk} (f : Fr w0 w (pkF v T)) : Sl w 2 v T.length (cellsP T) ∧ ∀ u ∈ T, Nm .u8 w u.2.1 u.2.2 := by
  refine ⟨f.row 0 rfl, fun u hu => ?_⟩
  have hm : oIt .u8 eB u.2.1 u.2.2 ∈ pkF v T := List.mem_cons_of_mem _ (List.mem_map.2 ⟨u, List.mem_reverse.2 hu, rfl⟩)
  obtain ⟨i, hi⟩ := List.mem_iff_getElem?.1 hm
  exact f.nm i hi
/-- A packed track, read. -/
theorem gPk {v : Value} {T : List Pk} {k : Nat} {u : Pk} {K : Int → Value → Prop} (h : Sl w 2 v T.length (cellsP T)) (hu : T[k]? = some u) (hk : K u.1 u.2.1) : gIdx P t_sl_audio_packer v (.int .i64 (k : Int)) fun ad => gLoad P t_audio_packer (.part (.agg [.int .i64, .val])) (.pointer (some ad)) w K := by
  have hlt := (List.getElem?_eq_some_iff.1 hu).1
  have hc := cellsP_at hu
  refine gIdx_sz (sz := 2) h hlt (fun ad hcell _ => gLoad_agg [.int .i64 u.1, u.2.1] (fun j x hj => ?_) hk rfl (by kernel_rfl)) (by kernel_rfl)
  rcases j with _ | _ | j
  · simp at hj; subst hj; exact hcell 0 _ (by decide) (by rw [show k * 2 + 0 = 2 * k by omega]; exact hc.1)
  · simp at hj; subst hj; exact hcell 1 _ (by decide) (by rw [show k * 2 + 1 = 2 * k + 1 by omega]; exact hc.2)
  · simp at hj
theorem size_any {v : Value} {T : List Pk} (hp : Sl w 2 v T.length (cellsP T)) (hb : ∀ u ∈ T, Nm .u8 w u.2.1 u.2.2) (hl : T.length ≤ 1000) (hs : ∀ u ∈ T, u.2.2.length ≤ 1000000000) : Calls P n_audio_size #[v] w (fun e w' => e = .returned (.int .i64 (sizeP (T.map pkp) : Nat)) ∧ Ev w w') := by
  have hsz : ∀ k, k ≤ T.length → sizeP ((T.take k).map pkp) ≤ k * 1000000000 := by
    intro k
    induction k with
    | zero => intro _; simp [sizeP]
    | succ k ih =>
      intro hk
      have h1 := hs T[k] (List.getElem_mem (by omega))
      rw [List.take_succ_eq_append_getElem (by omega), List.map_append, sizeP_app]
      have := ih (by omega)
      simp only [List.map_cons, List.map_nil, sizeP, pkp]; omega
  refine of_audio_size (gLen_slv hp ⟨fun n i w' => ∃ k : Nat, i = (k : Int) ∧ k ≤ T.length ∧ n = ((sizeP ((T.take k).map pkp) : Nat) : Int) ∧ Ev w w', fun _ i _ => (T.length - i).toNat, ⟨0, rfl, Nat.zero_le _, rfl, Ch.refl _ _⟩, ?_⟩)
  rintro _ n i w1 ⟨k, rfl, hk, rfl, h1⟩
  have hk1 := hsz k hk
  refine gIf_dec (fun hlt => ?_) (fun hge => ?_)
  · have hkl : k < T.length := by omega
    have hu : T[k]? = some T[k] := List.getElem?_eq_getElem hkl
    have hm : T[k] ∈ T := List.getElem_mem hkl
    have hk2 := hsz (k + 1) hkl
    have htk : sizeP ((T.take (k + 1)).map pkp) = sizeP ((T.take k).map pkp) + T[k].2.2.length := by rw [List.take_succ_eq_append_getElem hkl, List.map_append, sizeP_app]; rfl
    refine gPk (hp.ev h1) hu (fAlloc (z := .agg #[.int .i64 0, .slice none 0 0]) (Fr.start w1) (by kernel_rfl) fun p5 w2 f2 => fStoreA f2 0 rfl (fun w3 f3 => ?_) rfl (fun x hx => ?_))
    · have f3 : Fr w1 w3 [sIt p5 [.int .i64 T[k].1, T[k].2.1]] := f3
      refine fLoad_v f3 0 1 rfl rfl (gLen_nm ((hb _ hm).ev (h1.trans f3.old)) ⟨⟨k + 1, by rw [i64_id (by omega) (by omega)]; omega, hkl, ?_, h1.trans f3.old⟩, by dsimp only; rw [i64_id (n := (k : Int) + 1) (by omega) (by omega)]; omega⟩)
      rw [htk, i64_id (by omega) (by omega)]; omega
    · simp at hx
      rcases hx with rfl | rfl
      · rfl
      · obtain ⟨a, c, he, _⟩ := (hb _ hm).shape
        rw [he]; rfl
  · obtain rfl : k = T.length := by omega
    rw [List.take_length]
    exact ⟨rfl, h1⟩
def AllE (w : World) (r : List (Int × List Int) × Bool) (e : Ending) (w' : World) : Prop := ∃ v T, e = .returned (.tuple #[v, .bool r.2]) ∧ T.map pkp = r.1 ∧ Fr w w' (pkF v T)
theorem all_any {p : Value} {us : List Value} {xss : List (List Int)} (hp : Sl w 1 p us.length us) (hl : us.length = xss.length) (hu : ∀ (i : Nat) (u : Value) (xs : List Int), us[i]? = some u → xss[i]? = some xs → Nm .i32 w u xs)
    (h8 : us.length ≤ 8) (hne : ∀ xs ∈ xss, xs ≠ []) (hb : ∀ xs ∈ xss, xs.length ≤ 1048576) (heq : ∀ xs ∈ xss, ∀ ys ∈ xss, xs.length = ys.length) : Calls P n_audio_all #[p] w (AllE w (allI xss)) := by
  have hnm : ∀ {k : Nat} (hk : k < us.length), Nm .i32 w us[k] (xss[k]'(by omega)) := fun {k} hk => hu k _ _ (by simp [hk]) (by simp [show k < xss.length by omega])
  have hT8 : ∀ {T : List Pk} {r : List (Int × List Int)}, T.map pkp = r → r.length ≤ 8 → (∀ u ∈ r, u.2.length ≤ 1000000000) → T.length ≤ 1000 ∧ ∀ u ∈ T, u.2.2.length ≤ 1000000000 := fun {T r} h h1 h2 => by
    have hlen := congrArg List.length h
    rw [List.length_map] at hlen
    exact ⟨by omega, fun u hu => h2 (pkp u) (by rw [← h]; exact List.mem_map.2 ⟨u, hu, rfl⟩)⟩
  have hpl : ∀ u ∈ xss.map pkT, u.2.length ≤ 1000000000 := fun u hu => by
    obtain ⟨xs, hx, rfl⟩ := List.mem_map.1 hu
    have := pkT_len (hb xs hx)
    have := hb xs hx; omega
  refine of_audio_all (gLen_slv hp ⟨fun plain i w' => ∃ (k : Nat) (T : List Pk), i = (k : Int) ∧ k ≤ us.length ∧ T.map pkp = (xss.take k).map pkT ∧ Fr w w' (pkF plain T), fun _ i _ => (us.length - i).toNat, ⟨0, [], rfl, Nat.zero_le _, rfl, (Fr.start w).nilR eP 2⟩, ?_⟩)
  rintro _ plain i w1 ⟨k, T, rfl, hk, hT, f1⟩
  have hTl : T.length = k := by have := congrArg List.length hT; simp only [List.length_map, List.length_take] at this; omega
  refine gIf_dec (fun hlt => ?_) (fun hge => ?_)
  · have hkl : k < us.length := by omega
    have hkx : k < xss.length := by omega
    refine gIdx_1 (hp.ev f1.old) (by omega) (by omega) fun a u hua hc _ => gLoad_v hc ?_
    have hue : u = us[k] := by
      rw [Int.toNat_natCast, List.getElem?_eq_getElem hkl] at hua; injection hua with hua; exact hua.symm
    subst hue
    refine gCall_of (packed_any ((hnm hkl).ev f1.old) (hne _ (List.getElem_mem hkx)) (hb _ (List.getElem_mem hkx))) ?_
    rintro _ w2 ⟨v, rfl, h2, o2⟩
    refine ⟨_, _, rfl, pk_step (f1.newO h2 o2) (by omega) fun out' w4 f4 => ⟨⟨k + 1, _, by rw [i64_id (by omega) (by omega)]; omega, hkl, ?_, f4⟩, by dsimp only; rw [i64_id (by omega) (by omega)]; omega⟩⟩
    rw [List.take_succ_eq_append_getElem hkx, List.map_append, List.map_append, hT]; rfl
  · obtain rfl : k = us.length := by omega
    rw [hl, List.take_length] at hT
    refine gLen_slv (hp.ev f1.old) (gIf_neq (fun h2 => ?_) (fun h2 => ?_))
    · have e : allI xss = (xss.map pkT, false) := by unfold allI; rw [if_pos (by omega)]
      rw [e]
      exact ⟨plain, T, rfl, hT, f1⟩
    · have h2' : us.length = 2 := by omega
      obtain ⟨x0, hx0⟩ : ∃ x0, x0 = xss[0]'(by omega) := ⟨_, rfl⟩
      obtain ⟨x1, hx1⟩ : ∃ x1, x1 = xss[1]'(by omega) := ⟨_, rfl⟩
      have g0 : xss.getD 0 [] = x0 := by rw [List.getD_eq_getElem?_getD, List.getElem?_eq_getElem (by omega), hx0]; rfl
      have g1 : xss.getD 1 [] = x1 := by rw [List.getD_eq_getElem?_getD, List.getElem?_eq_getElem (by omega), hx1]; rfl
      have m0 : x0 ∈ xss := by rw [hx0]; exact List.getElem_mem _
      have m1 : x1 ∈ xss := by rw [hx1]; exact List.getElem_mem _
      have n0 := hnm (k := 0) (by omega)
      have n1 := hnm (k := 1) (by omega)
      rw [← hx0] at n0
      rw [← hx1] at n1
      have hb0 := hb x0 m0
      have hmne : midL x0 x1 ≠ [] := fun h => hne x0 m0 (List.length_eq_zero_iff.1 (by have := congrArg List.length h; unfold midL at this; rw [tab_len] at this; exact this))
      have hsne : sideL x0 x1 ≠ [] := fun h => hne x0 m0 (List.length_eq_zero_iff.1 (by have := congrArg List.length h; unfold sideL at this; rw [tab_len] at this; exact this))
      have hml : (midL x0 x1).length ≤ 1048576 := by unfold midL; rw [tab_len]; exact hb0
      have hsl : (sideL x0 x1).length ≤ 1048576 := by unfold sideL; rw [tab_len]; exact hb0
      have elem : ∀ {k : Nat} (hk : k < us.length) {K : Value → Prop}, K us[k] → gIdx P t_sl_sl_int32 p (.int .i64 (k : Int)) fun ad => gLoadB P t_sl_int32 shV (.pointer (some ad)) (fun w' => Ev w w') K := fun {k} hk {K} h => by
        refine gIdx_1 hp (by omega) (by omega) fun a u hua hc _ => gLoadB_v (fun w' hw => Ch.cell hw hc fun h => h) ?_
        have hue : u = us[k] := by
          rw [Int.toNat_natCast, List.getElem?_eq_getElem hk] at hua; injection hua with hua; exact hua.symm
        rw [hue]; exact h
      refine ⟨fun w' => Ev w w', f1.drew.old, elem (k := 0) (by omega) (elem (k := 1) (by omega) (gCall_of (Mid_any (n0.ev f1.drew.old) (n1.ev f1.drew.old) (heq x0 m0 x1 m1) (by omega)) ?_))⟩
      rintro _ w5 ⟨a, b, rfl, g5⟩
      have f5 := f1.drew.glue g5
      have f5 : Fr w w5 (oIt .i32 eI b (sideL x0 x1) :: oIt .i32 eI a (midL x0 x1) :: pkF plain T) := f5
      refine ⟨_, _, _, rfl, f5.old, gCall_of (packed_any (f5.nm 1 rfl) hmne hml) ?_⟩
      rintro _ w6 ⟨v1, rfl, h6, o6⟩
      have f6 := f5.newO h6 o6
      refine ⟨_, _, rfl, gCall_of (packed_any (f6.nm 1 rfl) hsne hsl) ?_⟩
      rintro _ w7 ⟨v2, rfl, h7, o7⟩
      have f7 := ((f6.newO h7 o7).nilR eP 2)
      have f7 : Fr w w7 (rIt eP 2 (.slice none 0 0) 0 [] :: oIt .u8 eB v2 (pkT (sideL x0 x1)).2 :: oIt .u8 eB v1 (pkT (midL x0 x1)).2 :: oIt .i32 eI b (sideL x0 x1) :: oIt .i32 eI a (midL x0 x1) :: pkF plain T) := f7
      have oc1 : v1.oneCell' = true := by obtain ⟨a, c, rfl, _⟩ := (f7.nm 2 rfl).shape; rfl
      have oc2 : v2.oneCell' = true := by obtain ⟨a, c, rfl, _⟩ := (f7.nm 1 rfl).shape; rfl
      refine ⟨_, _, rfl, fLit_sz 2 [[.int .i64 (pkT (midL x0 x1)).1, v1], [.int .i64 (pkT (sideL x0 x1)).1, v2]] f7 rfl rfl (fun v hv => by simp at hv; rcases hv with rfl | rfl <;> rfl) (fun ad w8 f8 => ?_) (by decide) (by kernel_rfl) (by decide +kernel)⟩
      refine fAppR 40 (m := 2) f8 1 rfl (Sl.of_cells (f8.get 0 rfl) rfl) (fun x hx => ?_) (by omega) (by unfold maxLen; omega) (fun t44 w9 f9 => ?_) (by kernel_rfl)
      · simp at hx; rcases hx with rfl | rfl | rfl | rfl
        · rfl
        · exact oc1
        · rfl
        · exact oc2
      obtain ⟨M, hM⟩ : ∃ M : List Pk, M = [((pkT (midL x0 x1)).1, v1, (pkT (midL x0 x1)).2), ((pkT (sideL x0 x1)).1, v2, (pkT (sideL x0 x1)).2)] := ⟨_, rfl⟩
      have f9 := f9.drop 0
      have f9 : Fr w w9 (pkF t44 M ++ (oIt .i32 eI b (sideL x0 x1) :: oIt .i32 eI a (midL x0 x1) :: pkF plain T)) := by rw [hM]; exact f9
      have hMp : M.map pkp = [pkT (midL x0 x1), pkT (sideL x0 x1)] := by rw [hM]; rfl
      have fM : Fr w w9 (pkF t44 M) := by
        have := f9.picks (List.range (pkF t44 M).length) List.nodup_range
        have e : ((List.range (pkF t44 M).length).filterMap fun i => (pkF t44 M ++ (oIt .i32 eI b (sideL x0 x1) :: oIt .i32 eI a (midL x0 x1) :: pkF plain T))[i]?) = pkF t44 M := by rw [hM]; rfl
        rw [e] at this; exact this
      have fT : Fr w w9 (pkF plain T) := by
        have := f9.dropN 5
        rw [hM] at this; exact this
      have bM := hT8 hMp (by simp) (fun u hu => by
        simp only [List.mem_cons, List.not_mem_nil, or_false] at hu
        rcases hu with rfl | rfl
        · have := pkT_len hml; omega
        · have := pkT_len hsl; omega)
      have bT := hT8 hT (by rw [List.length_map]; omega) hpl
      obtain ⟨s1, s2⟩ := pk_at fM
      obtain ⟨s3, s4⟩ := pk_at fT
      refine gCall_i (size_any s1 s2 bM.1 bM.2) fun w10 h10 => gCall_i (size_any (s3.ev h10) (fun u hu => (s4 u hu).ev h10) bT.1 bT.2) fun w11 h11 => ?_
      rw [hMp, hT]
      refine gIf_dec (fun hlt => ?_) (fun hge => ?_)
      · have e : allI xss = ([pkT (midL x0 x1), pkT (sideL x0 x1)], true) := by unfold allI; rw [if_neg (by omega), g0, g1, if_pos (by omega)]
        rw [e]
        exact ⟨t44, M, rfl, hMp, (fM.ev h10).ev h11⟩
      · have e : allI xss = (xss.map pkT, false) := by unfold allI; rw [if_neg (by omega), g0, g1, if_neg (by omega)]
        rw [e]
        exact ⟨plain, T, rfl, hT, (fT.ev h10).ev h11⟩
end
end Go.Proofs.YtilpoinhfiajcaaGreatDoorV

/- Where a WAV file's samples are: no program in sight. -/
namespace Go.Proofs.YtilpoinhfiajcaaGreatDoorV
open Go Go.RowKit
def fldW (xs : List Int) (a n : Nat) : Int := leN ((xs.drop a).take n)
theorem leN_rg : ∀ {l : List Int}, (∀ x ∈ l, 0 ≤ x ∧ x < 256) → 0 ≤ leN l ∧ leN l < ((2 ^ (8 * l.length) : Nat) : Int)
  | [], _ => by simp [leN]
  | c :: r, h => by
    have h1 := leN_rg (l := r) fun x hx => h x (List.mem_cons_of_mem _ hx)
    have h2 := h c List.mem_cons_self
    have e : 2 ^ (8 * (c :: r).length) = 256 * 2 ^ (8 * r.length) := by rw [List.length_cons, show 8 * (r.length + 1) = 8 + 8 * r.length by omega, Nat.pow_add]
    rw [leN, e]
    generalize 2 ^ (8 * r.length) = z at *
    omega
theorem u8_of {xs : List Int} (h : inR .u8 xs) : ∀ x ∈ xs, 0 ≤ x ∧ x < 256 := fun x hx => by
  have := h x hx
  have h1 : IntKind.u8.min = 0 := by decide
  have h2 : IntKind.u8.max = 255 := by decide
  omega
theorem fldW_rg {xs : List Int} (h : inR .u8 xs) (a n : Nat) (hn : n ≤ 4) : 0 ≤ fldW xs a n ∧ fldW xs a n < 4294967296 := by
  have h1 := leN_rg (l := (xs.drop a).take n) fun x hx => u8_of h x (List.mem_of_mem_drop (List.mem_of_mem_take hx))
  have h2 : ((xs.drop a).take n).length ≤ 4 := by rw [List.length_take]; omega
  have h3 : 2 ^ (8 * ((xs.drop a).take n).length) ≤ 2 ^ 32 := Nat.pow_le_pow_right (by omega) (by omega)
  have h4 : (2 : Nat) ^ 32 = 4294967296 := by decide
  unfold fldW
  omega
theorem fldW2_rg {xs : List Int} (h : inR .u8 xs) (a : Nat) : 0 ≤ fldW xs a 2 ∧ fldW xs a 2 < 65536 := by
  have h1 := leN_rg (l := (xs.drop a).take 2) fun x hx => u8_of h x (List.mem_of_mem_drop (List.mem_of_mem_take hx))
  have h2 : ((xs.drop a).take 2).length ≤ 2 := by rw [List.length_take]; omega
  have h3 : 2 ^ (8 * ((xs.drop a).take 2).length) ≤ 2 ^ 16 := Nat.pow_le_pow_right (by omega) (by omega)
  have h4 : (2 : Nat) ^ 16 = 65536 := by decide
  unfold fldW
  omega
/-- A file's measures. -/
structure Wv where
  ch : Int
  bits : Int
  fr : Int
  to : Int
def Wv.c (p : Wv) : List Value := [.int .i64 p.ch, .int .i64 p.bits, .int .i64 p.fr, .int .i64 p.to]
def Wv.z : Wv := ⟨0, 0, 0, 0⟩
def noW : Wv × Bool := (Wv.z, false)
def frameW (ch bits : Int) : Int := if ch < 1 ∨ ch > 8 ∨ (bits ≠ 8 ∧ bits ≠ 16) then 0 else ch * bits / 8
def fmtN : List Int := [102, 109, 116, 32]
def datN : List Int := [100, 97, 116, 97]
def riffN : List Int := [82, 73, 70, 70]
def waveN : List Int := [87, 65, 86, 69]
def nameW (xs : List Int) (a : Nat) : List Int := (xs.drop a).take 4
def sizeW (xs : List Int) (a : Nat) : Nat := (fldW xs (a + 4) 4).toNat
def minW (xs : List Int) (a : Nat) : Nat := (if sizeW xs a < xs.length - (a + 8) then sizeW xs a else xs.length - (a + 8))
def foundW (xs : List Int) (a : Nat) (pcm : Bool) (ch bits : Int) : Wv × Bool :=
  if pcm = true ∧ frameW ch bits ≠ 0 ∧ ¬ ((minW xs a : Int) < frameW ch bits) then (⟨ch, bits, (a + 8 : Nat), ((a + 8 : Nat) : Int) + (minW xs a : Int) / frameW ch bits * frameW ch bits⟩, true) else noW
def isFmt (xs : List Int) (a : Nat) (has : Bool) : Prop := nameW xs a = fmtN ∧ has = false ∧ 16 ≤ sizeW xs a ∧ a + 24 ≤ xs.length
instance (xs : List Int) (a : Nat) (has : Bool) : Decidable (isFmt xs a has) := by unfold isFmt; infer_instance
def skipW (xs : List Int) (a : Nat) : Nat := sizeW xs a + sizeW xs a % 2
def goW (xs : List Int) : Nat → Nat → Bool → Bool → Int → Int → Wv × Bool
  | 0, _, _, _, _, _ => noW
  | f + 1, a, has, pcm, ch, bits =>
    if xs.length < a + 8 then noW
    else if isFmt xs a has then (if skipW xs a > xs.length - (a + 8) then noW else goW xs f (a + 8 + skipW xs a) true (decide (fldW xs (a + 8) 2 = 1)) (fldW xs (a + 10) 2) (fldW xs (a + 22) 2))
    else if nameW xs a = datN ∧ has = true then foundW xs a pcm ch bits
    else if skipW xs a > xs.length - (a + 8) then noW else goW xs f (a + 8 + skipW xs a) has pcm ch bits
def parseW (xs : List Int) : Wv × Bool := if xs.length < 12 ∨ nameW xs 0 ≠ riffN ∨ nameW xs 8 ≠ waveN then noW else goW xs (xs.length + 1) 12 false false 0 0
/-- What is told lies within the bytes. -/
def InW (p : Wv) (n : Nat) : Prop := 1 ≤ p.ch ∧ p.ch ≤ 8 ∧ (p.bits = 8 ∨ p.bits = 16) ∧ 0 ≤ p.fr ∧ p.fr ≤ p.to ∧ p.to ≤ n ∧ (p.to - p.fr) % (p.ch * p.bits / 8) = 0 ∧ p.fr < p.to
theorem frameW_pos {ch bits : Int} (h : frameW ch bits ≠ 0) : 1 ≤ ch ∧ ch ≤ 8 ∧ (bits = 8 ∨ bits = 16) ∧ frameW ch bits = ch * bits / 8 ∧ 1 ≤ frameW ch bits := by
  unfold frameW at h ⊢
  split at h
  · exact (h rfl).elim
  · rename_i hc
    rw [if_neg hc]
    refine ⟨by omega, by omega, by omega, rfl, ?_⟩
    have : bits = 8 ∨ bits = 16 := by omega
    rcases this with rfl | rfl <;> omega
theorem foundW_in {xs : List Int} {a : Nat} {pcm : Bool} {ch bits : Int} (ha : a + 8 ≤ xs.length) (h : (foundW xs a pcm ch bits).2 = true) : InW (foundW xs a pcm ch bits).1 xs.length := by
  unfold foundW at h ⊢
  split at h
  · rename_i hc
    rw [if_pos hc]
    obtain ⟨h1, h2, h3, h4, h5⟩ := frameW_pos hc.2.1
    have h6 := hc.2.2
    have hm : minW xs a ≤ xs.length - (a + 8) := by unfold minW; split <;> omega
    generalize frameW ch bits = fr at *
    have h7 : (minW xs a : Int) / fr * fr ≤ (minW xs a : Int) := Int.ediv_mul_le _ (by omega)
    have h8 : 1 ≤ (minW xs a : Int) / fr := Int.le_ediv_of_mul_le (by omega) (by omega)
    have h9 : 1 * 1 ≤ (minW xs a : Int) / fr * fr := Int.mul_le_mul h8 h5 (by omega) (by omega)
    refine ⟨h1, h2, h3, by dsimp only; omega, by dsimp only; omega, by dsimp only; omega, ?_, by dsimp only; omega⟩
    dsimp only
    rw [← h4, show ∀ x y : Int, x + y - x = y by intros; omega]
    exact Int.mul_emod_left _ _
  · cases h
theorem goW_in {xs : List Int} : ∀ (f a : Nat) (has pcm : Bool) (ch bits : Int), (goW xs f a has pcm ch bits).2 = true → InW (goW xs f a has pcm ch bits).1 xs.length
  | 0, _, _, _, _, _, h => by cases h
  | f + 1, a, has, pcm, ch, bits, h => by
    rw [goW] at h ⊢
    split at h
    · cases h
    rename_i h0
    rw [if_neg h0]
    split at h
    · rename_i h1
      rw [if_pos h1]
      split at h
      · cases h
      · rename_i h2
        rw [if_neg h2]; exact goW_in f _ _ _ _ _ h
    · rename_i h1
      rw [if_neg h1]
      split at h
      · rename_i h2
        rw [if_pos h2]; exact foundW_in (by omega) h
      · rename_i h2
        rw [if_neg h2]
        split at h
        · cases h
        · rename_i h3
          rw [if_neg h3]; exact goW_in f _ _ _ _ _ h
theorem parseW_in {xs : List Int} (h : (parseW xs).2 = true) : InW (parseW xs).1 xs.length := by
  unfold parseW at h ⊢
  split at h
  · cases h
  · rename_i hc
    rw [if_neg hc]; exact goW_in _ _ _ _ _ _ h
end Go.Proofs.YtilpoinhfiajcaaGreatDoorV

/- Package wav: chunks, frames. -/
namespace Go.Proofs.YtilpoinhfiajcaaGreatDoorV
open Go Go.RowKit
def WavE (w : World) (r : Wv × Bool) (e : Ending) (w' : World) : Prop := e = .returned (.tuple #[.agg r.1.c.toArray, .bool r.2]) ∧ Ev w w'
theorem rawR_at {xs : List Int} {a n : Nat} (h : a + n ≤ xs.length) : rawR xs a 0 (n : Int) = ((xs.drop a).take n, a + n, 0) := by
  unfold rawR
  by_cases hn : n = 0
  · subst hn; rw [if_pos (.inr (by omega))]; simp
  · rw [if_neg (by omega), if_neg (by omega), Int.toNat_natCast]
theorem fldW_sub {xs : List Int} {p q n m : Nat} (h : q + n ≤ m) : fldW ((xs.drop p).take m) q n = fldW xs (p + q) n := by
  unfold fldW
  rw [List.drop_take, List.take_take, List.drop_drop, show min n (m - q) = n by omega]
section
variable {w0 w : World} {F G : List It} {xs : List Int} {ad c : Addr} {y : Value} {a : Nat}
theorem gCall_wav {f : FuncId} {args : Array Value} {r : Wv × Bool} {K : Int → Int → Int → Int → Bool → World → Prop} (h : Calls P f args w (WavE w r)) (hk : ∀ w', Ev w w' → K r.1.ch r.1.bits r.1.fr r.1.to r.2 w') :
    gCall P f (.tup [.agg [.int .i64, .int .i64, .int .i64, .int .i64], .one .bool]) args w K :=
  gCall_of h fun _ w' ⟨h1, h2⟩ => ⟨_, _, _, _, _, h1, hk w' h2⟩
theorem fWv {ad : Addr} {K : Int → Int → Int → Int → Prop} (p : Wv) (h : Fr w0 w F) (i : Nat) (hi : F[i]? = some (sIt ad p.c)) (hk : K p.ch p.bits p.fr p.to) : gLoad P t_api_Wav (.part (.agg [.int .i64, .int .i64, .int .i64, .int .i64])) (.pointer (some ad)) w K :=
  fLoadA h i hi hk rfl (by kernel_rfl)
theorem fWvNew {K : Addr → World → Prop} (h : Fr w0 w F) (hk : ∀ ad w', Fr w0 w' (sIt ad Wv.z.c :: F) → K ad w') : gAlloc P t_api_Wav w K :=
  fAlloc (z := .agg #[.int .i64 0, .int .i64 0, .int .i64 0, .int .i64 0]) h (by kernel_rfl) hk
theorem fWvSet {ad : Addr} {a b c d : Int} {cs : List Value} {K : World → Prop} (h : Fr w0 w F) (i : Nat) (hi : F[i]? = some (sIt ad cs)) (hl : cs.length = 4) (hk : ∀ w', Fr w0 w' (F.set i (sIt ad (Wv.mk a b c d).c)) → K w') : gStore P t_api_Wav (.pointer (some ad)) (.agg #[.int .i64 a, .int .i64 b, .int .i64 c, .int .i64 d]) w K :=
  fStoreA h i hi hk (by rw [hl]; rfl)
theorem fWvEnd {ad : Addr} {r : Wv × Bool} {cs : List Value} (h : Fr w0 w F) (i : Nat) (hi : F[i]? = some (sIt ad cs)) (hl : cs.length = 4) {R : Ending → World → Prop} (hR : R = WavE w0 r) :
    gStore P t_api_Wav (.pointer (some ad)) (.agg #[.int .i64 r.1.ch, .int .i64 r.1.bits, .int .i64 r.1.fr, .int .i64 r.1.to]) w fun ww => gLoad P t_api_Wav (.part (.agg [.int .i64, .int .i64, .int .i64, .int .i64])) (.pointer (some ad)) ww fun (r0_0 : Int) (r0_1 : Int) (r0_2 : Int) (r0_3 : Int) => R (.returned (.tuple #[.agg #[.int .i64 r0_0, .int .i64 r0_1, .int .i64 r0_2, .int .i64 r0_3], .bool r.2])) ww := by
  subst hR
  refine fWvSet h i hi hl fun w3 f3 => fWv r.1 f3 i ?_ ⟨rfl, f3.old⟩
  have hlt := (List.getElem?_eq_some_iff.1 hi).1
  rw [List.getElem?_set_self hlt]
/-! ### Readers -/
theorem fLeftR {K : Int → World → Prop} (f : Fr w0 w (sIt ad [y, .int .i64 a, .int .i64 0] :: oIt .u8 eB y xs :: F)) (ha : a ≤ xs.length) (hl : xs.length ≤ 1000000000) (hk : ∀ w', Fr w0 w' (sIt ad [y, .int .i64 a, .int .i64 0] :: oIt .u8 eB y xs :: F) → K ((xs.length : Int) - a) w') : gCall P n_num_Reader_Left (shI .i64) #[.pointer (some ad)] w K :=
  gCall_i (rLeft_any (f.rd 0 1 rfl rfl (by decide) ha (by omega))) fun w' h => hk w' (f.ev h)
theorem fLittleR {n : Nat} {K : Int → World → Prop} (f : Fr w0 w (sIt ad [y, .int .i64 a, .int .i64 0] :: oIt .u8 eB y xs :: F)) (h : a + n ≤ xs.length) (h8 : n ≤ 8) (hl : xs.length ≤ 1000000000) (hk : ∀ w', Fr w0 w' (sIt ad [y, .int .i64 ((a + n : Nat) : Int), .int .i64 0] :: oIt .u8 eB y xs :: F) → K (fldW xs a n) w') :
    gCall P n_num_Reader_Little (shI .u64) #[.pointer (some ad), .int .i64 (n : Int)] w K := by
  have hr := rLittle_any (n := (n : Int)) (f.rd 0 1 rfl rfl (by decide) (by omega) (by omega))
  rw [if_neg (show ¬ ((8 : Int) < (n : Int)) by omega), rawR_at h] at hr
  exact gCall_i hr fun w' h => hk w' (f.rs 0 rfl h)
theorem fRawA {n : Nat} {K : Value → World → Prop} (f : Fr w0 w (sIt ad [y, .int .i64 a, .int .i64 0] :: oIt .u8 eB y xs :: F)) (h : a + n ≤ xs.length) (hl : xs.length ≤ 1000000000) (hk : ∀ z w', Fr w0 w' (sIt ad [y, .int .i64 ((a + n : Nat) : Int), .int .i64 0] :: oIt .u8 eB y xs :: oIt .u8 eB z ((xs.drop a).take n) :: F) → K z w') :
    gCall P n_num_Reader_Raw shV #[.pointer (some ad), .int .i64 (n : Int)] w K := by
  refine fRawR (n := (n : Int)) f (by omega) (by omega) (by omega) fun z w' f' => hk z w' ?_
  rw [rawR_at h] at f'; exact f'
theorem frameW_any {ch bits p q : Int} (h1 : -70000 ≤ ch ∧ ch ≤ 70000) (h2 : -70000 ≤ bits ∧ bits ≤ 70000) : Calls P n_wav_frame #[.agg #[.int .i64 ch, .int .i64 bits, .int .i64 p, .int .i64 q]] w (fun e w' => e = .returned (.int .i64 (frameW ch bits)) ∧ Ev w w') := by
  refine of_wav_frame (fBox (Fr.start w) fun w1 ww f => ?_)
  have f : Fr w ww [sIt w1 (Wv.mk ch bits p q).c] := f
  refine ⟨fun w' => ¬ (ch < 1 ∨ ch > 8 ∨ (bits ≠ 8 ∧ bits ≠ 16)) ∧ w' = ww, fLoad_i (n := ch) f 0 0 rfl rfl (gIf_ndec (fun h3 => fLoad_i (n := ch) f 0 0 rfl rfl (gIf_ndec (fun h4 => fLoad_i (n := bits) f 0 1 rfl rfl (gIf_neq (fun h5 => fLoad_i (n := bits) f 0 1 rfl rfl (gIf_neq (fun h6 => ⟨?_, f.old⟩) (fun h6 => ⟨by omega, rfl⟩))) (fun h5 => ⟨by omega, rfl⟩))) (fun h4 => ⟨?_, f.old⟩))) (fun h3 => ⟨?_, f.old⟩)), ?_⟩
  · unfold frameW; rw [if_pos (by omega)]
  · unfold frameW; rw [if_pos (by omega)]
  · unfold frameW; rw [if_pos (by omega)]
  rintro _ w2 ⟨hok, hw⟩
  obtain rfl : ww = w2 := hw.symm
  refine fLoad_i (n := ch) f 0 0 rfl rfl (fLoad_i (n := bits) f 0 1 rfl rfl ⟨?_, f.old⟩)
  have e : frameW ch bits = ch * bits / 8 := by unfold frameW; rw [if_neg hok]
  have hb : bits = 8 ∨ bits = 16 := by omega
  have hm : i64 (Int.tdiv (i64 (ch * bits)) 8) = ch * bits / 8 := by
    rcases hb with rfl | rfl
    · rw [i64_id (n := ch * 8) (by omega) (by omega), Int.tdiv_eq_ediv_of_nonneg (by omega), i64_id (by omega) (by omega)]
    · rw [i64_id (n := ch * 16) (by omega) (by omega), Int.tdiv_eq_ediv_of_nonneg (by omega), i64_id (by omega) (by omega)]
  rw [hm, e]
/-- A reader, and what goes through chunks. -/
noncomputable def chF (ad c : Addr) (y : Value) (xs : List Int) (a : Nat) (G : List It) : List It := sIt ad [y, .int .i64 a, .int .i64 0] :: oIt .u8 eB y xs :: sIt c [.pointer (some ad), .int .i64 (xs.length : Int)] :: G
def NextE (w0 : World) (ad c : Addr) (y : Value) (xs : List Int) (a : Nat) (G : List It) (e : Ending) (w' : World) : Prop :=
  (xs.length < a + 8 ∧ e = .returned (.tuple #[.string ⟨#[]⟩, .int .i64 0, .int .i64 0, .bool false]) ∧ Fr w0 w' (chF ad c y xs a G)) ∨
  (a + 8 ≤ xs.length ∧ e = .returned (.tuple #[.string (bsOf (nameW xs a)), .int .i64 ((a + 8 : Nat) : Int), .int .i64 ((a + 8 + sizeW xs a : Nat) : Int), .bool true]) ∧ Fr w0 w' (chF ad c y xs (a + 8) G))
theorem nextW_any (f : Fr w0 w (chF ad c y xs a G)) (ha : a ≤ xs.length) (hl : xs.length ≤ 1000000000) : Calls P n_wav_chunks_next #[.pointer (some c)] w (NextE w0 ad c y xs a G) := by
  have hx : inR .u8 xs := (f.nm 1 rfl).2
  refine of_wav_chunks_next (gNil_some ?_)
  refine gLoad_p (v := some ad) (f.cell 2 0 rfl rfl) (fLeftR f ha hl fun w1 f1 => gIf_dec (fun hlt => .inl ⟨by omega, rfl, f1⟩) (fun hge => gNil_some (gLoad_p (v := some ad) (f1.cell 2 0 rfl rfl) (fRawA (n := 4) f1 (by omega) hl fun z w2 f2 => ?_))))
  refine gConv_bs (f2.nm 2 rfl) (gNil_some (gLoad_p (v := some ad) (f2.cell 3 0 rfl rfl) (fLittleR (n := 4) f2 (by omega) (by omega) hl fun w3 f3 => ?_)))
  have f3 : Fr w0 w3 (chF ad c y xs (a + 8) G) := by
    have := f3.drop 2
    exact this
  refine ⟨fun w' => ∃ w, Fr w0 w (chF ad c y xs (a + 8) G) ∧ w' = w, ⟨_, f3.drew, rfl⟩, gNil_some (gLoadB_i (n := (xs.length : Int)) (fun w' ⟨w, g, e⟩ => by subst e; exact g.cell 2 1 rfl rfl) (gNil_some (gLoadB_p (v := some ad) (fun w' ⟨w, g, e⟩ => by subst e; exact g.cell 2 0 rfl rfl) (fLeftR f3.drew (by omega) hl fun w4 f4 => ⟨⟨_, f4, rfl⟩, .inr ⟨by omega, ?_, f4⟩⟩))))⟩
  have hs := fldW_rg hx (a + 4) 4 (by omega)
  have hsz : ((sizeW xs a : Nat) : Int) = fldW xs (a + 4) 4 := by unfold sizeW; omega
  rw [i64_id (n := (xs.length : Int) - ((xs.length : Int) - ((a + 8 : Nat) : Int))) (by omega) (by omega), i64_id (n := fldW xs (a + 4) 4) (by omega) (by omega), ← hsz, show (xs.length : Int) - ((xs.length : Int) - ((a + 8 : Nat) : Int)) = ((a + 8 : Nat) : Int) by omega, i64_id (n := ((a + 8 : Nat) : Int) + ((sizeW xs a : Nat) : Int)) (by omega) (by omega)]
  rfl
def SkipE (w0 : World) (ad c : Addr) (y : Value) (xs : List Int) (a : Nat) (G : List It) (e : Ending) (w' : World) : Prop :=
  (skipW xs a > xs.length - (a + 8) ∧ e = .returned (.bool false) ∧ Fr w0 w' (chF ad c y xs (a + 8) G)) ∨
  (skipW xs a ≤ xs.length - (a + 8) ∧ e = .returned (.bool true) ∧ Fr w0 w' (chF ad c y xs (a + 8 + skipW xs a) G))
theorem skipW_any (f : Fr w0 w (chF ad c y xs (a + 8) G)) (ha : a + 8 ≤ xs.length) (hl : xs.length ≤ 1000000000) : Calls P n_wav_chunks_skip #[.pointer (some c), .int .i64 ((a + 8 : Nat) : Int), .int .i64 ((a + 8 + sizeW xs a : Nat) : Int)] w (SkipE w0 ad c y xs a G) := by
  have hx : inR .u8 xs := (f.nm 1 rfl).2
  have hs := fldW_rg hx (a + 4) 4 (by omega)
  have hsz : ((sizeW xs a : Nat) : Int) = fldW xs (a + 4) 4 := by unfold sizeW; omega
  have hn : i64 (i64 (((a + 8 + sizeW xs a : Nat) : Int) - ((a + 8 : Nat) : Int)) + Int.tmod (i64 (((a + 8 + sizeW xs a : Nat) : Int) - ((a + 8 : Nat) : Int))) 2) = ((skipW xs a : Nat) : Int) := by
    rw [show ((a + 8 + sizeW xs a : Nat) : Int) - ((a + 8 : Nat) : Int) = ((sizeW xs a : Nat) : Int) by omega, i64_id (n := ((sizeW xs a : Nat) : Int)) (by omega) (by omega), Int.tmod_eq_emod_of_nonneg (by omega), i64_id (by omega) (by omega)]
    unfold skipW; omega
  refine of_wav_chunks_skip ?_
  rw [hn]
  refine gNil_some (gLoad_p (v := some ad) (f.cell 2 0 rfl rfl) (fLeftR f ha hl fun w1 f1 => gIf_dec (fun hlt => .inl ⟨by omega, rfl, f1⟩) (fun hge => gNil_some (gLoad_p (v := some ad) (f1.cell 2 0 rfl rfl) (fRawA (n := skipW xs a) f1 (by omega) hl fun z w2 f2 => .inr ⟨by omega, rfl, f2.drop 2⟩)))))
end
end Go.Proofs.YtilpoinhfiajcaaGreatDoorV
