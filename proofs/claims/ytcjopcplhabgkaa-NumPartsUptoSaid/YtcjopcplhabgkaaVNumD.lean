/- Package num: the reader, second part. -/
import Derived.Test.YtcjopcplhabgkaaVNumC
namespace Go.Proofs.YtcjopcplhabgkaaV
open Go Go.RowKit

theorem lookL_end {xs : List Int} {a : Nat} : ∀ (f n : Nat) (v : Int), (lookL xs a f n v).2.2 = 0 → 0 ≤ v → (a + n : Int) < (lookL xs a f n v).2.1 ∧ (lookL xs a f n v).2.1 ≤ xs.length ∧ 0 ≤ (lookL xs a f n v).1
  | 0, n, v, h, _ => by simp [lookL] at h
  | f + 1, n, v, h, hv => by
    rw [lookL] at h ⊢
    split at h
    · simp at h
    · rename_i h1
      rw [if_neg h1]
      split at h
      · simp at h
      · rename_i h2
        rw [if_neg h2]
        split at h
        · rename_i h3
          rw [if_pos h3]
          split at h
          · simp at h
          · rename_i h4
            rw [if_neg h4]
            exact ⟨by dsimp only; omega, by dsimp only; omega, Int.add_nonneg hv (Int.mul_nonneg (by omega) (Int.natCast_nonneg _))⟩
        · rename_i h3
          rw [if_neg h3]
          have := lookL_end f (n + 1) _ h (Int.add_nonneg hv (Int.mul_nonneg (by omega) (Int.natCast_nonneg _)))
          exact ⟨by omega, this.2⟩
theorem lookI_end {xs : List Int} {a : Nat} (h : (lookI xs a).2.2 = 0) : (a : Int) < (lookI xs a).2.1 ∧ (lookI xs a).2.1 ≤ xs.length ∧ 0 ≤ (lookI xs a).1 := by
  unfold lookI at h ⊢
  have := lookL_end 10 0 0 h (by decide); exact ⟨by simpa using this.1, this.2⟩
theorem RS.pre {w w1 w2 : World} {ad : Addr} {b : Value} {xs : List Int} {a : Nat} {er : Int} (he : Ev w w1) (h : RS w1 w2 ad b xs a er) : RS w w2 ad b xs a er := ⟨h.1, Ch.trans (he.mono fun _ _ _ h => h.elim) h.2 fun _ _ _ h => h⟩
/-- The next number: it, where it ends, and the fault. -/
def numR (xs : List Int) (a : Nat) (er most : Int) : Int × Nat × Int :=
  if er ≠ 0 then (0, a, er)
  else if (lookI xs a).2.2 = 0 ∧ (lookI xs a).1 > most then (0, a, 4)
  else if (lookI xs a).2.2 ≠ 0 then (0, a, (lookI xs a).2.2)
  else ((lookI xs a).1, (lookI xs a).2.1.toNat, 0)
theorem num_any {ad : Addr} {b : Value} {xs : List Int} {a : Nat} {er most : Int} {w : World} (h : Rd w ad b xs a er) : Calls P n_num_Reader_num #[.pointer (some ad), .int .u64 most] w (fun e w' => e = .returned (.int .u64 (numR xs a er most).1) ∧ RS w w' ad b xs (numR xs a er most).2.1 (numR xs a er most).2.2) := by
  refine of_num_Reader_num ⟨fun w' => er = 0 ∧ w' = w, gEq_pnil (gIf_nf (gNil_some (gLoad_i (h.1.cell (j := 2) rfl) (gIf_neq (fun hne => ?_) (fun he => ⟨he, rfl⟩))))), ?_⟩
  · unfold numR; rw [if_pos hne]; exact ⟨rfl, h.step⟩
  rintro _ _ ⟨rfl, rfl⟩
  rename_i w
  have hl := lookI_end (xs := xs) (a := a)
  unfold numR
  rw [if_neg (by simp)]
  refine gCall_of (look_any h) ?_
  rintro _ w1 ⟨rfl, h1⟩
  generalize lookI xs a = r at hl
  obtain ⟨v, a2, e⟩ := r
  dsimp only at hl ⊢
  have hR := h.ev h1
  refine ⟨v, a2, e, rfl, fun e' w' => e' = (if e = 0 ∧ v > most then 4 else e) ∧ w' = w1, ?_, ?_⟩
  · exact gIf_eq (fun e0 => gIf_dec (fun hg => ⟨by rw [if_pos ⟨e0, hg⟩], rfl⟩) (fun hg => ⟨by rw [if_neg (fun hh => hg hh.2)], rfl⟩)) (fun e0 => ⟨by rw [if_neg (fun hh => e0 hh.1)], rfl⟩)
  · rintro _ e' _ ⟨he', rfl⟩
    refine gIf_neq (fun hne => ?_) (fun he0 => ?_)
    · refine gNil_some (gStore_st hR.1 (j := 2) (by simp) rfl rfl fun w2 h2 _ hS2 => ?_)
      have hRS := hR.set (j := 2) (a2 := a) (er2 := e') (by decide) h2 hS2 rfl hR.2.2.2.1
      have : RS w w2 ad b xs a e' := ⟨hRS.1, Ch.trans (h1.mono fun _ _ _ h => h.elim) hRS.2 fun _ _ _ h => h⟩
      by_cases hc : e = 0 ∧ v > most
      · rw [if_pos hc] at he' ⊢; subst he'; exact ⟨rfl, this⟩
      · rw [if_neg hc] at he' ⊢; subst he'; rw [if_pos hne]; exact ⟨rfl, this⟩
    · subst he0
      have hc : ¬ (e = 0 ∧ v > most) := fun hc => by rw [if_pos hc] at he'; cases he'
      rw [if_neg hc] at he' ⊢
      rw [← he'] at hl ⊢
      rw [if_neg (by simp)]
      have hl2 := hl rfl
      refine gNil_some (gStore_st hR.1 (j := 1) (by simp) rfl rfl fun w2 h2 _ hS2 => ⟨rfl, ?_⟩)
      have hRS := hR.set (j := 1) (a2 := a2.toNat) (er2 := 0) (by decide) h2 hS2 (by rw [show ((a2.toNat : Nat) : Int) = a2 by omega]; rfl) (by omega)
      exact ⟨hRS.1, Ch.trans (h1.mono fun _ _ _ h => h.elim) hRS.2 fun _ _ _ h => h⟩
theorem rNum_any {ad : Addr} {b : Value} {xs : List Int} {a : Nat} {er : Int} {w : World} (h : Rd w ad b xs a er) : Calls P n_num_Reader_Num #[.pointer (some ad)] w (fun e w' => e = .returned (.int .u64 (numR xs a er 18446744073709551615).1) ∧ RS w w' ad b xs (numR xs a er 18446744073709551615).2.1 (numR xs a er 18446744073709551615).2.2) :=
  of_num_Reader_Num (gCall_i (num_any h) fun _ h => ⟨rfl, h⟩)
theorem lookL_64 {xs : List Int} {a : Nat} (hx : inR .u8 xs) : ∀ (f n : Nat) (v : Int), f + n = 10 → 0 ≤ v → (n ≤ 9 → v < ((2 ^ (7 * n) : Nat) : Int)) → (lookL xs a f n v).1 < 18446744073709551616
  | 0, n, v, _, _, _ => by simp [lookL]
  | f + 1, n, v, hf, h0, h1 => by
    rw [lookL]
    split
    · simp
    · split
      · simp
      · rename_i hne
        have h3 := h1 (by omega)
        split
        · split
          · simp
          · show v + _ < _
            by_cases h9 : n = 9
            · subst h9
              have := rd_u8 hx ((a + 9 : Nat) : Int)
              have e : ((2 ^ (7 * 9) : Nat) : Int) = 9223372036854775808 := by decide
              rw [e] at h3 ⊢; omega
            · have hq : ((2 ^ (7 * n) : Nat) : Int) ≤ ((72057594037927936 : Nat) : Int) := Int.ofNat_le.2 (pow7_le (n := n) (by omega))
              have : rd xs ((a + n : Nat) : Int) % 128 * ((2 ^ (7 * n) : Nat) : Int) ≤ 127 * ((2 ^ (7 * n) : Nat) : Int) := Int.mul_le_mul_of_nonneg_right (by omega) (by omega)
              omega
        · refine lookL_64 hx f (n + 1) _ (by omega) (Int.add_nonneg h0 (Int.mul_nonneg (by omega) (Int.natCast_nonneg _))) fun h9 => ?_
          rw [show 7 * (n + 1) = 7 * n + 7 by omega, Nat.pow_add]
          have e : ((2 ^ (7 * n) * 2 ^ 7 : Nat) : Int) = ((2 ^ (7 * n) : Nat) : Int) * 128 := by rw [Int.natCast_mul]; rfl
          rw [e]
          have : rd xs ((a + n : Nat) : Int) % 128 * ((2 ^ (7 * n) : Nat) : Int) ≤ 127 * ((2 ^ (7 * n) : Nat) : Int) := Int.mul_le_mul_of_nonneg_right (by omega) (by omega)
          omega
theorem lookI_rng {xs : List Int} {a : Nat} (hx : inR .u8 xs) (h : (lookI xs a).2.2 = 0) : 0 ≤ (lookI xs a).1 ∧ (lookI xs a).1 < 18446744073709551616 := ⟨(lookL_end 10 0 0 h (by decide)).2.2, lookL_64 hx 10 0 0 rfl (by decide) (fun _ => by decide)⟩
theorem numR_rng {xs : List Int} {a : Nat} {er most : Int} (hx : inR .u8 xs) : 0 ≤ (numR xs a er most).1 ∧ (numR xs a er most).1 < 18446744073709551616 := by
  unfold numR
  split
  · simp
  · split
    · simp
    · split
      · simp
      · rename_i h; exact lookI_rng hx (by omega)
theorem numR_most {xs : List Int} {a : Nat} {er most : Int} (hm : 0 ≤ most) : (numR xs a er most).1 ≤ most := by
  unfold numR
  split
  · exact hm
  · split
    · exact hm
    · rename_i h2
      split
      · exact hm
      · rename_i h3; dsimp only; omega
theorem numR_at {xs : List Int} {a : Nat} {er most : Int} (ha : a ≤ xs.length) : a ≤ (numR xs a er most).2.1 ∧ (numR xs a er most).2.1 ≤ xs.length := by
  unfold numR
  split
  · exact ⟨Nat.le_refl _, ha⟩
  · split
    · exact ⟨Nat.le_refl _, ha⟩
    · split
      · exact ⟨Nat.le_refl _, ha⟩
      · rename_i h
        have := lookI_end (xs := xs) (a := a) (by simpa using h)
        dsimp only; omega
theorem rZig_any {ad : Addr} {b : Value} {xs : List Int} {a : Nat} {er : Int} {w : World} (h : Rd w ad b xs a er) : Calls P n_num_Reader_Zig #[.pointer (some ad)] w (fun e w' => e = .returned (.int .i64 (unfoldI (numR xs a er 18446744073709551615).1)) ∧ RS w w' ad b xs (numR xs a er 18446744073709551615).2.1 (numR xs a er 18446744073709551615).2.2) :=
  of_num_Reader_Zig (gCall_i (rNum_any h) fun _ h' => gCall_i0 (Unfold_any (numR_rng h.2.1.2)) ⟨rfl, h'⟩)
/-- The next bytes. -/
def rawR (xs : List Int) (a : Nat) (er n : Int) : List Int × Nat × Int :=
  if er ≠ 0 ∨ n ≤ 0 then ([], a, er) else if n > (xs.length : Int) - a then ([], a, 3) else ((xs.drop a).take n.toNat, a + n.toNat, 0)
def RawE (w : World) (ad : Addr) (b : Value) (xs : List Int) (r : List Int × Nat × Int) (e : Ending) (w' : World) : Prop := ∃ y, e = .returned y ∧ RS w w' ad b xs r.2.1 r.2.2 ∧ ON .u8 eB w' w.heap.size y r.1
theorem rRaw_any {ad : Addr} {b : Value} {xs : List Int} {a : Nat} {er n : Int} {w : World} (h : Rd w ad b xs a er) (hn : n ≤ 9223372036854775807) : Calls P n_num_Reader_Raw #[.pointer (some ad), .int .i64 n] w (RawE w ad b xs (rawR xs a er n)) := by
  have hal := h.2.2.2.1
  have hxl := h.2.2.2.2
  refine of_num_Reader_Raw ⟨fun w' => er = 0 ∧ 0 < n ∧ w' = w, gEq_pnil (gIf_nf (gNil_some (gLoad_i (h.1.cell (j := 2) rfl) (gIf_nneq (fun he => gIf_dec (fun hle => ?_) (fun hgt => ⟨he, by omega, rfl⟩)) (fun hne => ?_))))), ?_⟩
  · unfold rawR; rw [if_pos (.inr hle)]; exact ⟨_, rfl, h.step, ON.nil _ _ _ _⟩
  · unfold rawR; rw [if_pos (.inl hne)]; exact ⟨_, rfl, h.step, ON.nil _ _ _ _⟩
  rintro _ _ ⟨rfl, hn0, rfl⟩
  rename_i w
  unfold rawR
  rw [if_neg (by omega)]
  refine gNil_some (gLoadB_v (at1 (h.1.cell (j := 0) rfl)) (gLen_nm h.2.1 (gNil_some (gLoadB_i (at1 (h.1.cell (j := 1) rfl)) ?_))))
  rw [i64_id (n := (xs.length : Int) - a) (by omega) (by omega)]
  refine gIf_dec (fun hg => ?_) (fun hle => ?_)
  · rw [if_pos hg]
    refine gNil_some (gStore_st h.drew.1 (j := 2) (by simp) rfl rfl fun w2 h2 _ hS2 => ⟨_, rfl, ?_, ON.nil _ _ _ _⟩)
    exact RS.pre (Ev.drew0 w) (h.drew.set (j := 2) (a2 := a) (er2 := 3) (by decide) h2 hS2 rfl hal)
  · rw [if_neg hle]
    obtain ⟨m, rfl⟩ : ∃ m : Nat, n = m := ⟨n.toNat, by omega⟩
    rw [Int.toNat_natCast]
    refine gNil_some (gLoad_i (h.drew.1.cell (j := 1) rfl) (gNil_some (gStore_st h.drew.1 (j := 1) (by simp) rfl rfl fun w2 h2 hs2 hS2 => ?_)))
    have hRS : RS w w2 ad b xs (a + m) 0 := RS.pre (Ev.drew0 w) <| h.drew.set (j := 1) (a2 := a + m) (er2 := 0) (by decide) h2 hS2 (by rw [i64_id (by omega) (by omega)]; rfl) (by omega)
    have hR := hRS.1.drew
    refine ⟨fun w' => Rd w' ad b xs (a + m) 0, hR, gNil_some (gLoadB_v (fun w' h => h.1.cell (j := 0) rfl) (gNil_some (gLoadB_i (fun w' h => h.1.cell (j := 1) rfl) (gNil_some (gLoadB_i (fun w' h => h.1.cell (j := 1) rfl) ?_)))))⟩
    rw [show i64 (((a + m : Nat) : Int) - (m : Int)) = (a : Int) by rw [i64_id (by omega) (by omega)]; omega]
    refine gSlice_nm hR.2.1 a (a + m) (.inr ⟨_, rfl⟩) (.inr ⟨_, rfl⟩) (by omega) (by omega) fun hs => ?_
    rw [Nat.add_sub_cancel_left] at hs
    refine gApp_on (ON.nil .u8 eB w2.drew w.heap.size) hs (by rw [List.length_take, List.length_drop]; simp; omega) (Nat.le_of_eq hs2.symm) fun y w3 hy hc hm => ?_
    have h3 : Ev w2.drew w3 := hc.mono fun _ _ _ hh => by cases hh
    exact ⟨hR.ev h3, y, rfl, RS.ev hRS ((Ev.drew0 w2).trans h3), by simpa using hy⟩
end Go.Proofs.YtcjopcplhabgkaaV
