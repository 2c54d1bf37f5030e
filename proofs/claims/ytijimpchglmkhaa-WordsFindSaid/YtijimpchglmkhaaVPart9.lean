import Derived.Test.YtijimpchglmkhaaVPart8
set_option linter.unusedVariables false
set_option linter.unusedSimpArgs false
/- Package num: the reader. -/
namespace Go.Proofs.YtijimpchglmkhaaV
open Go Go.RowKit

def Rd (w : World) (ad : Addr) (b : Value) (xs : List Int) (a : Nat) (er : Int) : Prop := St w ad [b, .int .i64 a, .int .i64 er] ∧ Nm .u8 w b xs ∧ b.ownBlock ≠ some ad.block ∧ a ≤ xs.length ∧ xs.length ≤ 10000000000
theorem Rd.ev {w w' : World} {ad : Addr} {b : Value} {xs : List Int} {a : Nat} {er : Int} (h : Rd w ad b xs a er) (he : Ev w w') : Rd w' ad b xs a er := ⟨h.1.ev he, h.2.1.ev he, h.2.2⟩
theorem Rd.ch {S : SS} {w w' : World} {ad : Addr} {b : Value} {xs : List Int} {a : Nat} {er : Int} (h : Rd w ad b xs a er) (hc : Ch S w w') (hs : ∀ k i, (k = ad.block ∨ b.ownBlock = some k) → ¬ S k i) : Rd w' ad b xs a er :=
  ⟨h.1.ch hc fun _ _ => hs _ _ (.inl rfl), h.2.1.ch hc fun g i hg => hs g i (.inr hg), h.2.2⟩
theorem Rd.drew {w : World} {ad : Addr} {b : Value} {xs : List Int} {a : Nat} {er : Int} (h : Rd w ad b xs a er) : Rd w.drew ad b xs a er := h
/-- A reader's step. -/
def RS (w w' : World) (ad : Addr) (b : Value) (xs : List Int) (a : Nat) (er : Int) : Prop := Rd w' ad b xs a er ∧ Ch (Rg ad 3) w w'
theorem RS.trans {w w1 w2 : World} {ad : Addr} {b : Value} {xs : List Int} {a a2 : Nat} {er er2 : Int} (h : RS w w1 ad b xs a er) (h2 : RS w1 w2 ad b xs a2 er2) : RS w w2 ad b xs a2 er2 :=
  ⟨h2.1, Ch.trans h.2 h2.2 fun _ _ _ h => h⟩
theorem RS.ev {w w1 w2 : World} {ad : Addr} {b : Value} {xs : List Int} {a : Nat} {er : Int} (h : RS w w1 ad b xs a er) (he : Ev w1 w2) : RS w w2 ad b xs a er :=
  ⟨h.1.ev he, Ch.trans h.2 he fun _ _ _ h => h.elim⟩
theorem Rd.step {w : World} {ad : Addr} {b : Value} {xs : List Int} {a : Nat} {er : Int} (h : Rd w ad b xs a er) : RS w w ad b xs a er := ⟨h, Ch.refl _ w⟩
/-- A store into its place or its fault. -/
theorem Rd.set {w w' : World} {ad : Addr} {b : Value} {xs : List Int} {a : Nat} {er : Int} (h : Rd w ad b xs a er) {j : Nat} {u : Value} {a2 : Nat} {er2 : Int} (hj : j < 3) (hc : Ch (Rg (ad.add j) 1) w w')
    (hS : St w' ad ([b, .int .i64 a, .int .i64 er].set j u)) (he : ([b, .int .i64 a, .int .i64 er] : List Value).set j u = [b, .int .i64 a2, .int .i64 er2]) (ha : a2 ≤ xs.length) : RS w w' ad b xs a2 er2 := by
  have hc3 : Ch (Rg ad 3) w w' := hc.mono fun n i _ hh => by
    have h1 := hh.1; have h2 := hh.2
    rw [Addr.add_none h.1.1] at h1 h2
    exact ⟨h1, by dsimp only at h2; omega, by dsimp only at h2; omega⟩
  exact ⟨⟨he ▸ hS, h.2.1.ch hc3 fun g i hg hh => h.2.2.1 (by rw [hg, hh.1]), h.2.2.1, ha, h.2.2.2.2⟩, hc3⟩
def lookL (xs : List Int) (a : Nat) : Nat → Nat → Int → Int × Int × Int
  | 0, _, _ => (0, 0, 4)
  | f + 1, n, v =>
    if xs.length ≤ a + n then (0, 0, 3)
    else if n = 9 ∧ rd xs ((a + n : Nat) : Int) > 1 then (0, 0, 4)
    else if rd xs ((a + n : Nat) : Int) < 128 then
      (if rd xs ((a + n : Nat) : Int) = 0 ∧ n > 0 then (0, 0, 4) else (v + rd xs ((a + n : Nat) : Int) % 128 * ((2 ^ (7 * n) : Nat) : Int), ((a + n + 1 : Nat) : Int), 0))
    else lookL xs a f (n + 1) (v + rd xs ((a + n : Nat) : Int) % 128 * ((2 ^ (7 * n) : Nat) : Int))
def lookI (xs : List Int) (a : Nat) : Int × Int × Int := lookL xs a 10 0 0
def Look (w : World) (r : Int × Int × Int) (e : Ending) (w' : World) : Prop := e = .returned (.tuple #[.int .u64 r.1, .int .i64 r.2.1, .int .i64 r.2.2]) ∧ Ev w w'
theorem pow7_le {n : Nat} (h : n ≤ 8) : (2 ^ (7 * n) : Nat) ≤ 72057594037927936 := Nat.le_trans (Nat.pow_le_pow_right (by decide) (show 7 * n ≤ 56 by omega)) (by decide)
theorem look_any {ad : Addr} {b : Value} {xs : List Int} {a : Nat} {er : Int} {w : World} (h : Rd w ad b xs a er) : Calls P n_num_Reader_look #[.pointer (some ad)] w (Look w (lookI xs a)) := by
  have hal := h.2.2.2.1
  have hxl := h.2.2.2.2
  refine of_num_Reader_look ⟨fun w' => lookI xs a = (0, 0, 4) ∧ Ev w w', ?_, fun _ w' ⟨h1, h2⟩ => ⟨by rw [h1], h2⟩⟩
  refine ⟨fun v i w1 => ∃ n : Nat, i = n ∧ n ≤ 10 ∧ lookL xs a (10 - n) n v = lookI xs a ∧ 0 ≤ v ∧ (n ≤ 9 → v < ((2 ^ (7 * n) : Nat) : Int)) ∧ Ev w w1, fun _ i _ => 10 - i.toNat, ⟨0, rfl, by omega, rfl, by omega, (fun _ => by decide), Ch.refl _ w⟩, ?_⟩
  rintro _ v i w1 ⟨n, rfl, hn, hL, hv0, hv1, h1⟩
  have hR : Rd w1.drew ad b xs a er := (h.ev h1).drew
  refine gIf_dec (fun hlt => gNil_some (gLoadB_i (at1 ((h.ev h1).1.cell (j := 1) rfl)) (gNil_some (gLoadB_v (at1 ((h.ev h1).1.cell (j := 0) rfl)) (gLen_nm h.2.1 (gIf_dec (fun hge => ?_) (fun hin => ?_))))))) (fun hge => ?_)
  · rw [i64_id (by omega) (by omega)] at hge
    rw [show 10 - n = (9 - n) + 1 by omega, lookL, if_pos (by omega)] at hL
    exact ⟨by rw [← hL], h1.drew⟩
  · rw [i64_id (by omega) (by omega)] at hin
    refine gNil_some (gLoadB_v (at1 (hR.1.cell (j := 0) rfl)) (gNil_some (gLoadB_i (at1 (hR.1.cell (j := 1) rfl)) ?_)))
    rw [show i64 ((a : Int) + n) = ((a + n : Nat) : Int) by rw [i64_id (by omega) (by omega)]; omega]
    refine gIdx_nm hR.2.1 (by omega) (by omega) fun ad2 c2 _ => gLoadB_i (at1 c2) (gBin_shl (by rw [i64_id (by omega) (by omega)]; omega) ?_)
    have hc := rd_u8 h.2.1.2 ((a + n : Nat) : Int)
    generalize hcr : rd xs ((a + n : Nat) : Int) = c at hc
    have eA : iAnd .u8 c 127 = c % 128 := by
      have := iAnd_mask (k := .u8) (a := c) (m := 7) (n := 127) rfl (by omega) (by rw [show (2 : Int) ^ IntKind.u8.bits = 256 by decide]; omega) rfl (by decide)
      rw [show ((127 : Nat) : Int) = 127 from rfl] at this
      rw [this]; rfl
    have eU : u64 (c % 128) = c % 128 := by rw [u64_def]; omega
    have e7 : i64 (7 * (n : Int)) = ((7 * n : Nat) : Int) := by rw [i64_id (by omega) (by omega)]; omega
    rw [eA, eU, e7]
    have hstep : lookL xs a (10 - n) n v = if n = 9 ∧ c > 1 then (0, 0, 4) else if c < 128 then (if c = 0 ∧ n > 0 then (0, 0, 4) else (v + c % 128 * ((2 ^ (7 * n) : Nat) : Int), ((a + n + 1 : Nat) : Int), 0)) else lookL xs a (10 - (n + 1)) (n + 1) (v + c % 128 * ((2 ^ (7 * n) : Nat) : Int)) := by
      rw [show 10 - n = (10 - (n + 1)) + 1 by omega, lookL, if_neg (by omega), hcr]
    rw [hstep] at hL
    -- what is or'ed, where it is used
    have hor : ¬ (n = 9 ∧ c > 1) → iOr .u64 v (iShl .u64 (c % 128) ((7 * n : Nat) : Int)) = v + c % 128 * ((2 ^ (7 * n) : Nat) : Int) ∧ v + c % 128 * ((2 ^ (7 * n) : Nat) : Int) < 18446744073709551616 := fun hne => by
      have hb : v + c % 128 * ((2 ^ (7 * n) : Nat) : Int) < 18446744073709551616 := by
        by_cases h9 : n = 9
        · subst h9
          have := hv1 (by omega)
          have e : ((2 ^ (7 * 9) : Nat) : Int) = 9223372036854775808 := by decide
          rw [e] at this ⊢; omega
        · have h1 := hv1 (by omega)
          have hq : ((2 ^ (7 * n) : Nat) : Int) ≤ ((72057594037927936 : Nat) : Int) := Int.ofNat_le.2 (pow7_le (n := n) (by omega))
          generalize ((2 ^ (7 * n) : Nat) : Int) = q at *
          have : c % 128 * q ≤ 127 * q := Int.mul_le_mul_of_nonneg_right (by omega) (by omega)
          omega
      refine ⟨?_, hb⟩
      rw [iShl_u (k := .u64) rfl (by have : IntKind.u64.bits = 64 := rfl; omega) (by omega), bits64, Int.emod_eq_of_lt (Int.mul_nonneg (by omega) (by omega)) (by have : (0 : Int) ≤ v := hv0; show _ < (18446744073709551616 : Int); omega)]
      exact iOr_add rfl hv0 (hv1 (by omega)) (by omega) (by rw [bits64]; exact hb)
    refine ⟨fun w' => ¬ (n = 9 ∧ c > 1) ∧ Ev w w', ?_, ?_⟩
    · refine gIf_eq (fun e9 => gIf_dec (fun hg => ⟨?_, h1.drew.drew⟩) (fun hg => ⟨fun hh => hg hh.2, h1.drew.drew⟩)) (fun e9 => ⟨fun hh => e9 (by rw [hh.1]; rfl), h1.drew.drew⟩)
      rw [if_pos ⟨by omega, hg⟩] at hL; exact hL.symm
    · rintro _ w2 ⟨hne, h2⟩
      obtain ⟨ho, hob⟩ := hor hne
      rw [if_neg hne] at hL
      rw [ho]
      have fin : ¬ (c = 0 ∧ n > 0) → c < 128 → gNil (some ad) fun (t59 : Addr) => gLoadB P t_int (shI .i64) (.pointer (some (Addr.add t59 1))) (fun w' => w' = w2.drew) fun (t61 : Int) => Look w (lookI xs a) (.returned (.tuple #[.int .u64 (v + c % 128 * ((2 ^ (7 * n) : Nat) : Int)), .int .i64 (i64 ((i64 (t61 + n)) + 1)), .int .i64 0])) w2.drew := fun hz hlt => by
        refine gNil_some (gLoadB_i (at1 ((h.ev h2).1.cell (j := 1) rfl)) ⟨?_, h2.drew⟩)
        rw [if_pos hlt, if_neg hz] at hL
        rw [← hL, i64_id (n := (a : Int) + n) (by omega) (by omega), i64_id (by omega) (by omega)]; rfl
      refine gIf_dec (fun hlt => gIf_eq (fun ez => gIf_dec (fun hp => ⟨?_, h2⟩) (fun hp => fin (fun hh => hp (by omega)) hlt)) (fun ez => fin (fun hh => ez hh.1) hlt)) (fun hge => ?_)
      · rw [if_pos hlt, if_pos ⟨ez, by omega⟩] at hL; exact hL.symm
      · rw [if_neg hge] at hL
        rw [i64_id (n := (n : Int) + 1) (by omega) (by omega)]
        have hn9 : n ≠ 9 := fun e => hne ⟨e, by omega⟩
        refine ⟨⟨n + 1, by omega, by omega, hL, Int.add_nonneg hv0 (Int.mul_nonneg (by omega) (by omega)), fun h9 => ?_, h2⟩, by dsimp only; omega⟩
        have h3 := hv1 (by omega)
        rw [show 7 * (n + 1) = 7 * n + 7 by omega, Nat.pow_add]
        have e : ((2 ^ (7 * n) * 2 ^ 7 : Nat) : Int) = ((2 ^ (7 * n) : Nat) : Int) * 128 := by rw [Int.natCast_mul]; rfl
        rw [e]
        have : c % 128 * ((2 ^ (7 * n) : Nat) : Int) ≤ 127 * ((2 ^ (7 * n) : Nat) : Int) := Int.mul_le_mul_of_nonneg_right (by omega) (by omega)
        omega
  · have : n = 10 := by omega
    subst this
    rw [show 10 - 10 = 0 from rfl, lookL] at hL
    exact ⟨hL.symm, h1⟩
theorem lookL_rng {xs : List Int} {a : Nat} (hx : inR .u8 xs) : ∀ (f n : Nat) (v : Int), f + n = 10 → 0 ≤ v → (n ≤ 9 → v < ((2 ^ (7 * n) : Nat) : Int)) →
    (lookL xs a f n v).2.2 = 0 ∨ (lookL xs a f n v).2.2 = 3 ∨ (lookL xs a f n v).2.2 = 4
  | 0, n, v, _, _, _ => by simp [lookL]
  | f + 1, n, v, hf, h0, h1 => by
    rw [lookL]
    split
    · simp
    · split
      · simp
      · split
        · split <;> simp
        · refine lookL_rng hx f (n + 1) _ (by omega) (Int.add_nonneg h0 (Int.mul_nonneg (by omega) (by omega))) fun h9 => ?_
          have h3 := h1 (by omega)
          rw [show 7 * (n + 1) = 7 * n + 7 by omega, Nat.pow_add]
          have e : ((2 ^ (7 * n) * 2 ^ 7 : Nat) : Int) = ((2 ^ (7 * n) : Nat) : Int) * 128 := by rw [Int.natCast_mul]; rfl
          rw [e]
          have : rd xs ((a + n : Nat) : Int) % 128 * ((2 ^ (7 * n) : Nat) : Int) ≤ 127 * ((2 ^ (7 * n) : Nat) : Int) := Int.mul_le_mul_of_nonneg_right (by omega) (by omega)
          omega
end Go.Proofs.YtijimpchglmkhaaV

/- Package num: the reader, second part. -/
namespace Go.Proofs.YtijimpchglmkhaaV
open Go Go.RowKit

theorem lookL_end {xs : List Int} {a : Nat} : ∀ (f n : Nat) (v : Int), (lookL xs a f n v).2.2 = 0 → 0 ≤ v → (a + n : Int) < (lookL xs a f n v).2.1 ∧ (lookL xs a f n v).2.1 ≤ xs.length ∧ 0 ≤ (lookL xs a f n v).1
  | 0, n, v, h, _ => by simp [lookL] at h
  | f + 1, n, v, h, hv => by
    rw [lookL] at h ⊢
    split at h
    · simp at h
    · rename_i h1
      rw [if_neg h1]
      split at h
      · simp at h
      · rename_i h2
        rw [if_neg h2]
        split at h
        · rename_i h3
          rw [if_pos h3]
          split at h
          · simp at h
          · rename_i h4
            rw [if_neg h4]
            exact ⟨by dsimp only; omega, by dsimp only; omega, Int.add_nonneg hv (Int.mul_nonneg (by omega) (Int.natCast_nonneg _))⟩
        · rename_i h3
          rw [if_neg h3]
          have := lookL_end f (n + 1) _ h (Int.add_nonneg hv (Int.mul_nonneg (by omega) (Int.natCast_nonneg _)))
          exact ⟨by omega, this.2⟩
theorem lookI_end {xs : List Int} {a : Nat} (h : (lookI xs a).2.2 = 0) : (a : Int) < (lookI xs a).2.1 ∧ (lookI xs a).2.1 ≤ xs.length ∧ 0 ≤ (lookI xs a).1 := by
  unfold lookI at h ⊢
  have := lookL_end 10 0 0 h (by decide); exact ⟨by simpa using this.1, this.2⟩
theorem RS.pre {w w1 w2 : World} {ad : Addr} {b : Value} {xs : List Int} {a : Nat} {er : Int} (he : Ev w w1) (h : RS w1 w2 ad b xs a er) : RS w w2 ad b xs a er := ⟨h.1, Ch.trans (he.mono fun _ _ _ h => h.elim) h.2 fun _ _ _ h => h⟩
/-- The next number: it, where it ends, and the fault. -/
def numR (xs : List Int) (a : Nat) (er most : Int) : Int × Nat × Int :=
  if er ≠ 0 then (0, a, er)
  else if (lookI xs a).2.2 = 0 ∧ (lookI xs a).1 > most then (0, a, 4)
  else if (lookI xs a).2.2 ≠ 0 then (0, a, (lookI xs a).2.2)
  else ((lookI xs a).1, (lookI xs a).2.1.toNat, 0)
theorem num_any {ad : Addr} {b : Value} {xs : List Int} {a : Nat} {er most : Int} {w : World} (h : Rd w ad b xs a er) : Calls P n_num_Reader_num #[.pointer (some ad), .int .u64 most] w (fun e w' => e = .returned (.int .u64 (numR xs a er most).1) ∧ RS w w' ad b xs (numR xs a er most).2.1 (numR xs a er most).2.2) := by
  refine of_num_Reader_num ⟨fun w' => er = 0 ∧ w' = w, gEq_pnil (gIf_nf (gNil_some (gLoad_i (h.1.cell (j := 2) rfl) (gIf_neq (fun hne => ?_) (fun he => ⟨he, rfl⟩))))), ?_⟩
  · unfold numR; rw [if_pos hne]; exact ⟨rfl, h.step⟩
  rintro _ _ ⟨rfl, rfl⟩
  rename_i w
  have hl := lookI_end (xs := xs) (a := a)
  unfold numR
  rw [if_neg (by simp)]
  refine gCall_of (look_any h) ?_
  rintro _ w1 ⟨rfl, h1⟩
  generalize lookI xs a = r at hl
  obtain ⟨v, a2, e⟩ := r
  dsimp only at hl ⊢
  have hR := h.ev h1
  refine ⟨v, a2, e, rfl, fun e' w' => e' = (if e = 0 ∧ v > most then 4 else e) ∧ w' = w1, ?_, ?_⟩
  · exact gIf_eq (fun e0 => gIf_dec (fun hg => ⟨by rw [if_pos ⟨e0, hg⟩], rfl⟩) (fun hg => ⟨by rw [if_neg (fun hh => hg hh.2)], rfl⟩)) (fun e0 => ⟨by rw [if_neg (fun hh => e0 hh.1)], rfl⟩)
  · rintro _ e' _ ⟨he', rfl⟩
    refine gIf_neq (fun hne => ?_) (fun he0 => ?_)
    · refine gNil_some (gStore_st hR.1 (j := 2) (by simp) rfl rfl fun w2 h2 _ hS2 => ?_)
      have hRS := hR.set (j := 2) (a2 := a) (er2 := e') (by decide) h2 hS2 rfl hR.2.2.2.1
      have : RS w w2 ad b xs a e' := ⟨hRS.1, Ch.trans (h1.mono fun _ _ _ h => h.elim) hRS.2 fun _ _ _ h => h⟩
      by_cases hc : e = 0 ∧ v > most
      · rw [if_pos hc] at he' ⊢; subst he'; exact ⟨rfl, this⟩
      · rw [if_neg hc] at he' ⊢; subst he'; rw [if_pos hne]; exact ⟨rfl, this⟩
    · subst he0
      have hc : ¬ (e = 0 ∧ v > most) := fun hc => by rw [if_pos hc] at he'; cases he'
      rw [if_neg hc] at he' ⊢
      rw [← he'] at hl ⊢
      rw [if_neg (by simp)]
      have hl2 := hl rfl
      refine gNil_some (gStore_st hR.1 (j := 1) (by simp) rfl rfl fun w2 h2 _ hS2 => ⟨rfl, ?_⟩)
      have hRS := hR.set (j := 1) (a2 := a2.toNat) (er2 := 0) (by decide) h2 hS2 (by rw [show ((a2.toNat : Nat) : Int) = a2 by omega]; rfl) (by omega)
      exact ⟨hRS.1, Ch.trans (h1.mono fun _ _ _ h => h.elim) hRS.2 fun _ _ _ h => h⟩
theorem rNum_any {ad : Addr} {b : Value} {xs : List Int} {a : Nat} {er : Int} {w : World} (h : Rd w ad b xs a er) : Calls P n_num_Reader_Num #[.pointer (some ad)] w (fun e w' => e = .returned (.int .u64 (numR xs a er 18446744073709551615).1) ∧ RS w w' ad b xs (numR xs a er 18446744073709551615).2.1 (numR xs a er 18446744073709551615).2.2) :=
  of_num_Reader_Num (gCall_i (num_any h) fun _ h => ⟨rfl, h⟩)
theorem lookL_64 {xs : List Int} {a : Nat} (hx : inR .u8 xs) : ∀ (f n : Nat) (v : Int), f + n = 10 → 0 ≤ v → (n ≤ 9 → v < ((2 ^ (7 * n) : Nat) : Int)) → (lookL xs a f n v).1 < 18446744073709551616
  | 0, n, v, _, _, _ => by simp [lookL]
  | f + 1, n, v, hf, h0, h1 => by
    rw [lookL]
    split
    · simp
    · split
      · simp
      · rename_i hne
        have h3 := h1 (by omega)
        split
        · split
          · simp
          · show v + _ < _
            by_cases h9 : n = 9
            · subst h9
              have := rd_u8 hx ((a + 9 : Nat) : Int)
              have e : ((2 ^ (7 * 9) : Nat) : Int) = 9223372036854775808 := by decide
              rw [e] at h3 ⊢; omega
            · have hq : ((2 ^ (7 * n) : Nat) : Int) ≤ ((72057594037927936 : Nat) : Int) := Int.ofNat_le.2 (pow7_le (n := n) (by omega))
              have : rd xs ((a + n : Nat) : Int) % 128 * ((2 ^ (7 * n) : Nat) : Int) ≤ 127 * ((2 ^ (7 * n) : Nat) : Int) := Int.mul_le_mul_of_nonneg_right (by omega) (by omega)
              omega
        · refine lookL_64 hx f (n + 1) _ (by omega) (Int.add_nonneg h0 (Int.mul_nonneg (by omega) (Int.natCast_nonneg _))) fun h9 => ?_
          rw [show 7 * (n + 1) = 7 * n + 7 by omega, Nat.pow_add]
          have e : ((2 ^ (7 * n) * 2 ^ 7 : Nat) : Int) = ((2 ^ (7 * n) : Nat) : Int) * 128 := by rw [Int.natCast_mul]; rfl
          rw [e]
          have : rd xs ((a + n : Nat) : Int) % 128 * ((2 ^ (7 * n) : Nat) : Int) ≤ 127 * ((2 ^ (7 * n) : Nat) : Int) := Int.mul_le_mul_of_nonneg_right (by omega) (by omega)
          omega
theorem lookI_rng {xs : List Int} {a : Nat} (hx : inR .u8 xs) (h : (lookI xs a).2.2 = 0) : 0 ≤ (lookI xs a).1 ∧ (lookI xs a).1 < 18446744073709551616 := ⟨(lookL_end 10 0 0 h (by decide)).2.2, lookL_64 hx 10 0 0 rfl (by decide) (fun _ => by decide)⟩
theorem numR_rng {xs : List Int} {a : Nat} {er most : Int} (hx : inR .u8 xs) : 0 ≤ (numR xs a er most).1 ∧ (numR xs a er most).1 < 18446744073709551616 := by
  unfold numR
  split
  · simp
  · split
    · simp
    · split
      · simp
      · rename_i h; exact lookI_rng hx (by omega)
theorem numR_most {xs : List Int} {a : Nat} {er most : Int} (hm : 0 ≤ most) : (numR xs a er most).1 ≤ most := by
  unfold numR
  split
  · exact hm
  · split
    · exact hm
    · rename_i h2
      split
      · exact hm
      · rename_i h3; dsimp only; omega
theorem numR_at {xs : List Int} {a : Nat} {er most : Int} (ha : a ≤ xs.length) : a ≤ (numR xs a er most).2.1 ∧ (numR xs a er most).2.1 ≤ xs.length := by
  unfold numR
  split
  · exact ⟨Nat.le_refl _, ha⟩
  · split
    · exact ⟨Nat.le_refl _, ha⟩
    · split
      · exact ⟨Nat.le_refl _, ha⟩
      · rename_i h
        have := lookI_end (xs := xs) (a := a) (by simpa using h)
        dsimp only; omega
/-- The next bytes. -/
def rawR (xs : List Int) (a : Nat) (er n : Int) : List Int × Nat × Int :=
  if er ≠ 0 ∨ n ≤ 0 then ([], a, er) else if n > (xs.length : Int) - a then ([], a, 3) else ((xs.drop a).take n.toNat, a + n.toNat, 0)
def RawE (w : World) (ad : Addr) (b : Value) (xs : List Int) (r : List Int × Nat × Int) (e : Ending) (w' : World) : Prop := ∃ y, e = .returned y ∧ RS w w' ad b xs r.2.1 r.2.2 ∧ ON .u8 eB w' w.heap.size y r.1
theorem rRaw_any {ad : Addr} {b : Value} {xs : List Int} {a : Nat} {er n : Int} {w : World} (h : Rd w ad b xs a er) (hn : n ≤ 9223372036854775807) : Calls P n_num_Reader_Raw #[.pointer (some ad), .int .i64 n] w (RawE w ad b xs (rawR xs a er n)) := by
  have hal := h.2.2.2.1
  have hxl := h.2.2.2.2
  refine of_num_Reader_Raw ⟨fun w' => er = 0 ∧ 0 < n ∧ w' = w, gEq_pnil (gIf_nf (gNil_some (gLoad_i (h.1.cell (j := 2) rfl) (gIf_nneq (fun he => gIf_dec (fun hle => ?_) (fun hgt => ⟨he, by omega, rfl⟩)) (fun hne => ?_))))), ?_⟩
  · unfold rawR; rw [if_pos (.inr hle)]; exact ⟨_, rfl, h.step, ON.nil _ _ _ _⟩
  · unfold rawR; rw [if_pos (.inl hne)]; exact ⟨_, rfl, h.step, ON.nil _ _ _ _⟩
  rintro _ _ ⟨rfl, hn0, rfl⟩
  rename_i w
  unfold rawR
  rw [if_neg (by omega)]
  refine gNil_some (gLoadB_v (at1 (h.1.cell (j := 0) rfl)) (gLen_nm h.2.1 (gNil_some (gLoadB_i (at1 (h.1.cell (j := 1) rfl)) ?_))))
  rw [i64_id (n := (xs.length : Int) - a) (by omega) (by omega)]
  refine gIf_dec (fun hg => ?_) (fun hle => ?_)
  · rw [if_pos hg]
    refine gNil_some (gStore_st h.drew.1 (j := 2) (by simp) rfl rfl fun w2 h2 _ hS2 => ⟨_, rfl, ?_, ON.nil _ _ _ _⟩)
    exact RS.pre (Ev.drew0 w) (h.drew.set (j := 2) (a2 := a) (er2 := 3) (by decide) h2 hS2 rfl hal)
  · rw [if_neg hle]
    obtain ⟨m, rfl⟩ : ∃ m : Nat, n = m := ⟨n.toNat, by omega⟩
    rw [Int.toNat_natCast]
    refine gNil_some (gLoad_i (h.drew.1.cell (j := 1) rfl) (gNil_some (gStore_st h.drew.1 (j := 1) (by simp) rfl rfl fun w2 h2 hs2 hS2 => ?_)))
    have hRS : RS w w2 ad b xs (a + m) 0 := RS.pre (Ev.drew0 w) <| h.drew.set (j := 1) (a2 := a + m) (er2 := 0) (by decide) h2 hS2 (by rw [i64_id (by omega) (by omega)]; rfl) (by omega)
    have hR := hRS.1.drew
    refine ⟨fun w' => Rd w' ad b xs (a + m) 0, hR, gNil_some (gLoadB_v (fun w' h => h.1.cell (j := 0) rfl) (gNil_some (gLoadB_i (fun w' h => h.1.cell (j := 1) rfl) (gNil_some (gLoadB_i (fun w' h => h.1.cell (j := 1) rfl) ?_)))))⟩
    rw [show i64 (((a + m : Nat) : Int) - (m : Int)) = (a : Int) by rw [i64_id (by omega) (by omega)]; omega]
    refine gSlice_nm hR.2.1 a (a + m) (.inr ⟨_, rfl⟩) (.inr ⟨_, rfl⟩) (by omega) (by omega) fun hs => ?_
    rw [Nat.add_sub_cancel_left] at hs
    refine gApp_on (ON.nil .u8 eB w2.drew w.heap.size) hs (by rw [List.length_take, List.length_drop]; simp; omega) (Nat.le_of_eq hs2.symm) fun y w3 hy hc hm => ?_
    have h3 : Ev w2.drew w3 := hc.mono fun _ _ _ hh => by cases hh
    exact ⟨hR.ev h3, y, rfl, RS.ev hRS ((Ev.drew0 w2).trans h3), by simpa using hy⟩
end Go.Proofs.YtijimpchglmkhaaV

/- Package valisehelp: Bytes. -/
namespace Go.Proofs.YtijimpchglmkhaaV
open Go Go.RowKit
theorem Bytes_any {a b : Value} {xs ys : List Int} {w : World} (ha : Nm .u8 w a xs) (hb : Nm .u8 w b ys) : Calls P n_valisehelp_Bytes #[a, b] w (fun e w' => e = .returned (.bool (decide (xs = ys))) ∧ w' = w) :=
  of_valisehelp_Bytes (gConv_bs ha (gConv_bs hb ⟨by rw [bsOf_eq ha.2 hb.2], rfl⟩))
end Go.Proofs.YtijimpchglmkhaaV

/- Package num: the reader, third part; nil readers; laws NumNil. -/
namespace Go.Proofs.YtijimpchglmkhaaV
open Go Go.RowKit

theorem rLeft_any {ad : Addr} {b : Value} {xs : List Int} {a : Nat} {er : Int} {w : World} (h : Rd w ad b xs a er) : Calls P n_num_Reader_Left #[.pointer (some ad)] w (fun e w' => e = .returned (.int .i64 ((xs.length : Int) - a)) ∧ Ev w w') := by
  have hal := h.2.2.2.1
  have hxl := h.2.2.2.2
  refine of_num_Reader_Left (gEq_pnil (gIf_f (gNil_some (gLoadB_v (at1 (h.1.cell (j := 0) rfl)) (gLen_nm h.2.1 (gNil_some (gLoadB_i (at1 (h.1.cell (j := 1) rfl)) ⟨?_, Ev.drew0 w⟩)))))))
  rw [i64_id (by omega) (by omega)]
theorem rErr_any {ad : Addr} {b : Value} {xs : List Int} {a : Nat} {er : Int} {w : World} (h : Rd w ad b xs a er) : Calls P n_num_Reader_Err #[.pointer (some ad)] w (fun e w' => e = .returned (.int .i64 er) ∧ w' = w) :=
  of_num_Reader_Err (gEq_pnil (gIf_f (gNil_some (gLoad_i (h.1.cell (j := 2) rfl) ⟨rfl, rfl⟩))))
def endR (n a : Nat) (er : Int) : Int := if er ≠ 0 then er else if (n : Int) - a > 0 then 4 else 0
theorem rNew_any {b : Value} {xs : List Int} {w : World} (hb : Nm .u8 w b xs) (hl : xs.length ≤ 10000000000) : Calls P n_num_New #[b] w (fun e w' => ∃ ad y, e = .returned (.pointer (some ad)) ∧ Ev w w' ∧ w.heap.size ≤ ad.block ∧ Rd w' ad y xs 0 0) := by
  refine of_num_New (gApp_on (ON.nil .u8 eB w w.heap.size) hb (by simp; omega) (Nat.le_refl _) fun y w1 hy hc hm => ⟨hy.one, gBox_of fun ad w2 h2 had hs hS => ?_⟩)
  have h1 : Ev w w1 := hc.mono fun _ _ _ hh => by cases hh
  have hy' := hy.ev h2
  refine ⟨ad, y, rfl, h1.trans h2, by rw [had]; exact h1.size, hS, by simpa using hy'.nm, fun hh => ?_, by omega, hl⟩
  have := (hy.base hh).2
  rw [had] at this; dsimp only at this; omega
/-- The next text. -/
def textR (xs : List Int) (a : Nat) (er most : Int) : List Int × Nat × Int :=
  if er ≠ 0 then ([], a, er)
  else
    let p := numR xs a er (if 0 > most then 0 else most)
    let q := rawR xs p.2.1 p.2.2 p.1
    if q.2.2 ≠ 0 then ([], a, q.2.2) else q
theorem rawR_er {xs : List Int} {a : Nat} {er n : Int} (h : (rawR xs a er n).2.2 = 0) : er = 0 := by
  unfold rawR at h; split at h
  · exact h
  · omega
theorem rText_any {ad : Addr} {b : Value} {xs : List Int} {a : Nat} {er most : Int} {w : World} (h : Rd w ad b xs a er) (hm : most ≤ 9223372036854775807) : Calls P n_num_Reader_Text #[.pointer (some ad), .int .i64 most] w (RawE w ad b xs (textR xs a er most)) := by
  refine of_num_Reader_Text ⟨fun w' => er = 0 ∧ w' = w, gEq_pnil (gIf_nf (gNil_some (gLoad_i (h.1.cell (j := 2) rfl) (gIf_neq (fun hne => ?_) (fun he => ⟨he, rfl⟩))))), ?_⟩
  · unfold textR; rw [if_pos hne]; exact ⟨_, rfl, h.step, ON.nil _ _ _ _⟩
  rintro _ _ ⟨rfl, rfl⟩
  rename_i w
  unfold textR
  rw [if_neg (show ¬ ((0 : Int) ≠ 0) by simp)]
  have hm0 : 0 ≤ (if 0 > most then 0 else most) ∧ (if 0 > most then 0 else most) ≤ 9223372036854775807 := by split <;> omega
  generalize (if 0 > most then 0 else most) = mm at hm0
  rw [show u64 mm = mm by rw [u64_def]; omega]
  refine gNil_some (gLoad_i (h.1.cell (j := 1) rfl) (gCall_i (num_any h) fun w1 h1 => ?_))
  have hr := numR_rng (xs := xs) (a := a) (er := 0) (most := mm) h.2.1.2
  have hm2 := numR_most (xs := xs) (a := a) (er := 0) (most := mm) hm0.1
  dsimp only
  generalize numR xs a 0 mm = p at *
  rw [i64_id (n := p.1) (by omega) (by omega)]
  refine gCall_of (rRaw_any h1.1 (by omega)) ?_
  rintro _ w2 ⟨y, rfl, h2, hy⟩
  have hw2 := h1.trans h2
  generalize rawR xs p.2.1 p.2.2 p.1 = q at *
  refine ⟨y, rfl, gNil_some (gLoad_i (hw2.1.1.cell (j := 2) rfl) (gIf_neq (fun hne => gNil_some (gStore_st hw2.1.1 (j := 1) (by simp) rfl rfl fun w3 h3 _ hS3 => ?_)) (fun he => ?_)))⟩
  · rw [if_pos hne]
    exact ⟨_, rfl, hw2.trans (hw2.1.set (j := 1) (a2 := a) (er2 := q.2.2) (by decide) h3 hS3 rfl h.2.2.2.1), ON.nil _ _ _ _⟩
  · rw [if_neg (by omega)]
    exact ⟨y, rfl, hw2, hy.low h1.2.size⟩
def leN : List Int → Int
  | [] => 0
  | c :: r => c + 256 * leN r
def beN : Int → List Int → Int
  | v, [] => v
  | v, c :: r => beN (v * 256 + c) r
theorem rawR_len {xs : List Int} {a : Nat} {er n : Int} {m : Nat} (hm : n ≤ m) : (rawR xs a er n).1.length ≤ m := by
  unfold rawR; split
  · simp
  · split
    · simp
    · rw [List.length_take]; omega
theorem rawR_u8 {xs : List Int} {a : Nat} {er n : Int} (h : inR .u8 xs) : inR .u8 (rawR xs a er n).1 := by
  unfold rawR; split
  · intro x hx; cases hx
  · split
    · intro x hx; cases hx
    · exact (h.drop _).take _
theorem leN_take {ys : List Int} : ∀ {j : Nat}, j < ys.length → leN (ys.take (j + 1)) = leN (ys.take j) + rd ys j * ((2 ^ (8 * j) : Nat) : Int) := by
  induction ys with
  | nil => intro j h; simp at h
  | cons c r ih =>
    intro j h
    cases j with
    | zero => simp [leN, rd]
    | succ j =>
      have hr : rd (c :: r) ((j + 1 : Nat) : Int) = rd r j := by simp [rd]
      rw [List.take_succ_cons, List.take_succ_cons, leN, leN, ih (by simpa using h), hr, show 8 * (j + 1) = 8 * j + 8 by omega, Nat.pow_add]
      have e : ((2 ^ (8 * j) * 2 ^ 8 : Nat) : Int) = ((2 ^ (8 * j) : Nat) : Int) * 256 := by rw [Int.natCast_mul]; rfl
      rw [e, Int.mul_add]; ac_rfl
theorem leN_bd {ys : List Int} (h : inR .u8 ys) : 0 ≤ leN ys ∧ leN ys < ((2 ^ (8 * ys.length) : Nat) : Int) := by
  induction ys with
  | nil => simp [leN]
  | cons c r ih =>
    have h1 := ih fun x hx => h x (by simp [hx])
    have h2 := h.u8 (x := c) (by simp)
    rw [leN, List.length_cons, show 8 * (r.length + 1) = 8 * r.length + 8 by omega, Nat.pow_add]
    have e : ((2 ^ (8 * r.length) * 2 ^ 8 : Nat) : Int) = ((2 ^ (8 * r.length) : Nat) : Int) * 256 := by rw [Int.natCast_mul]; rfl
    rw [e]; omega
def U64E (w : World) (ad : Addr) (b : Value) (xs : List Int) (v : Int) (r : List Int × Nat × Int) (e : Ending) (w' : World) : Prop := e = .returned (.int .u64 v) ∧ RS w w' ad b xs r.2.1 r.2.2
theorem beN_bd {ys : List Int} (h : inR .u8 ys) : ∀ {v : Int} {k : Nat}, 0 ≤ v → v < ((2 ^ (8 * k) : Nat) : Int) → 0 ≤ beN v ys ∧ beN v ys < ((2 ^ (8 * (k + ys.length)) : Nat) : Int) := by
  induction ys with
  | nil => intro v k h0 h1; exact ⟨h0, h1⟩
  | cons c r ih =>
    intro v k h0 h1
    have h2 := h.u8 (x := c) (by simp)
    have h3 : v * 256 + c < ((2 ^ (8 * (k + 1)) : Nat) : Int) := by
      rw [show 8 * (k + 1) = 8 * k + 8 by omega, Nat.pow_add]
      have e : ((2 ^ (8 * k) * 2 ^ 8 : Nat) : Int) = ((2 ^ (8 * k) : Nat) : Int) * 256 := by rw [Int.natCast_mul]; rfl
      rw [e]; omega
    have := ih (fun x hx => h x (by simp [hx])) (v := v * 256 + c) (k := k + 1) (by omega) h3
    rw [beN, List.length_cons, show k + (r.length + 1) = k + 1 + r.length by omega]; exact this
theorem beN_take {ys : List Int} : ∀ {j : Nat} {v : Int}, j < ys.length → beN v (ys.take (j + 1)) = beN v (ys.take j) * 256 + rd ys j := by
  induction ys with
  | nil => intro j v h; simp at h
  | cons c r ih =>
    intro j v h
    cases j with
    | zero => simp [beN, rd]
    | succ j =>
      have hr : rd (c :: r) ((j + 1 : Nat) : Int) = rd r j := by simp [rd]
      rw [List.take_succ_cons, List.take_succ_cons, beN, beN, ih (by simpa using h), hr]
/-! ### A nil reader -/
theorem num_nil {m : Int} {w : World} : Calls P n_num_Reader_num #[.pointer none, .int .u64 m] w (fun e w' => e = .returned (.int .u64 0) ∧ w' = w) := of_num_Reader_num ⟨fun _ => False, gEq_pnil (gIf_nt ⟨rfl, rfl⟩), fun _ _ h => h.elim⟩
theorem rNum_nil {w : World} : Calls P n_num_Reader_Num #[.pointer none] w (fun e w' => e = .returned (.int .u64 0) ∧ w' = w) := of_num_Reader_Num (gCall_i0 num_nil ⟨rfl, rfl⟩)
theorem rText_nil {m : Int} {w : World} : Calls P n_num_Reader_Text #[.pointer none, .int .i64 m] w (fun e w' => e = .returned (.slice none 0 0) ∧ w' = w) := of_num_Reader_Text ⟨fun _ => False, gEq_pnil (gIf_nt ⟨rfl, rfl⟩), fun _ _ h => h.elim⟩
theorem rRaw_nil {m : Int} {w : World} : Calls P n_num_Reader_Raw #[.pointer none, .int .i64 m] w (fun e w' => e = .returned (.slice none 0 0) ∧ w' = w) := of_num_Reader_Raw ⟨fun _ => False, gEq_pnil (gIf_nt ⟨rfl, rfl⟩), fun _ _ h => h.elim⟩
theorem rLeft_nil {w : World} : Calls P n_num_Reader_Left #[.pointer none] w (fun e w' => e = .returned (.int .i64 0) ∧ w' = w) := of_num_Reader_Left (gEq_pnil (gIf_t ⟨rfl, rfl⟩))
theorem rErr_nil {w : World} : Calls P n_num_Reader_Err #[.pointer none] w (fun e w' => e = .returned (.int .i64 2) ∧ w' = w) := of_num_Reader_Err (gEq_pnil (gIf_t ⟨rfl, rfl⟩))
end Go.Proofs.YtijimpchglmkhaaV

/- Package valiseref02: Little, New, Raw, Little of a reader. -/
namespace Go.Proofs.YtijimpchglmkhaaV
open Go Go.RowKit
theorem byteAt_u8 (v : Int) (k : Nat) : 0 ≤ byteAt v k ∧ byteAt v k < 256 := by unfold byteAt; omega
section
variable {w0 w : World} {F : List It} {xs : List Int} {ad : Addr} {y : Value} {a : Nat} {er : Int}
/-- A reader that is new: its struct, and its bytes. -/
theorem Fr.rd (h : Fr w0 w F) (i j : Nat) (hi : F[i]? = some (sIt ad [y, .int .i64 a, .int .i64 er])) (hj : F[j]? = some (oIt .u8 eB y xs)) (hn : i ≠ j) (ha : a ≤ xs.length) (hl : xs.length ≤ 10000000000) : Rd w ad y xs a er :=
  ⟨h.get i hi, h.nm j hj, fun hg => h.apart hi hj hn ad.block rfl hg, ha, hl⟩
theorem Fr.rs {w' : World} {a2 : Nat} {er2 : Int} (h : Fr w0 w F) (i : Nat) (hi : F[i]? = some (sIt ad [y, .int .i64 a, .int .i64 er])) (g : RS w w' ad y xs a2 er2) : Fr w0 w' (F.set i (sIt ad [y, .int .i64 a2, .int .i64 er2])) :=
  h.upd i hi g.2 (fun k _ hh => .inl hh.1) g.1.1 fun k hk => .inl hk
/-- What New hands back. -/
def NewR (w : World) (xs : List Int) (e : Ending) (w' : World) : Prop := ∃ ad y, e = .returned (.pointer (some ad)) ∧ ∀ {w0 F}, Fr w0 w F → Fr w0 w' (sIt ad [y, .int .i64 0, .int .i64 0] :: oIt .u8 eB y xs :: F)
theorem nNew_any {b : Value} {w : World} (hb : Nm .u8 w b xs) (hl : xs.length ≤ 10000000000) : Calls P n_num_New #[b] w (NewR w xs) := by
  refine of_num_New (gApp_on (ON.nil .u8 eB w w.heap.size) hb (by simp; omega) (Nat.le_refl _) fun y w1 hy hc hm => ⟨hy.one, gBox_of fun ad w2 h2 had hs hS => ?_⟩)
  have h1 : Ev w w1 := hc.mono fun _ _ _ hh => by cases hh
  exact ⟨ad, y, rfl, fun f => (f.newO h1 (by simpa using hy)).new h2 hS fun k hk => by have hk : k = ad.block := hk; subst had; dsimp only at hk; omega⟩
theorem fNew {b : Value} {K : Option Addr → World → Prop} (h : Fr w0 w F) (hb : Nm .u8 w b xs) (hl : xs.length ≤ 10000000000) (hk : ∀ ad y w', Fr w0 w' (sIt ad [y, .int .i64 0, .int .i64 0] :: oIt .u8 eB y xs :: F) → K (some ad) w') : gCall P n_num_New shP #[b] w K :=
  gCall_of (nNew_any hb hl) fun _ w' ⟨ad, y, h1, h2⟩ => ⟨some ad, h1, hk ad y w' (h2 h)⟩
theorem shl8 {v : Int} (h0 : 0 ≤ v) (h : v < 72057594037927936) : iShl .u64 v 8 = v * ((2 ^ 8 : Nat) : Int) := by
  have e64 : ((2 ^ IntKind.u64.bits : Nat) : Int) = 18446744073709551616 := rfl
  have e8 : ((2 ^ 8 : Nat) : Int) = 256 := rfl
  have := iShl_u (k := .u64) (n := 8) rfl (by decide) h0
  rw [e64, e8, Int.emod_eq_of_lt (by omega) (by omega)] at this
  exact this
theorem leN_drop {ys : List Int} {j : Nat} (hj : j < ys.length) : leN (ys.drop j) = rd ys j + 256 * leN (ys.drop (j + 1)) := by
  rw [List.drop_eq_getElem_cons hj, leN, rd_nat ys j hj]
end
end Go.Proofs.YtijimpchglmkhaaV

/- Writers and readers of numbers, in a frame. -/
namespace Go.Proofs.YtijimpchglmkhaaV
open Go Go.RowKit
section
variable {w0 w w' : World} {F : List It}
theorem Fr.oth {it : It} {S : SS} (h : Fr w0 w F) (i : Nat) (hi : F[i]? = some it) (hc : Ch S w w') (hS : ∀ k q, S k q → it.ft k) : Fr w0 w' (F.eraseIdx i) := by
  refine (h.drop i).ch hc (fun k q hs => (h.ft i hi (hS k q hs)).1) fun jt hj k q hk hs => ?_
  obtain ⟨j, hj2⟩ := List.mem_iff_getElem?.1 hj
  rw [List.getElem?_eraseIdx] at hj2
  split at hj2
  · rename_i hlt
    exact h.apart hi hj2 (by omega) k (hS k q hs) hk
  · rename_i hge
    exact h.apart hi hj2 (by omega) k (hS k q hs) hk
theorem Fr.cons {jt : It} {n : Nat} (h : Fr w0 w F) (hn : w0.heap.size ≤ n) (hF : ∀ it ∈ F, ∀ k, it.ft k → k < n) (ok : jt.ok w) (hf : ∀ k, jt.ft k → n ≤ k) : Fr w0 w (jt :: F) :=
  ⟨ok, fun k hk => Nat.le_trans hn (hf k hk), fun it hi k hk hik => by have := hf k hk; have := hF it hi k hik; omega, h⟩
/-! ### Writers -/
theorem fNewW {K : Addr → World → Prop} (f : Fr w0 w F) (hk : ∀ ad v w', Fr w0 w' (wIt eB ad v [] :: F) → K ad w') : gAlloc P t_num_Writer w K :=
  fAlloc (z := .agg #[.slice none 0 0]) f (by kernel_rfl) fun ad w' f' => hk ad (.slice none 0 0) w' (f'.asW (e := eB) 0 rfl)
theorem fNum {ad : Addr} {v : Value} {xs : List Int} {n : Int} {K : World → Prop} (f : Fr w0 w F) (i : Nat) (hi : F[i]? = some (wIt eB ad v xs)) (hn : 0 ≤ n ∧ n < 18446744073709551616) (hl : xs.length + 10 ≤ 10000000000)
    (hk : ∀ v' w', Fr w0 w' (F.set i (wIt eB ad v' (xs ++ numB n.toNat))) → K w') : gCall P n_num_Writer_Num shU #[.pointer (some ad), .int .u64 n] w K :=
  gCall_u (Num_any (f.get i hi) hn hl) fun w' ⟨v', hw⟩ => hk v' w' (f.wr i hi hw)
theorem fRawW {ad : Addr} {v p : Value} {xs : List Int} {yss : List (List Int)} {K : World → Prop} (f : Fr w0 w F) (i : Nat) (hi : F[i]? = some (wIt eB ad v xs)) (hp : ∀ w', Fr w0 w' (F.eraseIdx i) → NL .u8 w' p yss) (hl : xs.length + yss.flatten.length ≤ 10000000000) (hn : yss.length ≤ 10000000000)
    (hk : ∀ v' w', Fr w0 w' (F.set i (wIt eB ad v' (xs ++ yss.flatten))) → K w') : gCall P n_num_Writer_Raw shU #[.pointer (some ad), p] w K :=
  gCall_u (Raw_any (f.get i hi) (fun w' hc => hp w' (f.oth i hi hc fun k q h => h)) hl hn) fun w' ⟨v', hw⟩ => hk v' w' (f.wr i hi hw)
theorem fBytesW {ad : Addr} {v : Value} {xs : List Int} {K : Value → World → Prop} (f : Fr w0 w F) (i : Nat) (hi : F[i]? = some (wIt eB ad v xs)) (hl : xs.length ≤ 10000000000) (hk : ∀ y w', Fr w0 w' (oIt .u8 eB y xs :: F) → K y w') : gCall P n_num_Writer_Bytes shV #[.pointer (some ad)] w K :=
  gCall_v (Q := fun y w' => Ev w w' ∧ ON .u8 eB w' w.heap.size y xs) (Bytes_W (f.get i hi) hl) fun y w' ⟨h1, h2⟩ => hk y w' (f.newO h1 h2)
/-! ### Readers -/
theorem fNewR {b : Value} {xs : List Int} {K : Option Addr → World → Prop} (f : Fr w0 w F) (hb : Nm .u8 w b xs) (hl : xs.length ≤ 10000000000) (hk : ∀ ad y w', Fr w0 w' (sIt ad [y, .int .i64 ((0 : Nat) : Int), .int .i64 0] :: oIt .u8 eB y xs :: F) → K (some ad) w') : gCall P n_num_New shP #[b] w K :=
  gCall_of (nNew_any hb hl) fun _ w' ⟨ad, y, h1, h2⟩ => ⟨some ad, h1, hk ad y w' (h2 f)⟩
theorem fNumR {ad : Addr} {y : Value} {xs : List Int} {a : Nat} {er : Int} {K : Int → World → Prop} (f : Fr w0 w (sIt ad [y, .int .i64 a, .int .i64 er] :: oIt .u8 eB y xs :: F)) (ha : a ≤ xs.length) (hl : xs.length ≤ 10000000000)
    (hk : ∀ w', Fr w0 w' (sIt ad [y, .int .i64 (numR xs a er 18446744073709551615).2.1, .int .i64 (numR xs a er 18446744073709551615).2.2] :: oIt .u8 eB y xs :: F) → K (numR xs a er 18446744073709551615).1 w') : gCall P n_num_Reader_Num (shI .u64) #[.pointer (some ad)] w K :=
  gCall_i (rNum_any (f.rd 0 1 rfl rfl (by decide) ha hl)) fun w' h => hk w' (f.rs 0 rfl h)
theorem fErrR {ad : Addr} {y : Value} {xs : List Int} {a : Nat} {er : Int} {K : Int → World → Prop} (f : Fr w0 w (sIt ad [y, .int .i64 a, .int .i64 er] :: oIt .u8 eB y xs :: F)) (ha : a ≤ xs.length) (hl : xs.length ≤ 10000000000) (hk : K er w) : gCall P n_num_Reader_Err (shI .i64) #[.pointer (some ad)] w K :=
  gCall_i0 (rErr_any (f.rd 0 1 rfl rfl (by decide) ha hl)) hk
theorem fRawR {ad : Addr} {y : Value} {xs : List Int} {a : Nat} {er n : Int} {K : Value → World → Prop} (f : Fr w0 w (sIt ad [y, .int .i64 a, .int .i64 er] :: oIt .u8 eB y xs :: F)) (ha : a ≤ xs.length) (hl : xs.length ≤ 10000000000) (hn : n ≤ 9223372036854775807)
    (hk : ∀ z w', Fr w0 w' (sIt ad [y, .int .i64 (rawR xs a er n).2.1, .int .i64 (rawR xs a er n).2.2] :: oIt .u8 eB y xs :: oIt .u8 eB z (rawR xs a er n).1 :: F) → K z w') : gCall P n_num_Reader_Raw shV #[.pointer (some ad), .int .i64 n] w K := by
  refine gCall_of (rRaw_any (f.rd 0 1 rfl rfl (by decide) ha hl) hn) ?_
  rintro _ w' ⟨z, rfl, h1, h2⟩
  refine ⟨z, rfl, hk z w' ?_⟩
  have f' : Fr w0 w' (sIt ad [y, .int .i64 (rawR xs a er n).2.1, .int .i64 (rawR xs a er n).2.2] :: oIt .u8 eB y xs :: F) := f.rs 0 rfl h1
  have hz : ∀ k, z.ownBlock = some k → w.heap.size ≤ k := fun k hk => (h2.base hk).1
  have hlt : ∀ it ∈ (sIt ad [y, .int .i64 (rawR xs a er n).2.1, .int .i64 (rawR xs a er n).2.2] :: oIt .u8 eB y xs :: F), ∀ k, it.ft k → k < w.heap.size := fun it hi k hk => by
    rcases List.mem_cons.1 hi with rfl | hi
    · exact It.lt (sIt ad [y, .int .i64 a, .int .i64 er]) w k (f.get 0 rfl) hk
    · exact It.lt it w k (f.mem (List.mem_cons_of_mem _ hi)).1 hk
  have f2 := f'.cons (jt := oIt .u8 eB z (rawR xs a er n).1) f.old.size hlt (h2.low (Nat.zero_le _)) hz
  exact f2.picksN 3 [1, 2, 0] (by decide) (by decide)
theorem numR_le {xs : List Int} {a : Nat} {er m : Int} (ha : a ≤ xs.length) : (numR xs a er m).2.1 ≤ xs.length := (numR_at ha).2
theorem rawR_le {xs : List Int} {a : Nat} {er n : Int} (ha : a ≤ xs.length) : (rawR xs a er n).2.1 ≤ xs.length := by
  unfold rawR
  split
  · exact ha
  · split
    · exact ha
    · dsimp only; omega
/-- Slices of which each reads so, in a slice. -/
theorem fTextW {ad : Addr} {v b : Value} {xs ys : List Int} {K : World → Prop} (f : Fr w0 w F) (i : Nat) (hi : F[i]? = some (wIt eB ad v xs)) (hb : ∀ w', Fr w0 w' (F.eraseIdx i) → Nm .u8 w' b ys) (hl : xs.length + ys.length + 10 ≤ 10000000000)
    (hk : ∀ v' w', Fr w0 w' (F.set i (wIt eB ad v' (xs ++ numB ys.length ++ ys))) → K w') : gCall P n_num_Writer_Text shU #[.pointer (some ad), b] w K :=
  gCall_u (Text_any (f.get i hi) (fun w' hc => hb w' (f.oth i hi hc fun k q h => h)) hl) fun w' ⟨v', hw⟩ => hk v' w' (f.wr i hi hw)
theorem NL.of {k : IntKind} {p : Value} {us : List Value} {yss : List (List Int)} (hp : Sl w 1 p us.length us) (hl : us.length = yss.length) (h : ∀ (i : Nat) (u : Value) (ys : List Int), us[i]? = some u → yss[i]? = some ys → Nm k w u ys) : NL k w p yss := ⟨us, by rw [← hl]; exact hp, h⟩
end
end Go.Proofs.YtijimpchglmkhaaV

/- Package num: what is written is read; the laws NumNil and NumBack. -/
namespace Go.Proofs.YtijimpchglmkhaaV
open Go Go.RowKit

theorem drop_head {xs ys : List Int} {a : Nat} {c : Int} (h : xs.drop a = c :: ys) : a < xs.length ∧ rd xs a = c ∧ xs.drop (a + 1) = ys := by
  have hl : a < xs.length := by
    rcases Nat.lt_or_ge a xs.length with h1 | h1
    · exact h1
    · rw [List.drop_of_length_le h1] at h; cases h
  refine ⟨hl, ?_, ?_⟩
  · rw [List.drop_eq_getElem_cons hl] at h
    rw [rd_nat xs a hl]; exact (List.cons.inj h).1
  · rw [List.drop_eq_getElem_cons hl] at h; exact (List.cons.inj h).2
theorem drop_head' {xs : List Int} {a : Nat} (h : a < xs.length) : xs.drop a = rd xs a :: xs.drop (a + 1) := by
  rw [List.drop_eq_getElem_cons h, rd_nat xs a h]
theorem pow7_succ (n : Nat) : ((2 ^ (7 * (n + 1)) : Nat) : Int) = ((2 ^ (7 * n) : Nat) : Int) * 128 := by
  rw [show 7 * (n + 1) = 7 * n + 7 by omega, Nat.pow_add, Int.natCast_mul]; rfl
theorem lookL_numB {xs rest : List Int} {a : Nat}  (f n q : Nat) (v : Int) (hf : f + n = 10) (hq : n > 0 → q > 0) (hb : (q : Int) * ((2 ^ (7 * n) : Nat) : Int) < 18446744073709551616) (hx : xs.drop (a + n) = numB q ++ rest) :
    lookL xs a f n v = (v + (q : Int) * ((2 ^ (7 * n) : Nat) : Int), ((a + n + (numB q).length : Nat) : Int), 0) := by
  induction f generalizing n q v with
  | zero =>
    have hn : n = 10 := by omega
    subst hn
    have := hq (by omega)
    rw [show ((2 ^ (7 * 10) : Nat) : Int) = 1180591620717411303424 from rfl] at hb
    omega
  | succ f ih =>
    have hn9 : n = 9 → q ≤ 1 := fun h9 => by
      subst h9
      rw [show ((2 ^ (7 * 9) : Nat) : Int) = 9223372036854775808 by decide] at hb
      omega
    by_cases h : q < 128
    · rw [numB_lt h] at hx ⊢
      obtain ⟨h1, h2, h3⟩ := drop_head (by simpa using hx)
      rw [lookL, if_neg (by omega), h2, if_neg (fun hh => by have := hn9 hh.1; omega), if_pos (by omega), if_neg (fun hh => by have := hq hh.2; omega), Int.emod_eq_of_lt (by omega) (by omega)]
      rfl
    · rw [numB_ge h] at hx ⊢
      obtain ⟨h1, h2, h3⟩ := drop_head (c := ((q % 128 + 128 : Nat) : Int)) (ys := numB (q / 128) ++ rest) (by rw [hx]; rfl)
      have hn : n ≠ 9 := fun h9 => by have := hn9 h9; omega
      rw [lookL, if_neg (by omega), h2, if_neg (fun hh => hn hh.1), if_neg (by omega)]
      have hdm : ((q % 128 + 128 : Nat) : Int) % 128 = ((q % 128 : Nat) : Int) := by omega
      have hsum : ((q % 128 : Nat) : Int) * ((2 ^ (7 * n) : Nat) : Int) + ((q / 128 : Nat) : Int) * (((2 ^ (7 * n) : Nat) : Int) * 128) = (q : Int) * ((2 ^ (7 * n) : Nat) : Int) := by
        have : (q : Int) = ((q % 128 : Nat) : Int) + ((q / 128 : Nat) : Int) * 128 := by omega
        rw [this, Int.add_mul, Int.mul_assoc, Int.mul_comm 128]
      have hm0 : 0 ≤ ((q % 128 : Nat) : Int) * ((2 ^ (7 * n) : Nat) : Int) := Int.mul_nonneg (by omega) (Int.natCast_nonneg _)
      rw [ih (n + 1) (q / 128) _ (by omega) (fun _ => by omega) (by rw [pow7_succ]; omega) (by rw [← h3, Nat.add_assoc]), hdm, pow7_succ, Int.add_assoc, hsum, List.length_cons]
      congr 2
      omega
theorem lookI_numB {xs rest : List Int} {a q : Nat} (hq : q < 18446744073709551616) (hx : xs.drop a = numB q ++ rest) : lookI xs a = ((q : Int), ((a + (numB q).length : Nat) : Int), 0) := by
  have := lookL_numB 10 0 q 0 (a := a) rfl (by omega) (by rw [show ((2 ^ (7 * 0) : Nat) : Int) = 1 by decide]; omega) hx
  unfold lookI
  rw [this, show ((2 ^ (7 * 0) : Nat) : Int) = 1 by decide]; simp
theorem numB_lookL {xs : List Int} {a : Nat} (hx : inR .u8 xs) : ∀ (f n : Nat) (v : Int), (lookL xs a f n v).2.2 = 0 → ∃ q : Nat, (lookL xs a f n v).1 = v + (q : Int) * ((2 ^ (7 * n) : Nat) : Int) ∧ (lookL xs a f n v).2.1 = ((a + n + (numB q).length : Nat) : Int) ∧ (n > 0 → q > 0) ∧ ∃ rest, xs.drop (a + n) = numB q ++ rest
  | 0, n, v, h => by simp [lookL] at h
  | f + 1, n, v, h => by
    rw [lookL] at h ⊢
    split at h
    · simp at h
    · rename_i h1
      rw [if_neg h1]
      have hc := rd_u8 hx ((a + n : Nat) : Int)
      have hd := drop_head' (xs := xs) (a := a + n) (by omega)
      generalize rd xs ((a + n : Nat) : Int) = c at *
      split at h
      · simp at h
      · rename_i h2
        rw [if_neg h2]
        split at h
        · rename_i h3
          rw [if_pos h3]
          split at h
          · simp at h
          · rename_i h4
            rw [if_neg h4]
            refine ⟨c.toNat, ?_, ?_, by omega, xs.drop (a + n + 1), ?_⟩
            · dsimp only; rw [Int.emod_eq_of_lt hc.1 h3, Int.toNat_of_nonneg hc.1]
            · rw [numB_lt (by omega)]; rfl
            · rw [numB_lt (by omega), hd, Int.toNat_of_nonneg hc.1]; rfl
        · rename_i h3
          rw [if_neg h3]
          obtain ⟨q, e1, e2, e3, rest, e4⟩ := numB_lookL hx f (n + 1) _ h
          have hq := e3 (by omega)
          have hnb : numB ((c % 128).toNat + q * 128) = c :: numB q := by
            rw [numB_ge (by omega), show ((c % 128).toNat + q * 128) / 128 = q by omega]
            congr 1; omega
          refine ⟨(c % 128).toNat + q * 128, ?_, ?_, fun _ => by omega, rest, ?_⟩
          · rw [e1, pow7_succ, Int.add_assoc]
            congr 1
            have : (((c % 128).toNat + q * 128 : Nat) : Int) = c % 128 + (q : Int) * 128 := by omega
            rw [this, Int.add_mul, Int.mul_assoc, Int.mul_comm 128]
          · rw [e2, hnb, List.length_cons]; congr 1; omega
          · rw [hnb, hd, show a + n + 1 = a + (n + 1) by omega, e4]; rfl
theorem numB_lookI {xs : List Int} {a : Nat} (hx : inR .u8 xs) (h : (lookI xs a).2.2 = 0) : ∃ q : Nat, (lookI xs a).1 = q ∧ (lookI xs a).2.1 = ((a + (numB q).length : Nat) : Int) ∧ ∃ rest, xs.drop a = numB q ++ rest := by
  obtain ⟨q, e1, e2, _, rest, e4⟩ := numB_lookL hx 10 0 0 h
  exact ⟨q, by unfold lookI; rw [e1, show ((2 ^ (7 * 0) : Nat) : Int) = 1 by decide]; simp, e2, rest, e4⟩
theorem le_little {v : Int} (h : 0 ≤ v ∧ v < 18446744073709551616) : leN (littleB v 8) = v := by simp [littleB, byteAt, leN]; omega
theorem be_big {v : Int} (h : 0 ≤ v ∧ v < 18446744073709551616) : beN 0 (bigB v 8) = v := by simp [bigB, byteAt, beN]; omega
theorem numR_of {xs rest : List Int} {a q : Nat} {m : Int} (hq : q < 18446744073709551616) (hm : (q : Int) ≤ m) (hx : xs.drop a = numB q ++ rest) : numR xs a 0 m = ((q : Int), a + (numB q).length, 0) := by
  unfold numR
  rw [lookI_numB hq hx, if_neg (by simp), if_neg (by simp; omega), if_neg (by simp)]; rfl
theorem drop_app {xs ys rest : List Int} {a : Nat} (hx : xs.drop a = ys ++ rest) : xs.drop (a + ys.length) = rest := by
  rw [← List.drop_drop, hx, List.drop_left]
theorem drop_len {xs ys rest : List Int} {a : Nat} (hx : xs.drop a = ys ++ rest) : ys.length ≤ xs.length - a := by
  have := congrArg List.length hx; simp at this; omega
theorem rawR_of {xs ys rest : List Int} {a : Nat} {m : Int} (hm : m = ys.length) (ha : a ≤ xs.length) (hx : xs.drop a = ys ++ rest) : rawR xs a 0 m = (ys, a + ys.length, 0) := by
  have hl := drop_len hx
  subst hm
  unfold rawR
  by_cases h0 : ys.length = 0
  · have : ys = [] := List.eq_nil_of_length_eq_zero h0
    subst this; rw [if_pos (by simp)]; rfl
  · rw [if_neg (by omega), if_neg (by omega), Int.toNat_natCast, hx, List.take_left]
theorem textR_of {xs ys rest : List Int} {a : Nat} {m : Int} (hq : ys.length < 18446744073709551616) (hm : (ys.length : Int) ≤ m) (ha : a ≤ xs.length) (hx : xs.drop a = numB ys.length ++ (ys ++ rest)) : textR xs a 0 m = (ys, a + (numB ys.length).length + ys.length, 0) := by
  unfold textR
  have hd := drop_app hx
  have hl := drop_len hx
  have : (if 0 > m then 0 else m) = m := by split <;> omega
  rw [if_neg (by simp), this, numR_of hq hm hx]
  dsimp only
  rw [rawR_of (ys := ys) rfl (by omega) hd, if_neg (by simp)]

/-! ### Laws -/
/-- A writer in memory that is new since w0. -/
def FWr (w0 w : World) (ad : Addr) (xs : List Int) : Prop := ∃ v, W1 w ad v xs ∧ Ev w0 w ∧ w0.heap.size ≤ ad.block ∧ ∀ g, v.ownBlock = some g → w0.heap.size ≤ g
theorem FWr.to {w0 w w' : World} {ad : Addr} {v : Value} {ys : List Int} (h1 : Ev w0 w) (h2 : w0.heap.size ≤ ad.block) (h3 : ∀ g, v.ownBlock = some g → w0.heap.size ≤ g) (h : ∃ v', WS w w' ad v v' ys) : FWr w0 w' ad ys := by
  obtain ⟨v', hW⟩ := h
  have := WrS.evn h1 hW h2 h3
  exact ⟨v', hW.1, this.1, h2, this.2⟩
theorem FWr.ev {w0 w w' : World} {ad : Addr} {xs : List Int} (h : FWr w0 w ad xs) (he : Ev w w') : FWr w0 w' ad xs := by
  obtain ⟨v, h1, h2, h3, h4⟩ := h; exact ⟨v, h1.ev he, h2.trans he, h3, h4⟩
theorem newW {w0 w : World} {K : Addr → World → Prop} (h0 : Ev w0 w) (hk : ∀ ad w', FWr w0 w' ad [] → K ad w') : gAlloc P t_num_Writer w K :=
  gAlloc_of (z := .agg #[.slice none 0 0]) (by kernel_rfl) fun ad w' h1 had hs hS => hk ad w' ⟨.slice none 0 0, ⟨hS, ON.nil _ _ _ _, fun h => by cases h⟩, h0.trans h1, by rw [had]; exact h0.size, fun g hg => by cases hg⟩
theorem lNum {w0 w : World} {ad : Addr} {xs : List Int} {n : Int} {K : World → Prop} (h : FWr w0 w ad xs) (hn : 0 ≤ n ∧ n < 18446744073709551616) (hl : xs.length + 10 ≤ 10000000000) (hk : ∀ w', FWr w0 w' ad (xs ++ numB n.toNat) → K w') : gCall P n_num_Writer_Num shU #[.pointer (some ad), .int .u64 n] w K := by
  obtain ⟨v, h1, h2, h3, h4⟩ := h; exact gCall_u (Num_any h1 hn hl) fun w' hw => hk w' (FWr.to h2 h3 h4 hw)
theorem lText {w0 w : World} {ad : Addr} {b : Value} {xs ys : List Int} {K : World → Prop} (h : FWr w0 w ad xs) (hb : Nm .u8 w0 b ys) (hl : xs.length + ys.length + 10 ≤ 10000000000) (hk : ∀ w', FWr w0 w' ad (xs ++ numB ys.length ++ ys) → K w') : gCall P n_num_Writer_Text shU #[.pointer (some ad), b] w K := by
  obtain ⟨v, h1, h2, h3, h4⟩ := h
  refine gCall_u (Text_any h1 (fun w' hc => hb.ev (h2.new hc fun n i hf => ?_)) hl) fun w' hw => hk w' (FWr.to h2 h3 h4 hw)
  rcases hf with rfl | hf
  · exact h3
  · exact h4 _ hf
theorem lBytes {w0 w : World} {ad : Addr} {xs : List Int} {K : Value → World → Prop} (h : FWr w0 w ad xs) (hl : xs.length ≤ 10000000000) (hk : ∀ y w', Ev w w' → ON .u8 eB w' w.heap.size y xs → K y w') : gCall P n_num_Writer_Bytes shV #[.pointer (some ad)] w K := by
  obtain ⟨v, h1, h2, h3, h4⟩ := h; exact gCall_v (Bytes_W h1 hl) fun y w' hw => hk y w' hw.1 hw.2
end Go.Proofs.YtijimpchglmkhaaV

/- Package words: Pack, Unpack. -/
namespace Go.Proofs.YtijimpchglmkhaaV
open Go Go.RowKit
def txtB (L : List (List Int)) : List Int := (L.map fun u => numB u.length ++ u).flatten
theorem txtB_next {L : List (List Int)} {k : Nat} (hk : k < L.length) : txtB (L.take (k + 1)) = txtB (L.take k) ++ numB L[k].length ++ L[k] := by
  unfold txtB
  rw [List.take_succ_eq_append_getElem hk, List.map_append, List.flatten_append]; simp
def findW (xs : List Int) : List (List Int) := (findU (wordsU xs)).map iU
def packWd (xs : List Int) : List Int × Bool := if findW xs = [] ∨ xs.length > 1048576 then ([], false) else (numB (findW xs).length ++ txtB (findW xs) ++ applyW (findW xs) xs, true)
theorem findU_sub (ws : List (List UInt8)) : (findU ws).length ≤ 64 ∧ ∀ s ∈ findU ws, s ∈ ws ∧ 1 < ws.count s := by
  unfold findU
  refine ⟨by rw [List.length_take]; omega, fun s hs => ?_⟩
  have := List.mem_filter.1 (List.mem_of_mem_take hs)
  exact ⟨mem_sortedU.1 this.1, of_decide_eq_true this.2⟩
theorem findW_rg (xs : List Int) : (findW xs).length ≤ 64 ∧ ∀ u ∈ findW xs, 3 ≤ u.length ∧ u.length ≤ 24 := by
  unfold findW
  refine ⟨by rw [List.length_map]; exact (findU_sub _).1, fun u hu => ?_⟩
  obtain ⟨s, hs, rfl⟩ := List.mem_map.1 hu
  rw [iU_len]
  exact (wordsU_len xs.length xs (Nat.le_refl _)).2 s ((findU_sub _).2 s hs).1
theorem apS_len (L : List (List Int)) : ∀ (f : Nat) (xs : List Int), xs.length ≤ f → (apS L f xs).length ≤ 2 * xs.length
  | 0, xs, _ => by simp [apS]
  | f + 1, xs, h => by
    rw [apS]
    by_cases hx : xs = []
    · rw [if_pos hx]; exact Nat.zero_le _
    · have h0 : 0 < xs.length := List.length_pos_iff.2 hx
      have h1 := mxR_pos xs
      have h2 := tokW_len L xs
      have h3 : mxR xs ≤ xs.length := by unfold mxR; have := runN_le xs; split <;> omega
      have ih := apS_len L f (xs.drop (mxR xs)) (by rw [List.length_drop]; omega)
      rw [List.length_drop] at ih
      rw [if_neg hx, List.length_append]; omega
theorem applyW_len (L : List (List Int)) (xs : List Int) : (applyW L xs).length ≤ 2 * xs.length := apS_len L _ xs (Nat.le_refl _)
theorem txtB_len {L : List (List Int)} (h : ∀ u ∈ L, u.length ≤ 24) : (txtB L).length ≤ L.length * 34 := by
  induction L with
  | nil => simp [txtB]
  | cons u L ih =>
    have h1 := ih fun x hx => h x (List.mem_cons_of_mem _ hx)
    have h2 := h u List.mem_cons_self
    have h3 : (numB u.length).length ≤ 10 := numB_len64 (by omega)
    have e : txtB (u :: L) = numB u.length ++ u ++ txtB L := rfl
    rw [e, List.length_append, List.length_append, List.length_cons, Nat.succ_mul]; omega
section
variable {w0 w : World} {F : List It}
theorem wdP_nl {v : Value} {T : List (Value × List Int)} (f : Fr w0 w (wdP v T ++ F)) : NL .u8 w v (T.map (·.2)) := by
  obtain ⟨h1, h2⟩ := wdP_at f
  refine ⟨T.map (·.1), by rw [List.length_map]; exact h1, fun i u xs hu hx => ?_⟩
  rw [List.getElem?_map] at hu hx
  cases ht : T[i]? with
  | none => rw [ht] at hu; cases hu
  | some t =>
    rw [ht] at hu hx
    simp at hu hx
    subst hu; subst hx
    exact h2 t (List.mem_of_getElem? ht)
theorem FindE.nl {xs : List Int} {e : Ending} {w' : World} (h : FindE w (findU (wordsU xs)) e w') : ∃ (v : Value) (T : List (Value × List Int)), e = .returned v ∧ T.map (·.2) = findW xs ∧ Fr w w' (wdP v T) ∧ NL .u8 w' v (findW xs) := by
  obtain ⟨v, T, rfl, hT, f⟩ := h
  refine ⟨v, T, rfl, hT, f, ?_⟩
  have := wdP_nl (F := []) (by rw [List.append_nil]; exact f)
  rwa [hT] at this
theorem gLen_nl {v : Value} {L : List (List Int)} {K : Nat → Prop} (h : NL .u8 w v L) (hk : K L.length) : gLen P t_sl_sl_uint8 v K := let ⟨_, h1, _⟩ := h; gLen_slv h1 hk
theorem wPack_any {b : Value} {xs : List Int} (hb : Nm .u8 w b xs) (hl : xs.length ≤ 10000000) : Calls P n_words_Pack #[b] w (TupB w (packWd xs)) := by
  refine of_words_Pack (gCall_of (Find_any hb hl) ?_)
  intro e w1 hF
  obtain ⟨t9, T, rfl, hT, f1, hN1⟩ := hF.nl
  obtain ⟨hL64, hLu⟩ := findW_rg xs
  have hal := applyW_len (findW xs) xs
  have htl := txtB_len (L := findW xs) fun u hu => (hLu u hu).2
  have no : (findW xs = [] ∨ xs.length > 1048576) → TupB w (packWd xs) (.returned (.tuple #[.slice none 0 0, .bool false])) w1 := fun h => by
    unfold packWd; rw [if_pos h]; exact ⟨_, rfl, f1.old, ON.nil _ _ _ _⟩
  refine ⟨t9, rfl, fun w' => w' = w1 ∧ ¬ (findW xs = [] ∨ xs.length > 1048576), gLen_nl hN1 (gIf_neqq (fun hne => gLen_nm (hb.ev f1.old) (gIf_dec (fun hgt => no (.inr (by omega))) (fun hle => ⟨rfl, fun h => ?_⟩))) (fun he => no (.inl (List.eq_nil_of_length_eq_zero (by omega))))), ?_⟩
  · rcases h with h | h
    · rw [h] at hne; exact hne rfl
    · omega
  rintro _ w2 ⟨hw2, hok⟩
  obtain rfl : w1 = w2 := hw2.symm
  unfold packWd
  rw [if_neg hok]
  obtain ⟨L, hL⟩ : ∃ L, L = findW xs := ⟨_, rfl⟩
  rw [← hL] at hT hN1 hL64 hLu hal htl hok ⊢
  have hxl : xs.length ≤ 1048576 := by omega
  have nlF : ∀ {w' : World} {G : List It}, Fr w w' (G ++ wdP t9 T) → NL .u8 w' t9 L := fun {w' G} f => by
    have := wdP_nl (F := []) (by rw [List.append_nil]; exact (by have h := f.dropN G.length; rwa [List.drop_left' rfl] at h))
    rwa [hT] at this
  refine fNewW f1 fun o v w3 f3 => gLen_nl (nlF (G := [_]) f3) ?_
  rw [show u64 (L.length : Int) = (L.length : Int) by rw [u64_def]; omega]
  refine fNum f3 0 rfl (by omega) (by simp) fun v4 w4 f4 => gLen_nl (nlF (G := [_]) f4) ?_
  have f4 : Fr w w4 (wIt eB o v4 ([] ++ numB (L.length : Int).toNat) :: wdP t9 T) := f4
  rw [List.nil_append, Int.toNat_natCast] at f4
  have hnl : (numB L.length).length ≤ 10 := numB_len64 (by omega)
  have htk : ∀ k, (txtB (L.take k)).length ≤ 64 * 34 := fun k => by
    have h1 := txtB_len (L := L.take k) fun u hu => (hLu u (List.mem_of_mem_take hu)).2
    have h2 := Nat.mul_le_mul_right 34 (show (L.take k).length ≤ 64 by rw [List.length_take]; omega)
    omega
  refine ⟨fun i w' => ∃ (k : Nat) (v' : Value), i = (k : Int) ∧ k ≤ L.length ∧ Fr w w' (wIt eB o v' (numB L.length ++ txtB (L.take k)) :: wdP t9 T), fun i _ => (L.length - i).toNat, ⟨0, v4, rfl, Nat.zero_le _, by simpa [txtB] using f4⟩, ?_⟩
  rintro _ i w5 ⟨k, v5, rfl, hk, f5⟩
  have hk5 := htk k
  refine gIf_dec (fun hlt => ?_) (fun hge => ?_)
  · have hkL : k < L.length := by omega
    have hu := hLu L[k] (List.getElem_mem hkL)
    have hTl : T.length = L.length := by rw [← hT, List.length_map]
    have hTk : T[k].2 = L[k] := by simp only [← hT, List.getElem_map]
    have wd : ∀ {w' : World}, Fr w w' (wdP t9 T) → Sl w' 1 t9 T.length (T.map (·.1)) ∧ ∀ u ∈ T, Nm .u8 w' u.1 u.2 := fun f => wdP_at (F := []) (by rw [List.append_nil]; exact f)
    refine gIdx_1 (wd (f5.dropN 1)).1 (by omega) (by omega) fun a u hua hc _ => ?_
    have hue : u = T[k].1 := by
      rw [Int.toNat_natCast, List.getElem?_map, List.getElem?_eq_getElem (by omega)] at hua
      simpa using hua.symm
    subst hue
    refine gLoad_v hc ?_
    refine fTextW (ys := L[k]) f5 0 rfl (fun w' f' => by rw [← hTk]; exact (wd f').2 T[k] (List.getElem_mem _)) (by rw [List.length_append]; omega) fun v6 w6 f6 => ⟨⟨k + 1, v6, by rw [i64_id (by omega) (by omega)]; omega, hkL, ?_⟩, by dsimp only; rw [i64_id (by omega) (by omega)]; omega⟩
    · rw [txtB_next hkL]; simpa [List.append_assoc] using f6
  · obtain rfl : k = L.length := by omega
    rw [List.take_length] at f5
    have htl2 : (txtB L).length ≤ 64 * 34 := by have := htk L.length; rwa [List.take_length] at this
    refine gCall_v (Apply_any (hb.ev f5.old) (by omega) (nlF (G := [_]) f5)) fun t33 w7 ⟨h7, o7⟩ => ?_
    rw [List.take_of_length_le (show L.length ≤ 64 by omega)] at o7
    have f7 := f5.newO h7 o7
    refine fLitV [t33] f7 rfl rfl (fun u hu => by rw [List.mem_singleton.1 hu]; exact o7.nm.one) fun t34 w8 f8 => ?_
    refine fRawW (yss := [applyW L xs]) f8 2 rfl (fun w' f' => NL.of (f'.sl 0 rfl) rfl fun j u ys hu hy => ?_) (by simp only [List.flatten_cons, List.flatten_nil, List.append_nil, List.length_append]; omega) (by simp) fun v9 w9 f9 => ?_
    · rcases j with _ | j
      · simp at hu hy; subst hu; subst hy; exact f'.nm 1 rfl
      · simp at hu
    · simp only [List.flatten_cons, List.flatten_nil, List.append_nil] at f9
      refine fBytesW f9 2 rfl (by simp only [List.length_append]; omega) fun y w10 f10 => ⟨y, rfl, f10.old, f10.on 0 rfl⟩
end
end Go.Proofs.YtijimpchglmkhaaV

/- Package words: Unpack. -/
namespace Go.Proofs.YtijimpchglmkhaaV
open Go Go.RowKit
/-- Words, one behind the other: they, and where the reader stands; or the fault. -/
def wordsR (xs : List Int) (a0 : Nat) : Nat → (List (List Int) × Nat) ⊕ Int
  | 0 => .inl ([], a0)
  | j + 1 => match wordsR xs a0 j with
    | .inr e => .inr e
    | .inl s =>
      let t := textR xs s.2 0 24
      if t.2.2 ≠ 0 then .inr t.2.2
      else if t.1.length < 3 ∨ runN t.1 < t.1.length then .inr 4
      else .inl (s.1 ++ [t.1], t.2.1)
def unpackWd (xs : List Int) (limit : Int) : List Int × Int :=
  let s := numR xs 0 0 18446744073709551615
  if s.2.2 ≠ 0 then ([], s.2.2)
  else if s.1 < 1 ∨ s.1 > 64 then ([], 4)
  else match wordsR xs s.2.1 s.1.toNat with
    | .inr e => ([], e)
    | .inl c => undoW c.1 (xs.drop c.2) (if 1048576 < limit then 1048576 else limit)
theorem textR_at {xs : List Int} {a : Nat} {er m : Int} (ha : a ≤ xs.length) : (textR xs a er m).2.1 ≤ xs.length := by
  unfold textR
  dsimp only
  generalize (if 0 > m then 0 else m) = mm
  by_cases h : er ≠ 0
  · rw [if_pos h]; exact ha
  · rw [if_neg h]
    split
    · exact ha
    · exact rawR_le (numR_le ha)
theorem textR_short {xs : List Int} {a : Nat} : (textR xs a 0 24).1.length ≤ 24 := by
  unfold textR
  dsimp only
  rw [if_neg (show ¬ ((0 : Int) ≠ 0) from fun h => h rfl), if_neg (show ¬ ((0 : Int) > 24) by decide)]
  have hn : (numR xs a 0 24).1 ≤ 24 := by
    unfold numR
    rw [if_neg (show ¬ ((0 : Int) ≠ 0) from fun h => h rfl)]
    split
    · exact (by decide : (0 : Int) ≤ 24)
    · split
      · exact (by decide : (0 : Int) ≤ 24)
      · rename_i h1 h2
        have : (lookI xs a).2.2 = 0 := Decidable.byContradiction h2
        exact Decidable.byContradiction fun h3 => h1 ⟨this, Int.lt_of_not_ge h3⟩
  generalize numR xs a 0 24 = q at *
  split
  · exact Nat.zero_le _
  · unfold rawR
    split
    · exact Nat.zero_le _
    · split
      · exact Nat.zero_le _
      · rw [List.length_take]; omega
theorem wordsR_rg {xs : List Int} {a0 : Nat} (ha : a0 ≤ xs.length) : ∀ (j : Nat) {s : List (List Int) × Nat}, wordsR xs a0 j = .inl s → s.1.length = j ∧ s.2 ≤ xs.length ∧ ∀ u ∈ s.1, u.length ≤ 24
  | 0, s, h => by
    rw [wordsR] at h; injection h with h; subst h
    exact ⟨rfl, ha, fun u hu => by cases hu⟩
  | j + 1, s, h => by
    rw [wordsR] at h
    split at h
    · cases h
    · rename_i s' hs'
      have ih := wordsR_rg ha j hs'
      dsimp only at h
      split at h
      · cases h
      · split at h
        · cases h
        · injection h with h; subst h
          refine ⟨by simp [ih.1], textR_at ih.2.1, fun u hu => ?_⟩
          rcases List.mem_append.1 hu with hu | hu
          · exact ih.2.2 u hu
          · rw [List.mem_singleton.1 hu]; exact textR_short
theorem wordsR_err {xs : List Int} {a0 : Nat} {e : Int} {j : Nat} (h : wordsR xs a0 j = .inr e) : ∀ k, j ≤ k → wordsR xs a0 k = .inr e := by
  intro k hk
  induction k with
  | zero => rw [show j = 0 by omega] at h; exact h
  | succ k ih =>
    by_cases hjk : j = k + 1
    · rw [← hjk]; exact h
    · rw [wordsR, ih (by omega)]
section
variable {w0 w : World} {F : List It}
variable {G : List It}
theorem Fr.permW (hp : F.Perm G) : Fr w0 w F → Fr w0 w G := by
  induction hp with
  | nil => exact fun h => h
  | cons a hp ih => exact fun h => ⟨h.1, h.2.1, fun jt hj => h.2.2.1 jt (hp.mem_iff.2 hj), ih h.2.2.2⟩
  | swap a b l =>
    intro h
    refine ⟨h.2.2.2.1, h.2.2.2.2.1, fun jt hj k hk hjk => ?_, h.1, h.2.1, fun jt hj => h.2.2.1 jt (by simp [hj]), h.2.2.2.2.2.2⟩
    rcases List.mem_cons.1 hj with rfl | hj
    · exact h.2.2.1 a (by simp) k hjk hk
    · exact h.2.2.2.2.2.1 jt hj k hk hjk
  | trans _ _ ih1 ih2 => exact fun h => ih2 (ih1 h)
noncomputable def wdO (v : Value) (T : List (Value × List Int)) : List It := rIt eW 1 v T.length (T.map (·.1)) :: T.reverse.map fun u => oIt .u8 eB u.1 u.2
theorem wdO_step {out v : Value} {T : List (Value × List Int)} {xs : List Int} {K : Value → World → Prop} (f : Fr w0 w (oIt .u8 eB v xs :: wdO out T ++ F)) (hl : T.length ≤ 1000) (hk : ∀ out' w', Fr w0 w' (wdO out' (T ++ [(v, xs)]) ++ F) → K out' w') :
    gLit P t_sl_sl_uint8 1 #[(0, v)] w fun t20 w5 => gApp P #[t_sl_sl_uint8, t_sl_sl_uint8] t_sl_sl_uint8 #[out, t20] w5 K := by
  have hn := f.nm 0 rfl
  have ho : v.oneCell' = true := by obtain ⟨a, c, rfl, _⟩ := hn.shape; rfl
  refine fLitK [v] f rfl rfl (fun u hu => by rw [List.mem_singleton.1 hu]; exact hn.one) fun t5 w5 k5 f5 s5 => ?_
  refine fAppK 24 (m := 1) f5 1 rfl s5 (fun x hx => by rw [List.mem_singleton.1 hx]; exact ho) (by omega) (by unfold maxLen; omega) (fun v' w6 k6 f6 => hk v' w6 ?_) (by kernel_rfl)
  have f7 := f6.picksN 2 [1, 0] (by decide) (by decide)
  have e1 : wdO v' (T ++ [(v, xs)]) ++ F = rIt eW 1 v' (T.length + 1) (T.map (·.1) ++ [v]) :: oIt .u8 eB v xs :: ((T.reverse.map fun u => oIt .u8 eB u.1 u.2) ++ F) := by
    unfold wdO; rw [List.map_append, List.length_append, List.reverse_append]; rfl
  rw [e1]; exact f7
theorem wdO_nl {v : Value} {T : List (Value × List Int)} (f : Fr w0 w (wdO v T ++ F)) : NL .u8 w v (T.map (·.2)) := by
  refine ⟨T.map (·.1), by rw [List.length_map]; exact f.row 0 rfl, fun i u xs hu hx => ?_⟩
  rw [List.getElem?_map] at hu hx
  cases ht : T[i]? with
  | none => rw [ht] at hu; cases hu
  | some t =>
    rw [ht] at hu hx
    simp at hu hx
    subst hu; subst hx
    have hm : oIt .u8 eB t.1 t.2 ∈ wdO v T ++ F := List.mem_append_left _ (List.mem_cons_of_mem _ (List.mem_map.2 ⟨t, List.mem_reverse.2 (List.mem_of_getElem? ht), rfl⟩))
    exact ON.nm (e := eB) (B := 0) (f.mem hm).1
theorem fTextI {ad : Addr} {y : Value} {xs : List Int} {a : Nat} {er n : Int} {K : Value → World → Prop} (f : Fr w0 w (sIt ad [y, .int .i64 a, .int .i64 er] :: oIt .u8 eB y xs :: F)) (ha : a ≤ xs.length) (hl : xs.length ≤ 10000000000) (hn : n ≤ 9223372036854775807)
    (hk : ∀ z w', Fr w0 w' (sIt ad [y, .int .i64 (textR xs a er n).2.1, .int .i64 (textR xs a er n).2.2] :: oIt .u8 eB y xs :: oIt .u8 eB z (textR xs a er n).1 :: F) → K z w') : gCall P n_num_Reader_Text shV #[.pointer (some ad), .int .i64 n] w K := by
  refine gCall_of (rText_any (f.rd 0 1 rfl rfl (by decide) ha hl) hn) ?_
  rintro _ w' ⟨z, rfl, h1, h2⟩
  refine ⟨z, rfl, hk z w' ?_⟩
  have f' : Fr w0 w' (sIt ad [y, .int .i64 (textR xs a er n).2.1, .int .i64 (textR xs a er n).2.2] :: oIt .u8 eB y xs :: F) := f.rs 0 rfl h1
  have hz : ∀ k, z.ownBlock = some k → w.heap.size ≤ k := fun k hk => (h2.base hk).1
  have hlt : ∀ it ∈ (sIt ad [y, .int .i64 (textR xs a er n).2.1, .int .i64 (textR xs a er n).2.2] :: oIt .u8 eB y xs :: F), ∀ k, it.ft k → k < w.heap.size := fun it hi k hk => by
    rcases List.mem_cons.1 hi with rfl | hi
    · exact It.lt (sIt ad [y, .int .i64 a, .int .i64 er]) w k (f.get 0 rfl) hk
    · exact It.lt it w k (f.mem (List.mem_cons_of_mem _ hi)).1 hk
  have f2 := f'.cons (jt := oIt .u8 eB z (textR xs a er n).1) f.old.size hlt (h2.low (Nat.zero_le _)) hz
  exact f2.picksN 3 [1, 2, 0] (by decide) (by decide)
theorem wUnpack_any {x : Value} {xs : List Int} {limit : Int} (hb : Nm .u8 w x xs) (hl : xs.length ≤ 10000000) : Calls P n_words_Unpack #[x, .int .i64 limit] w (TupE w (unpackWd xs limit)) := by
  refine of_words_Unpack (fNewR (Fr.start w) hb (by omega) fun ad y w1 f1 => fNumR f1 (Nat.zero_le _) (by omega) fun w2 f2 => ?_)
  have ha := numR_le (xs := xs) (a := 0) (er := 0) (m := 18446744073709551615) (Nat.zero_le _)
  have hnr := (numR_rng (xs := xs) (a := 0) (er := 0) (most := 18446744073709551615) hb.2).1
  obtain ⟨s, hs⟩ : ∃ s, s = numR xs 0 0 18446744073709551615 := ⟨_, rfl⟩
  unfold unpackWd
  rw [← hs] at f2 ha hnr ⊢
  dsimp only
  have nil : ∀ {w' : World} {e : Int} {R : List Int × Int}, Ev w w' → R = ([], e) → TupE w R (.returned (.tuple #[.slice none 0 0, .int .i64 e])) w' := fun h he => by
    rw [he]; exact ⟨_, rfl, h, ON.nil _ _ _ _⟩
  refine ⟨fun w' => w' = w2 ∧ s.2.2 = 0 ∧ 1 ≤ s.1 ∧ s.1 ≤ 64, fErrR f2 ha (by omega) (gIf_neq (fun hne => fErrR f2 ha (by omega) (nil f2.old (by rw [if_pos hne]))) (fun he => gIf_ndec (fun h1 => gIf_dec (fun h64 => nil f2.old (by rw [if_neg (by omega), if_pos (.inr h64)])) (fun h64 => ⟨rfl, he, by omega, by omega⟩)) (fun h1 => nil f2.old (by rw [if_neg (by omega), if_pos (.inl (by omega))])))), ?_⟩
  rintro _ w3 ⟨hw3, he, h1, h64⟩
  obtain rfl : w2 = w3 := hw3.symm
  rw [if_neg (by omega), if_neg (by omega)]
  obtain ⟨n, hn⟩ : ∃ n : Nat, s.1 = (n : Int) := ⟨s.1.toNat, by omega⟩
  obtain ⟨a0, ha0⟩ : ∃ a0, a0 = s.2.1 := ⟨_, rfl⟩
  rw [he, ← ha0] at f2
  rw [← ha0] at ha ⊢
  rw [hn, Int.toNat_natCast]
  obtain ⟨RES, hRES⟩ : ∃ RES, RES = (match wordsR xs a0 n with | .inr e => ([], e) | .inl c => undoW c.1 (xs.drop c.2) (if 1048576 < limit then 1048576 else limit)) := ⟨_, rfl⟩
  rw [← hRES]
  refine ⟨fun out i w' => ∃ (k : Nat) (T : List (Value × List Int)) (a : Nat), i = (k : Int) ∧ k ≤ n ∧ wordsR xs a0 k = .inl (T.map (·.2), a) ∧ Fr w w' (sIt ad [y, .int .i64 a, .int .i64 0] :: oIt .u8 eB y xs :: wdO out T), fun _ i _ => (n - i).toNat, ⟨0, [], a0, rfl, Nat.zero_le _, rfl, ?_⟩, ?_⟩
  · exact (f2.nilR eW 1).picksN 3 [1, 2, 0] (by decide) (by decide)
  rintro _ out i w4 ⟨k, T, a, rfl, hk, hW, f4⟩
  obtain ⟨r1, r2, r3⟩ := wordsR_rg ha k hW
  have hTl : T.length = k := by rw [← r1, List.length_map]
  refine gIf_dec (fun hlt => ?_) (fun hge => ?_)
  · refine fTextI f4 r2 (by omega) (by decide) fun z w5 f5 => ?_
    have hat := textR_at (xs := xs) (a := a) (er := 0) (m := 24) r2
    have hsh := textR_short (xs := xs) (a := a)
    have hst : wordsR xs a0 (k + 1) = if (textR xs a 0 24).2.2 ≠ 0 then .inr (textR xs a 0 24).2.2 else if (textR xs a 0 24).1.length < 3 ∨ runN (textR xs a 0 24).1 < (textR xs a 0 24).1.length then .inr 4 else .inl (T.map (·.2) ++ [(textR xs a 0 24).1], (textR xs a 0 24).2.1) := by rw [wordsR, hW]
    obtain ⟨t, ht⟩ : ∃ t, t = textR xs a 0 24 := ⟨_, rfl⟩
    rw [← ht] at f5 hat hsh hst
    have fault : ∀ {e : Int} {w' : World}, Ev w w' → wordsR xs a0 (k + 1) = .inr e → TupE w RES (.returned (.tuple #[.slice none 0 0, .int .i64 e])) w' := fun {e w'} hev h => nil hev (by rw [hRES, wordsR_err h n (by omega)])
    refine fErrR f5 hat (by omega) (gIf_neq (fun hne => fErrR f5 hat (by omega) (fault f5.old (by rw [hst, if_pos hne]))) (fun he0 => ?_))
    rw [if_neg (by omega)] at hst
    have hN := f5.nm 2 rfl
    refine gLen_nm hN (gIf_ndec (fun h3 => gCall_of (run_any hN (by omega)) ?_) (fun h3 => fault f5.old (by rw [hst, if_pos (.inl (by omega))])))
    rintro _ w6 ⟨rfl, hw6⟩
    obtain rfl : w5 = w6 := hw6.symm
    refine ⟨_, rfl, gLen_nm hN (gIf_dec (fun hr => fault f5.old (by rw [hst, if_pos (.inr (by omega))])) (fun hr => ?_))⟩
    rw [if_neg (by omega)] at hst
    rw [he0] at f5
    have f7 : Fr w w5 (oIt .u8 eB z t.1 :: wdO out T ++ [sIt ad [y, .int .i64 t.2.1, .int .i64 0], oIt .u8 eB y xs]) :=
      (f5.picksN 3 [2, 0, 1] (by decide) (by decide)).permW (by
        have e : ([sIt ad [y, .int .i64 (t.2.1 : Nat), .int .i64 0], oIt .u8 eB y xs] ++ wdO out T).Perm (wdO out T ++ [sIt ad [y, .int .i64 (t.2.1 : Nat), .int .i64 0], oIt .u8 eB y xs]) := List.perm_append_comm
        exact List.Perm.cons (oIt .u8 eB z t.1) e)
    refine wdO_step f7 (by omega) fun out' w8 f8 => ⟨⟨k + 1, T ++ [(z, t.1)], t.2.1, by rw [u64_def]; omega, by omega, ?_, ?_⟩, by dsimp only; rw [u64_def]; omega⟩
    · rw [hst, List.map_append]; rfl
    · exact f8.permW (List.perm_append_comm (l₂ := [sIt ad [y, .int .i64 (t.2.1 : Nat), .int .i64 0], oIt .u8 eB y xs]))
  · obtain rfl : k = n := by omega
    rw [hW] at hRES
    dsimp only at hRES
    refine gCall_i (rLeft_any (f4.rd 0 1 rfl rfl (by decide) r2 (by omega))) fun w5 h5 => ?_
    have f5 := f4.ev h5
    refine fRawR f5 r2 (by omega) (by omega) fun z w6 f6 => ?_
    have hraw : rawR xs a 0 ((xs.length : Int) - (a : Nat)) = (xs.drop a, xs.length, 0) := by
      unfold rawR
      by_cases h0 : (xs.length : Int) - (a : Nat) ≤ 0
      · rw [if_pos (.inr h0), List.drop_of_length_le (by omega)]
        have : a = xs.length := by omega
        rw [this]
      · rw [if_neg (by omega), if_neg (by omega), List.take_of_length_le (by rw [List.length_drop]; omega)]
        congr 2; omega
    rw [hraw] at f6
    have hnl : NL .u8 w6 out (T.map (·.2)) := wdO_nl (F := []) (by rw [List.append_nil]; exact f6.dropN 3)
    have hlen : ∀ u ∈ T.map (·.2), u.length ≤ 100000 := fun u hu => by have := r3 u hu; omega
    refine gCall_of (Undo_any (limit := if 1048576 < limit then 1048576 else limit) (f6.nm 2 rfl) (by rw [List.length_drop]; omega) hnl hlen) ?_
    rintro _ w7 ⟨v, rfl, h7, o7⟩
    rw [← hRES] at o7
    refine ⟨v, _, rfl, v, by rw [hRES], f6.old.trans h7, o7.low f6.old.size⟩
end
end Go.Proofs.YtijimpchglmkhaaV

/- Package valisehelp: Own, Kept, Plain, Same of @T@. -/
namespace Go.Proofs.YtijimpchglmkhaaV
open Go Go.RowKit
theorem Own_byte_on {l : Value} {xs : List Int} {f : Int} {w : World} (h : Nm .u8 w l xs) (hl : xs.length ≤ 1000000000) (hf : IntKind.u8.min ≤ f ∧ f ≤ IntKind.u8.max) :
    Calls P n_valisehelp_Own_byte #[l, .int .u8 f] w (fun e w' => ∃ v, e = .returned v ∧ Ev w w' ∧ Owd .u8 w' v xs f ∧ ON .u8 (elOf P t_sl_uint8) w' w.heap.size v xs) := by
  refine of_valisehelp_Own_byte (gLen_nm h ?_)
  rw [show i64 ((xs.length : Int) + 3) = ((xs.length + 3 : Nat) : Int) from i64_id (by omega) (by omega)]
  refine gMake_cap (k := .u8) (by omega) fun w1 h1 hs1 hF => ?_
  generalize hg : w.heap.size = g at *
  have hz : (List.replicate (xs.length + 3) (0 : Int)).length = xs.length + 3 := by simp
  refine gApp_room (n := 0) hF hz (h.ev h1) (by omega) fun w2 h2 hs2 hF2 => gLen_nm h ?_
  rw [show i64 ((xs.length : Int) + 3) = ((xs.length + 3 : Nat) : Int) from i64_id (by omega) (by omega), Nat.zero_add]
  rw [Nat.zero_add] at hF2
  have e0 : List.replicate (xs.length + 3) (0 : Int) = List.replicate xs.length 0 ++ [0, 0, 0] := List.replicate_append_replicate.symm
  have eF : List.take 0 (List.replicate (xs.length + 3) (0 : Int)) ++ xs ++ List.drop xs.length (List.replicate (xs.length + 3) 0) = xs ++ [0, 0, 0] := by
    rw [e0, List.drop_append_of_le_length (by simp), List.drop_of_length_le (by simp)]; simp
  rw [eF] at hF2
  refine gSlice_any (sz := 1) (l := 0) (h := xs.length + 3) (.inl ⟨rfl, rfl⟩) (.inr ⟨_, rfl⟩) (by omega) (by omega) ?_ (by kernel_rfl)
  rw [subV_z (by omega)]
  have hO := hF2.on (xs.length + 3) (by simp)
  rw [List.take_of_length_le (by simp)] at hO
  have e2 : (xs ++ [(0 : Int), 0, 0]).length = xs.length + 3 := by simp
  rw [e2] at hO
  have hev : Ev w w2 := h1.new h2 fun n i hh => by rw [hh]; omega
  refine gLen_nm h ⟨fun i w3 => ∃ j : Nat, i = ((xs.length + j : Nat) : Int) ∧ j ≤ 3 ∧ Ev w w3 ∧ ON .u8 (elOf P t_sl_uint8) w3 g (.slice (some ⟨g, 0, none⟩) (xs.length + 3) (xs.length + 3)) (xs ++ (List.replicate j f ++ List.replicate (3 - j) 0)), fun i _ => xs.length + 3 - i.toNat, ⟨0, by omega, by omega, hev, hO⟩, ?_⟩
  rintro _ i w3 ⟨j, rfl, hj, h3, hO3⟩
  have hln : (xs ++ (List.replicate j f ++ List.replicate (3 - j) (0 : Int))).length = xs.length + 3 := by simp; omega
  refine gLen_nm hO3.nm (gIf_dec (fun hlt => ?_) (fun hge => ?_))
  · rw [hln] at hlt
    refine gIdx_on hO3 (by omega) (by rw [hln]; omega) fun ad hs _ => gStore_on hO3 hs (by omega) (by rw [hln]; omega) hf fun w4 h4 _ hO4 => ?_
    rw [show i64 (((xs.length + j : Nat) : Int) + 1) = ((xs.length + (j + 1) : Nat) : Int) by rw [i64_id (by omega) (by omega)]; omega]
    refine ⟨⟨j + 1, rfl, by omega, h3.new h4 fun n i hh => ?_, ?_⟩, by dsimp only; omega⟩
    · have : n = g := by simpa [Value.ownBlock] using hh.symm
      omega
    · have e3 : (xs ++ (List.replicate j f ++ List.replicate (3 - j) (0 : Int))).set (xs.length + j) f = xs ++ (List.replicate (j + 1) f ++ List.replicate (3 - (j + 1)) 0) := by
        rw [List.set_append_right _ _ (by omega), show xs.length + j - xs.length = j by omega, List.set_append_right _ _ (by simp), List.length_replicate, Nat.sub_self, show 3 - j = (3 - (j + 1)) + 1 by omega, List.replicate_succ, List.set_cons_zero, List.replicate_succ']
        simp
      rw [Int.toNat_natCast, e3] at hO4
      exact hO4
  · rw [hln] at hge
    obtain rfl : j = 3 := by omega
    refine ⟨_, rfl, h3, ⟨some ⟨g, 0, none⟩, xs.length + 3, rfl, Nat.le_refl _, hO3.nm⟩, ?_⟩
    have := hO3.pre xs.length (by omega)
    rw [List.take_left] at this
    exact this
theorem Own_byte_any {l : Value} {xs : List Int} {f : Int} {w : World} (h : Nm .u8 w l xs) (hl : xs.length ≤ 1000000000) (hf : IntKind.u8.min ≤ f ∧ f ≤ IntKind.u8.max) :
    Calls P n_valisehelp_Own_byte #[l, .int .u8 f] w (fun e w' => ∃ v, e = .returned v ∧ Ev w w' ∧ Owd .u8 w' v xs f) :=
  (Own_byte_on h hl hf).mono fun _ _ ⟨v, h1, h2, h3, _⟩ => ⟨v, h1, h2, h3⟩
theorem Same_byte_any {a b : Value} {xs ys : List Int} {w : World} (ha : Nm .u8 w a xs) (hb : Nm .u8 w b ys) (hl : xs.length ≤ 1000000000) :
    Calls P n_valisehelp_Same_byte' #[a, b, .func (.func n_valisehelp_Plain_byte_1) #[] #[]] w (fun e w' => e = .returned (.bool (decide (xs = ys))) ∧ Ev w w') := by
  refine of_valisehelp_Same_byte' (gLen_nm ha (gLen_nm hb (gIf_neq (fun hne => ⟨by rw [decide_eq_false fun h => hne (by rw [h])], Ch.refl _ w⟩) (fun heq => ?_))))
  have hle : xs.length = ys.length := by omega
  refine ⟨fun i w' => ∃ j : Nat, i = j ∧ j ≤ xs.length ∧ (∀ q, q < j → rd xs q = rd ys q) ∧ Ev w w', fun i _ => xs.length - i.toNat, ⟨0, rfl, by omega, by omega, Ch.refl _ w⟩, ?_⟩
  rintro _ i w1 ⟨j, rfl, hj, hq, h1⟩
  refine gLen_nm ha (gIf_dec (fun hlt => ?_) (fun hge => ⟨?_, h1⟩))
  · refine ⟨fun w' => w' = w1.drew, rfl, gIdx_nm (ha.ev h1) (by omega) (by omega) fun a1 c1 _ => gLoadB_i (at1 c1) (gIdx_nm (hb.ev h1) (by omega) (by omega) fun a2 c2 _ => gLoadB_i (at1 c2) (gCallV_of rfl (by kernel_rfl) (of_valisehelp_Plain_byte_1 (R := fun e w' => e = .returned (.bool (rd xs j == rd ys j)) ∧ w' = w1.drew) ⟨rfl, rfl⟩) ?_))⟩
    rintro _ _ ⟨rfl, rfl⟩
    refine ⟨_, rfl, rfl, ?_⟩
    refine gIf_neqq (fun hne => ⟨?_, h1.drew⟩) (fun he => ?_)
    · rw [decide_eq_false fun h => hne (by rw [h])]
    · rw [i64_id (n := (j : Int) + 1) (by omega) (by omega)]
      refine ⟨⟨j + 1, by omega, by omega, fun q hq' => ?_, h1.drew⟩, by dsimp only; omega⟩
      rcases Nat.lt_or_ge q j with h | h
      · exact hq q h
      · have : q = j := by omega
        subst this; exact he
  · rw [decide_eq_true]
    refine List.ext_getElem hle fun q h1 h2 => ?_
    rw [← rd_nat xs q h1, ← rd_nat ys q h2]; exact hq q (by omega)
theorem Plain_byte_any {a b : Value} {xs ys : List Int} {w : World} (ha : Nm .u8 w a xs) (hb : Nm .u8 w b ys) (hl : xs.length ≤ 1000000000) :
    Calls P n_valisehelp_Plain_byte #[a, b] w (fun e w' => e = .returned (.bool (decide (xs = ys))) ∧ Ev w w') :=
  of_valisehelp_Plain_byte (gCall_of (Same_byte_any ha hb hl) fun _ _ ⟨h1, h2⟩ => ⟨_, h1, rfl, h2⟩)
theorem Kept_byte_any {o l : Value} {xs : List Int} {f : Int} {w : World} (ho : Owd .u8 w o xs f) (h : Nm .u8 w l xs) (hl : xs.length ≤ 1000000000) :
    Calls P n_valisehelp_Kept_byte #[o, l, .int .u8 f] w (fun e w' => e = .returned (.bool true) ∧ Ev w w') := by
  have hn := ho.nm
  obtain ⟨a, c, rfl, hc, hN⟩ := ho
  have e3 : i64 ((xs.length : Int) + 3) = ((xs.length + 3 : Nat) : Int) := i64_id (by omega) (by omega)
  refine of_valisehelp_Kept_byte ⟨fun w' => Ev w w', gCall_of (Plain_byte_any hn h hl) ?_, ?_⟩
  · rintro _ w1 ⟨rfl, h1⟩
    refine ⟨_, rfl, ?_⟩
    rw [decide_eq_true rfl]
    refine gIf_nn (gCap_sl (gLen_nm h ?_))
    rw [e3]
    exact gIf_dec (fun hlt => by omega) (fun _ => h1)
  · rintro _ w2 h2
    refine gLen_nm h ?_
    rw [e3]
    refine gSlice_any (sz := 1) (l := 0) (h := xs.length + 3) (.inl ⟨rfl, rfl⟩) (.inr ⟨_, rfl⟩) (by omega) hc ?_ (by kernel_rfl)
    rw [subV_z (by omega)]
    have hN2 := hN.ev h2
    have hln : (xs ++ [f, f, f]).length = xs.length + 3 := by simp
    refine gLen_nm h ⟨fun i w3 => ∃ j : Nat, i = ((xs.length + j : Nat) : Int) ∧ j ≤ 3 ∧ w3 = w2, fun i _ => xs.length + 3 - i.toNat, ⟨0, by omega, by omega, rfl⟩, ?_⟩
    rintro _ i _ ⟨j, rfl, hj, rfl⟩
    refine gLen_nm hN2 (gIf_dec (fun hlt => ?_) (fun hge => ⟨rfl, h2⟩))
    rw [hln] at hlt
    refine gIdx_nm hN2 (by omega) (by rw [hln]; omega) fun ad c1 _ => gLoad_i c1 (gIf_neq (fun hne => (hne ?_).elim) (fun _ => ?_))
    · rw [rd, Int.toNat_natCast, List.getD_eq_getElem?_getD, List.getElem?_append_right (by omega), show xs.length + j - xs.length = j by omega]
      have : j = 0 ∨ j = 1 ∨ j = 2 := by omega
      rcases this with rfl | rfl | rfl <;> rfl
    · rw [show i64 (((xs.length + j : Nat) : Int) + 1) = ((xs.length + (j + 1) : Nat) : Int) by rw [i64_id (by omega) (by omega)]; omega]
      exact ⟨⟨j + 1, rfl, by omega, rfl⟩, by dsimp only; omega⟩
end Go.Proofs.YtijimpchglmkhaaV
