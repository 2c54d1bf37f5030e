/- Package num: the reader. -/
import Derived.Test.YtcjopcplhabgkaaVNumB
namespace Go.Proofs.YtcjopcplhabgkaaV
open Go Go.RowKit

def Rd (w : World) (ad : Addr) (b : Value) (xs : List Int) (a : Nat) (er : Int) : Prop := St w ad [b, .int .i64 a, .int .i64 er] ∧ Nm .u8 w b xs ∧ b.ownBlock ≠ some ad.block ∧ a ≤ xs.length ∧ xs.length ≤ 10000000000
theorem Rd.ev {w w' : World} {ad : Addr} {b : Value} {xs : List Int} {a : Nat} {er : Int} (h : Rd w ad b xs a er) (he : Ev w w') : Rd w' ad b xs a er := ⟨h.1.ev he, h.2.1.ev he, h.2.2⟩
theorem Rd.ch {S : SS} {w w' : World} {ad : Addr} {b : Value} {xs : List Int} {a : Nat} {er : Int} (h : Rd w ad b xs a er) (hc : Ch S w w') (hs : ∀ k i, (k = ad.block ∨ b.ownBlock = some k) → ¬ S k i) : Rd w' ad b xs a er :=
  ⟨h.1.ch hc fun _ _ => hs _ _ (.inl rfl), h.2.1.ch hc fun g i hg => hs g i (.inr hg), h.2.2⟩
theorem Rd.drew {w : World} {ad : Addr} {b : Value} {xs : List Int} {a : Nat} {er : Int} (h : Rd w ad b xs a er) : Rd w.drew ad b xs a er := h
/-- A reader's step. -/
def RS (w w' : World) (ad : Addr) (b : Value) (xs : List Int) (a : Nat) (er : Int) : Prop := Rd w' ad b xs a er ∧ Ch (Rg ad 3) w w'
theorem RS.trans {w w1 w2 : World} {ad : Addr} {b : Value} {xs : List Int} {a a2 : Nat} {er er2 : Int} (h : RS w w1 ad b xs a er) (h2 : RS w1 w2 ad b xs a2 er2) : RS w w2 ad b xs a2 er2 :=
  ⟨h2.1, Ch.trans h.2 h2.2 fun _ _ _ h => h⟩
theorem RS.ev {w w1 w2 : World} {ad : Addr} {b : Value} {xs : List Int} {a : Nat} {er : Int} (h : RS w w1 ad b xs a er) (he : Ev w1 w2) : RS w w2 ad b xs a er :=
  ⟨h.1.ev he, Ch.trans h.2 he fun _ _ _ h => h.elim⟩
theorem Rd.step {w : World} {ad : Addr} {b : Value} {xs : List Int} {a : Nat} {er : Int} (h : Rd w ad b xs a er) : RS w w ad b xs a er := ⟨h, Ch.refl _ w⟩
/-- A store into its place or its fault. -/
theorem Rd.set {w w' : World} {ad : Addr} {b : Value} {xs : List Int} {a : Nat} {er : Int} (h : Rd w ad b xs a er) {j : Nat} {u : Value} {a2 : Nat} {er2 : Int} (hj : j < 3) (hc : Ch (Rg (ad.add j) 1) w w')
    (hS : St w' ad ([b, .int .i64 a, .int .i64 er].set j u)) (he : ([b, .int .i64 a, .int .i64 er] : List Value).set j u = [b, .int .i64 a2, .int .i64 er2]) (ha : a2 ≤ xs.length) : RS w w' ad b xs a2 er2 := by
  have hc3 : Ch (Rg ad 3) w w' := hc.mono fun n i _ hh => by
    have h1 := hh.1; have h2 := hh.2
    rw [Addr.add_none h.1.1] at h1 h2
    exact ⟨h1, by dsimp only at h2; omega, by dsimp only at h2; omega⟩
  exact ⟨⟨he ▸ hS, h.2.1.ch hc3 fun g i hg hh => h.2.2.1 (by rw [hg, hh.1]), h.2.2.1, ha, h.2.2.2.2⟩, hc3⟩
def lookL (xs : List Int) (a : Nat) : Nat → Nat → Int → Int × Int × Int
  | 0, _, _ => (0, 0, 4)
  | f + 1, n, v =>
    if xs.length ≤ a + n then (0, 0, 3)
    else if n = 9 ∧ rd xs ((a + n : Nat) : Int) > 1 then (0, 0, 4)
    else if rd xs ((a + n : Nat) : Int) < 128 then
      (if rd xs ((a + n : Nat) : Int) = 0 ∧ n > 0 then (0, 0, 4) else (v + rd xs ((a + n : Nat) : Int) % 128 * ((2 ^ (7 * n) : Nat) : Int), ((a + n + 1 : Nat) : Int), 0))
    else lookL xs a f (n + 1) (v + rd xs ((a + n : Nat) : Int) % 128 * ((2 ^ (7 * n) : Nat) : Int))
def lookI (xs : List Int) (a : Nat) : Int × Int × Int := lookL xs a 10 0 0
def Look (w : World) (r : Int × Int × Int) (e : Ending) (w' : World) : Prop := e = .returned (.tuple #[.int .u64 r.1, .int .i64 r.2.1, .int .i64 r.2.2]) ∧ Ev w w'
theorem pow7_le {n : Nat} (h : n ≤ 8) : (2 ^ (7 * n) : Nat) ≤ 72057594037927936 := Nat.le_trans (Nat.pow_le_pow_right (by decide) (show 7 * n ≤ 56 by omega)) (by decide)
theorem look_any {ad : Addr} {b : Value} {xs : List Int} {a : Nat} {er : Int} {w : World} (h : Rd w ad b xs a er) : Calls P n_num_Reader_look #[.pointer (some ad)] w (Look w (lookI xs a)) := by
  have hal := h.2.2.2.1
  have hxl := h.2.2.2.2
  refine of_num_Reader_look ⟨fun w' => lookI xs a = (0, 0, 4) ∧ Ev w w', ?_, fun _ w' ⟨h1, h2⟩ => ⟨by rw [h1], h2⟩⟩
  refine ⟨fun v i w1 => ∃ n : Nat, i = n ∧ n ≤ 10 ∧ lookL xs a (10 - n) n v = lookI xs a ∧ 0 ≤ v ∧ (n ≤ 9 → v < ((2 ^ (7 * n) : Nat) : Int)) ∧ Ev w w1, fun _ i _ => 10 - i.toNat, ⟨0, rfl, by omega, rfl, by omega, (fun _ => by decide), Ch.refl _ w⟩, ?_⟩
  rintro _ v i w1 ⟨n, rfl, hn, hL, hv0, hv1, h1⟩
  have hR : Rd w1.drew ad b xs a er := (h.ev h1).drew
  refine gIf_dec (fun hlt => gNil_some (gLoadB_i (at1 ((h.ev h1).1.cell (j := 1) rfl)) (gNil_some (gLoadB_v (at1 ((h.ev h1).1.cell (j := 0) rfl)) (gLen_nm h.2.1 (gIf_dec (fun hge => ?_) (fun hin => ?_))))))) (fun hge => ?_)
  · rw [i64_id (by omega) (by omega)] at hge
    rw [show 10 - n = (9 - n) + 1 by omega, lookL, if_pos (by omega)] at hL
    exact ⟨by rw [← hL], h1.drew⟩
  · rw [i64_id (by omega) (by omega)] at hin
    refine gNil_some (gLoadB_v (at1 (hR.1.cell (j := 0) rfl)) (gNil_some (gLoadB_i (at1 (hR.1.cell (j := 1) rfl)) ?_)))
    rw [show i64 ((a : Int) + n) = ((a + n : Nat) : Int) by rw [i64_id (by omega) (by omega)]; omega]
    refine gIdx_nm hR.2.1 (by omega) (by omega) fun ad2 c2 _ => gLoadB_i (at1 c2) (gBin_shl (by rw [i64_id (by omega) (by omega)]; omega) ?_)
    have hc := rd_u8 h.2.1.2 ((a + n : Nat) : Int)
    generalize hcr : rd xs ((a + n : Nat) : Int) = c at hc
    have eA : iAnd .u8 c 127 = c % 128 := by
      have := iAnd_mask (k := .u8) (a := c) (m := 7) (n := 127) rfl (by omega) (by rw [show (2 : Int) ^ IntKind.u8.bits = 256 by decide]; omega) rfl (by decide)
      rw [show ((127 : Nat) : Int) = 127 from rfl] at this
      rw [this]; rfl
    have eU : u64 (c % 128) = c % 128 := by rw [u64_def]; omega
    have e7 : i64 (7 * (n : Int)) = ((7 * n : Nat) : Int) := by rw [i64_id (by omega) (by omega)]; omega
    rw [eA, eU, e7]
    have hstep : lookL xs a (10 - n) n v = if n = 9 ∧ c > 1 then (0, 0, 4) else if c < 128 then (if c = 0 ∧ n > 0 then (0, 0, 4) else (v + c % 128 * ((2 ^ (7 * n) : Nat) : Int), ((a + n + 1 : Nat) : Int), 0)) else lookL xs a (10 - (n + 1)) (n + 1) (v + c % 128 * ((2 ^ (7 * n) : Nat) : Int)) := by
      rw [show 10 - n = (10 - (n + 1)) + 1 by omega, lookL, if_neg (by omega), hcr]
    rw [hstep] at hL
    -- what is or'ed, where it is used
    have hor : ¬ (n = 9 ∧ c > 1) → iOr .u64 v (iShl .u64 (c % 128) ((7 * n : Nat) : Int)) = v + c % 128 * ((2 ^ (7 * n) : Nat) : Int) ∧ v + c % 128 * ((2 ^ (7 * n) : Nat) : Int) < 18446744073709551616 := fun hne => by
      have hb : v + c % 128 * ((2 ^ (7 * n) : Nat) : Int) < 18446744073709551616 := by
        by_cases h9 : n = 9
        · subst h9
          have := hv1 (by omega)
          have e : ((2 ^ (7 * 9) : Nat) : Int) = 9223372036854775808 := by decide
          rw [e] at this ⊢; omega
        · have h1 := hv1 (by omega)
          have hq : ((2 ^ (7 * n) : Nat) : Int) ≤ ((72057594037927936 : Nat) : Int) := Int.ofNat_le.2 (pow7_le (n := n) (by omega))
          generalize ((2 ^ (7 * n) : Nat) : Int) = q at *
          have : c % 128 * q ≤ 127 * q := Int.mul_le_mul_of_nonneg_right (by omega) (by omega)
          omega
      refine ⟨?_, hb⟩
      rw [iShl_u (k := .u64) rfl (by have : IntKind.u64.bits = 64 := rfl; omega) (by omega), bits64, Int.emod_eq_of_lt (Int.mul_nonneg (by omega) (by omega)) (by have : (0 : Int) ≤ v := hv0; show _ < (18446744073709551616 : Int); omega)]
      exact iOr_add rfl hv0 (hv1 (by omega)) (by omega) (by rw [bits64]; exact hb)
    refine ⟨fun w' => ¬ (n = 9 ∧ c > 1) ∧ Ev w w', ?_, ?_⟩
    · refine gIf_eq (fun e9 => gIf_dec (fun hg => ⟨?_, h1.drew.drew⟩) (fun hg => ⟨fun hh => hg hh.2, h1.drew.drew⟩)) (fun e9 => ⟨fun hh => e9 (by rw [hh.1]; rfl), h1.drew.drew⟩)
      rw [if_pos ⟨by omega, hg⟩] at hL; exact hL.symm
    · rintro _ w2 ⟨hne, h2⟩
      obtain ⟨ho, hob⟩ := hor hne
      rw [if_neg hne] at hL
      rw [ho]
      have fin : ¬ (c = 0 ∧ n > 0) → c < 128 → gNil (some ad) fun (t59 : Addr) => gLoadB P t_int (shI .i64) (.pointer (some (Addr.add t59 1))) (fun w' => w' = w2.drew) fun (t61 : Int) => Look w (lookI xs a) (.returned (.tuple #[.int .u64 (v + c % 128 * ((2 ^ (7 * n) : Nat) : Int)), .int .i64 (i64 ((i64 (t61 + n)) + 1)), .int .i64 0])) w2.drew := fun hz hlt => by
        refine gNil_some (gLoadB_i (at1 ((h.ev h2).1.cell (j := 1) rfl)) ⟨?_, h2.drew⟩)
        rw [if_pos hlt, if_neg hz] at hL
        rw [← hL, i64_id (n := (a : Int) + n) (by omega) (by omega), i64_id (by omega) (by omega)]; rfl
      refine gIf_dec (fun hlt => gIf_eq (fun ez => gIf_dec (fun hp => ⟨?_, h2⟩) (fun hp => fin (fun hh => hp (by omega)) hlt)) (fun ez => fin (fun hh => ez hh.1) hlt)) (fun hge => ?_)
      · rw [if_pos hlt, if_pos ⟨ez, by omega⟩] at hL; exact hL.symm
      · rw [if_neg hge] at hL
        rw [i64_id (n := (n : Int) + 1) (by omega) (by omega)]
        have hn9 : n ≠ 9 := fun e => hne ⟨e, by omega⟩
        refine ⟨⟨n + 1, by omega, by omega, hL, Int.add_nonneg hv0 (Int.mul_nonneg (by omega) (by omega)), fun h9 => ?_, h2⟩, by dsimp only; omega⟩
        have h3 := hv1 (by omega)
        rw [show 7 * (n + 1) = 7 * n + 7 by omega, Nat.pow_add]
        have e : ((2 ^ (7 * n) * 2 ^ 7 : Nat) : Int) = ((2 ^ (7 * n) : Nat) : Int) * 128 := by rw [Int.natCast_mul]; rfl
        rw [e]
        have : c % 128 * ((2 ^ (7 * n) : Nat) : Int) ≤ 127 * ((2 ^ (7 * n) : Nat) : Int) := Int.mul_le_mul_of_nonneg_right (by omega) (by omega)
        omega
  · have : n = 10 := by omega
    subst this
    rw [show 10 - 10 = 0 from rfl, lookL] at hL
    exact ⟨hL.symm, h1⟩
theorem lookL_rng {xs : List Int} {a : Nat} (hx : inR .u8 xs) : ∀ (f n : Nat) (v : Int), f + n = 10 → 0 ≤ v → (n ≤ 9 → v < ((2 ^ (7 * n) : Nat) : Int)) →
    (lookL xs a f n v).2.2 = 0 ∨ (lookL xs a f n v).2.2 = 3 ∨ (lookL xs a f n v).2.2 = 4
  | 0, n, v, _, _, _ => by simp [lookL]
  | f + 1, n, v, hf, h0, h1 => by
    rw [lookL]
    split
    · simp
    · split
      · simp
      · split
        · split <;> simp
        · refine lookL_rng hx f (n + 1) _ (by omega) (Int.add_nonneg h0 (Int.mul_nonneg (by omega) (by omega))) fun h9 => ?_
          have h3 := h1 (by omega)
          rw [show 7 * (n + 1) = 7 * n + 7 by omega, Nat.pow_add]
          have e : ((2 ^ (7 * n) * 2 ^ 7 : Nat) : Int) = ((2 ^ (7 * n) : Nat) : Int) * 128 := by rw [Int.natCast_mul]; rfl
          rw [e]
          have : rd xs ((a + n : Nat) : Int) % 128 * ((2 ^ (7 * n) : Nat) : Int) ≤ 127 * ((2 ^ (7 * n) : Nat) : Int) := Int.mul_le_mul_of_nonneg_right (by omega) (by omega)
          omega
end Go.Proofs.YtcjopcplhabgkaaV
