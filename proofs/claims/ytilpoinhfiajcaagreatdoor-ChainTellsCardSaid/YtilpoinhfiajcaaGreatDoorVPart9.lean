import Derived.Test.YtilpoinhfiajcaaGreatDoorVPart8
set_option linter.unusedVariables false
set_option linter.unusedSimpArgs false
/- Package bits: the reader. -/
namespace Go.Proofs.YtilpoinhfiajcaaGreatDoorV
open Go Go.RowKit

theorem Nm.ch' {k : IntKind} {S : SS} {w w' : World} {v : Value} {xs : List Int} (h : Nm k w v xs) (hc : Ch S w w') (hs : xs ≠ [] → ∀ g i, v.ownBlock = some g → ¬ S g i) : Nm k w' v xs := by
  by_cases hx : xs = []
  · subst hx
    obtain ⟨⟨a, c, rfl, h1, h2, h3, h4⟩, hr⟩ := h
    exact ⟨⟨a, c, rfl, h1, h2, fun ad ha j u hj => by simp at hj, h4⟩, hr⟩
  · exact h.ch hc (hs hx)
def PR (w : World) (ad : Addr) (b : Value) (xs : List Int) (a : Nat) (er : Int) : Prop := St w ad [b, .int .i64 a, .int .i64 er] ∧ Nm .u8 w b xs ∧ (xs ≠ [] → b.ownBlock ≠ some ad.block) ∧ a ≤ 8 * xs.length ∧ xs.length ≤ 1000000000
theorem PR.ch {S : SS} {w w' : World} {ad : Addr} {b : Value} {xs : List Int} {a : Nat} {er : Int} (h : PR w ad b xs a er) (hc : Ch S w w') (hs : ∀ k i, (k = ad.block ∨ b.ownBlock = some k) → ¬ S k i) : PR w' ad b xs a er :=
  ⟨h.1.ch hc fun _ _ => hs _ _ (.inl rfl), h.2.1.ch hc fun g i hg => hs g i (.inr hg), h.2.2⟩
theorem PR.ev {w w' : World} {ad : Addr} {b : Value} {xs : List Int} {a : Nat} {er : Int} (h : PR w ad b xs a er) (he : Ev w w') : PR w' ad b xs a er := ⟨h.1.ev he, h.2.1.ev he, h.2.2⟩
theorem PR.drew {w : World} {ad : Addr} {b : Value} {xs : List Int} {a : Nat} {er : Int} (h : PR w ad b xs a er) : PR w.drew ad b xs a er := h
def PS (w w' : World) (ad : Addr) (b : Value) (xs : List Int) (a : Nat) (er : Int) : Prop := PR w' ad b xs a er ∧ Ch (Rg ad 3) w w'
theorem PS.trans {w w1 w2 : World} {ad : Addr} {b : Value} {xs : List Int} {a a2 : Nat} {er er2 : Int} (h : PS w w1 ad b xs a er) (h2 : PS w1 w2 ad b xs a2 er2) : PS w w2 ad b xs a2 er2 := ⟨h2.1, Ch.trans h.2 h2.2 fun _ _ _ h => h⟩
theorem PS.ev {w w1 w2 : World} {ad : Addr} {b : Value} {xs : List Int} {a : Nat} {er : Int} (h : PS w w1 ad b xs a er) (he : Ev w1 w2) : PS w w2 ad b xs a er := ⟨h.1.ev he, Ch.trans h.2 he fun _ _ _ h => h.elim⟩
theorem PS.pre {w w1 w2 : World} {ad : Addr} {b : Value} {xs : List Int} {a : Nat} {er : Int} (he : Ev w w1) (h : PS w1 w2 ad b xs a er) : PS w w2 ad b xs a er := ⟨h.1, Ch.trans (he.mono fun _ _ _ h => h.elim) h.2 fun _ _ _ h => h⟩
theorem PR.step {w : World} {ad : Addr} {b : Value} {xs : List Int} {a : Nat} {er : Int} (h : PR w ad b xs a er) : PS w w ad b xs a er := ⟨h, Ch.refl _ w⟩
theorem PR.set {w w' : World} {ad : Addr} {b : Value} {xs : List Int} {a : Nat} {er : Int} (h : PR w ad b xs a er) {j : Nat} {u : Value} {a2 : Nat} {er2 : Int} (hj : j < 3) (hc : Ch (Rg (ad.add j) 1) w w')
    (hS : St w' ad ([b, .int .i64 a, .int .i64 er].set j u)) (he : ([b, .int .i64 a, .int .i64 er] : List Value).set j u = [b, .int .i64 a2, .int .i64 er2]) (ha : a2 ≤ 8 * xs.length) : PS w w' ad b xs a2 er2 := by
  have hc3 : Ch (Rg ad 3) w w' := hc.mono fun n i _ hh => by
    have h1 := hh.1; have h2 := hh.2
    rw [Addr.add_none h.1.1] at h1 h2
    exact ⟨h1, by dsimp only at h2; omega, by dsimp only at h2; omega⟩
  exact ⟨⟨he ▸ hS, h.2.1.ch' hc3 fun hx g i hg hh => h.2.2.1 hx (by rw [hg, hh.1]), h.2.2.1, ha, h.2.2.2.2⟩, hc3⟩
section
variable {ad : Addr} {b : Value} {xs : List Int} {a : Nat} {er : Int} {w : World}
theorem pLeft_any (h : PR w ad b xs a er) : Calls P n_bits_place_Left #[.pointer (some ad)] w (fun e w' => e = .returned (.int .i64 (8 * (xs.length : Int) - a)) ∧ Ev w w') := by
  have h1 := h.2.2.2.1
  have h2 := h.2.2.2.2
  refine of_bits_place_Left (gEq_pnil (gIf_f (gNil_some (gLoadB_v (at1 (h.1.cell (j := 0) rfl)) (gLen_nm h.2.1 (gNil_some (gLoadB_i (at1 (h.1.cell (j := 1) rfl)) ⟨?_, Ev.drew0 w⟩)))))))
  rw [i64_id (n := 8 * (xs.length : Int)) (by omega) (by omega), i64_id (by omega) (by omega)]
theorem pErr_any (h : PR w ad b xs a er) : Calls P n_bits_place_Err #[.pointer (some ad)] w (fun e w' => e = .returned (.int .i64 er) ∧ w' = w) :=
  of_bits_place_Err (gEq_pnil (gIf_f (gNil_some (gLoad_i (h.1.cell (j := 2) rfl) ⟨rfl, rfl⟩))))
theorem shr_bit {x : Int} {r : Nat} (hx : 0 ≤ x ∧ x < 256) (hr : r ≤ 8) : i64 (iAnd .u8 (iShr .u8 x r) 1) = x / ((2 ^ r : Nat) : Int) % 2 := by
  have h0 : 0 ≤ x / ((2 ^ r : Nat) : Int) := Int.ediv_nonneg hx.1 (Int.natCast_nonneg _)
  have h1 := Int.ediv_le_self (a := x) ((2 ^ r : Nat) : Int) hx.1
  rw [iShr_div (by have : IntKind.u8.bits = 8 := rfl; omega) hx.1]
  have := iAnd_mask (k := .u8) (a := x / ((2 ^ r : Nat) : Int)) (m := 1) (n := 1) rfl h0 (by rw [show (2 : Int) ^ IntKind.u8.bits = 256 by decide]; omega) rfl (by decide)
  rw [show ((1 : Nat) : Int) = 1 from rfl] at this
  rw [this, show ((2 ^ 1 : Nat) : Int) = 2 from rfl, i64_id (by omega) (by omega)]
theorem pStep_any (h : PR w ad b xs a er) (ha : a < 8 * xs.length) : Calls P n_bits_place_step #[.pointer (some ad)] w (fun e w' => e = .returned (.int .i64 (bitAt xs a)) ∧ PS w w' ad b xs (a + 1) er) := by
  have h2 := h.2.2.2.2
  have et : i64 (7 - Int.tmod (a : Int) 8) = ((7 - a % 8 : Nat) : Int) := by rw [Int.tmod_eq_emod_of_nonneg (by omega), i64_id (by omega) (by omega)]; omega
  have ed : i64 (Int.tdiv (a : Int) 8) = ((a / 8 : Nat) : Int) := by rw [Int.tdiv_eq_ediv_of_nonneg (by omega), i64_id (by omega) (by omega)]; omega
  refine of_bits_place_step (gNil_some (gLoadB_v (at1 (h.1.cell (j := 0) rfl)) (gNil_some (gLoadB_i (at1 (h.1.cell (j := 1) rfl)) ?_))))
  rw [ed]
  refine gIdx_nm h.2.1 (by omega) (by omega) fun a1 c1 _ => gLoadB_i (at1 c1) (gNil_some (gLoadB_i (at1 (h.1.cell (j := 1) rfl)) ?_))
  rw [et]
  refine gBin_shr (by omega) (gNil_some (gLoad_i (h.drew.1.cell (j := 1) rfl) (gNil_some (gStore_st h.drew.1 (j := 1) (by simp) rfl rfl fun w2 hw2 _ hS2 => ⟨?_, ?_⟩))))
  · rw [shr_bit (rd_u8 h.2.1.2 _) (by omega)]; rfl
  · exact PS.pre (Ev.drew0 w) (h.drew.set (j := 1) (a2 := a + 1) (er2 := er) (by decide) hw2 hS2 (by rw [i64_id (by omega) (by omega)]; rfl) (by omega))
/-- The fault behind 'has'. -/
def hasBR (len a : Nat) (er n : Int) : Int := if er = 0 ∧ 8 * (len : Int) - a < n then 3 else er
theorem pHas_any {n : Int} (h : PR w ad b xs a er) : Calls P n_bits_place_has #[.pointer (some ad), .int .i64 n] w (fun e w' => e = .returned (.bool (hasBR xs.length a er n == 0)) ∧ PS w w' ad b xs a (hasBR xs.length a er n)) := by
  refine of_bits_place_has ⟨fun w' => PS w w' ad b xs a (hasBR xs.length a er n), gNil_some (gLoad_i (h.1.cell (j := 2) rfl) (gIf_eq (fun e0 => gCall_i (pLeft_any h) fun w1 h1 => gIf_dec (fun hlt => gNil_some ?_) (fun hge => ?_)) (fun e0 => ?_))), fun _ w3 h3 => ?_⟩
  · refine gStore_st (h.ev h1).1 (j := 2) (by simp) rfl rfl fun w2 hw2 _ hS2 => ?_
    unfold hasBR; rw [if_pos ⟨e0, hlt⟩]
    exact PS.pre h1 ((h.ev h1).set (j := 2) (a2 := a) (er2 := 3) (by decide) hw2 hS2 rfl h.2.2.2.1)
  · unfold hasBR; rw [if_neg (fun hh => hge hh.2)]; exact h.step.ev h1
  · unfold hasBR; rw [if_neg (fun hh => e0 hh.1)]; exact h.step
  · exact gNil_some (gLoad_i (h3.1.1.cell (j := 2) rfl) ⟨rfl, h3⟩)
/-- A reader: what points to a place. -/
def RB (w : World) (rad pad : Addr) (b : Value) (xs : List Int) (a : Nat) (er : Int) : Prop := St w rad [.pointer (some pad)] ∧ PR w pad b xs a er ∧ rad.block ≠ pad.block
variable {rad pad : Addr}
theorem RB.to {w' : World} {a2 : Nat} {er2 : Int} (h : RB w rad pad b xs a er) (hs : PS w w' pad b xs a2 er2) : RB w' rad pad b xs a2 er2 := ⟨h.1.ch hs.2 fun _ _ hh => h.2.2 hh.1, hs.1, h.2.2⟩
theorem in_any (h : RB w rad pad b xs a er) : Calls P n_bits_Reader_in #[.pointer (some rad)] w (fun e w' => e = .returned (.pointer (some pad)) ∧ w' = w) :=
  of_bits_Reader_in (gEq_pnil (gIf_f (gNil_some (gLoad_p (h.1.cell (j := 0) rfl) ⟨rfl, rfl⟩))))
def bitsVal (xs : List Int) (a : Nat) : Nat → Int
  | 0 => 0
  | k + 1 => bitsVal xs a k * 2 + bitAt xs (a + k)
theorem bitsVal_bd (xs : List Int) (a : Nat) : ∀ k, 0 ≤ bitsVal xs a k ∧ bitsVal xs a k < ((2 ^ k : Nat) : Int)
  | 0 => by simp [bitsVal]
  | k + 1 => by
    have h1 := bitsVal_bd xs a k
    have h2 := bitAt_01 xs (a + k)
    have e : ((2 ^ (k + 1) : Nat) : Int) = ((2 ^ k : Nat) : Int) * 2 := by rw [Nat.pow_succ, Int.natCast_mul]; rfl
    rw [e, bitsVal]; omega
theorem shl_bit {v x : Int} {j : Nat} (hv : 0 ≤ v ∧ v < ((2 ^ j : Nat) : Int)) (hj : j < 32) (hx : x = 0 ∨ x = 1) : iOr .u32 (iShl .u32 v 1) (u32 x) = v * 2 + x := by
  have hq : ((2 ^ j : Nat) : Int) ≤ ((2147483648 : Nat) : Int) := Int.ofNat_le.2 (Nat.le_trans (Nat.pow_le_pow_right (by decide) (show j ≤ 31 by omega)) (by decide))
  have e1 := iShl_u (k := .u32) (a := v) (n := 1) rfl (by decide) hv.1
  rw [show ((1 : Nat) : Int) = 1 from rfl, bits32, show ((2 ^ 1 : Nat) : Int) = 2 from rfl, Int.emod_eq_of_lt (by omega) (by show _ < (4294967296 : Int); omega)] at e1
  have e2 := iOr_add' (k := .u32) (a := x) (b := v) (m := 1) rfl (by omega) (by rw [show ((2 ^ 1 : Nat) : Int) = 2 from rfl]; omega) hv.1 (by rw [bits32, show ((2 ^ 1 : Nat) : Int) = 2 from rfl]; show _ < (4294967296 : Int); omega)
  rw [show ((2 ^ 1 : Nat) : Int) = 2 from rfl] at e2
  rw [e1, show u32 x = x by rw [u32_def]; omega, e2]; omega
def bitsR (xs : List Int) (a : Nat) (er n : Int) : Int × Nat × Int := if er ≠ 0 then (0, a, er) else if 8 * (xs.length : Int) - a < cl32 n then (0, a, 3) else (bitsVal xs a (cl32 n), a + cl32 n, 0)
theorem Bits_R {n : Int} (h : RB w rad pad b xs a er) : Calls P n_bits_Reader_Bits #[.pointer (some rad), .int .i64 n] w (fun e w' => e = .returned (.int .u32 (bitsR xs a er n).1) ∧ PS w w' pad b xs (bitsR xs a er n).2.1 (bitsR xs a er n).2.2) := by
  have := cl32_le n
  refine of_bits_Reader_Bits ?_
  rw [cl32a]
  refine ⟨fun w' => er = 0 ∧ ¬ 8 * (xs.length : Int) - a < cl32 n ∧ PS w w' pad b xs a 0, ?_, ?_⟩
  · refine gCall_p0 (in_any h) (gEq_pnil (gIf_nf (gNil_some (gLoad_p (h.1.cell (j := 0) rfl) (gCall_b (pHas_any h.2.1) fun w1 h1 => ?_)))))
    unfold hasBR bitsR at *
    by_cases he : er = 0
    · by_cases hlt : 8 * (xs.length : Int) - a < cl32 n
      · rw [if_pos ⟨he, hlt⟩] at h1 ⊢
        rw [if_neg (by omega), if_pos hlt]
        exact gIf_t ⟨rfl, h1⟩
      · rw [if_neg (fun hh => hlt hh.2)] at h1 ⊢
        subst he
        exact gIf_f ⟨rfl, hlt, h1⟩
    · rw [if_neg (fun hh => he hh.1)] at h1 ⊢
      rw [if_pos he, show (er == 0) = false by simpa using he]
      exact gIf_t ⟨rfl, h1⟩
  · rintro _ w3 ⟨rfl, hge, h3⟩
    unfold bitsR
    rw [if_neg (show ¬ ((0 : Int) ≠ 0) by simp), if_neg hge]
    refine ⟨fun v i w' => ∃ j : Nat, i = j ∧ j ≤ cl32 n ∧ v = bitsVal xs a j ∧ PS w w' pad b xs (a + j) 0, fun _ i _ => cl32 n - i.toNat, ⟨0, rfl, by omega, rfl, h3⟩, ?_⟩
    rintro _ v i w4 ⟨j, rfl, hj, rfl, h4⟩
    have hR := h.to h4
    refine gIf_dec (fun hlt => gNil_some (gLoad_p (hR.1.cell (j := 0) rfl) (gCall_i (pStep_any hR.2.1 (by omega)) fun w5 h5 => ?_))) (fun hend => ?_)
    · rw [shl_bit (bitsVal_bd xs a j) (by omega) (bitAt_01 xs (a + j)), i64_id (n := (j : Int) + 1) (by omega) (by omega)]
      exact ⟨⟨j + 1, by omega, by omega, rfl, h4.trans h5⟩, by dsimp only; omega⟩
    · rw [show cl32 n = j by omega]; exact ⟨rfl, h4⟩
theorem bitsR_bd (n : Int) : 0 ≤ (bitsR xs a er n).1 ∧ (bitsR xs a er n).1 < 4294967296 := by
  unfold bitsR
  split
  · simp
  · split
    · simp
    · have h1 := bitsVal_bd xs a (cl32 n)
      have h2 : ((2 ^ cl32 n : Nat) : Int) ≤ ((4294967296 : Nat) : Int) := Int.ofNat_le.2 (Nat.le_trans (Nat.pow_le_pow_right (by decide) (cl32_le n)) (by decide))
      dsimp only; omega
def uL (xs : List Int) (a : Nat) (most : Int) : Nat → Nat → Int × Nat × Int
  | 0, _ => (0, a, 3)
  | f + 1, n => if (n : Int) ≥ most then (n, a + n, 0) else if 8 * xs.length ≤ a + n then (0, a, 3) else if bitAt xs (a + n) = 0 then (n, a + n + 1, 0) else uL xs a most f (n + 1)
def unaryR (xs : List Int) (a : Nat) (er most : Int) : Int × Nat × Int := if er ≠ 0 then (0, a, er) else uL xs a most (8 * xs.length + 1 - a) 0
theorem Unary_R {most : Int} (h : RB w rad pad b xs a er) : Calls P n_bits_Reader_Unary #[.pointer (some rad), .int .i64 most] w (fun e w' => e = .returned (.int .i64 (unaryR xs a er most).1) ∧ PS w w' pad b xs (unaryR xs a er most).2.1 (unaryR xs a er most).2.2) := by
  have ha := h.2.1.2.2.2.1
  have hl := h.2.1.2.2.2.2
  refine of_bits_Reader_Unary ⟨fun w' => er = 0 ∧ w' = w, ?_, ?_⟩
  · refine gCall_p0 (in_any h) (gEq_pnil (gIf_nf (gNil_some (gLoad_p (h.1.cell (j := 0) rfl) (gNil_some (gLoad_i (h.2.1.1.cell (j := 2) rfl) (gIf_neq (fun hne => ?_) (fun he => ⟨he, rfl⟩))))))))
    unfold unaryR; rw [if_pos hne]; exact ⟨rfl, h.2.1.step⟩
  rintro _ _ ⟨rfl, rfl⟩
  rename_i w
  unfold unaryR
  rw [if_neg (show ¬ ((0 : Int) ≠ 0) by simp)]
  refine gNil_some (gLoad_p (h.1.cell (j := 0) rfl) (gNil_some (gLoad_i (h.2.1.1.cell (j := 1) rfl) ?_)))
  refine ⟨fun i w' => ∃ n : Nat, i = n ∧ a + n ≤ 8 * xs.length ∧ uL xs a most (8 * xs.length + 1 - a - n) n = uL xs a most (8 * xs.length + 1 - a) 0 ∧ PS w w' pad b xs (a + n) 0, fun i _ => 8 * xs.length + 1 - i.toNat, ⟨0, rfl, by omega, rfl, h.2.1.step⟩, ?_⟩
  rintro _ i w3 ⟨n, rfl, hn, hu, h3⟩
  rw [show 8 * xs.length + 1 - a - n = (8 * xs.length - a - n) + 1 by omega, uL] at hu
  rw [← hu]
  have hR := h.to h3
  refine gIf_dec (fun hge => ?_) (fun hlt => ?_)
  · rw [if_pos hge]; exact ⟨rfl, h3⟩
  rw [if_neg hlt]
  refine gNil_some (gLoad_p (hR.1.cell (j := 0) rfl) (gCall_b (pHas_any hR.2.1) fun w4 h4 => ?_))
  unfold hasBR at h4 ⊢
  by_cases hend : 8 * xs.length ≤ a + n
  · rw [if_pos ⟨rfl, by omega⟩] at h4 ⊢
    rw [if_pos hend]
    have hR4 := hR.to h4
    refine gIf_t (gNil_some (gLoad_p (hR4.1.cell (j := 0) rfl) (gNil_some (gStore_st hR4.2.1.1 (j := 1) (by simp) rfl rfl fun w5 h5 _ hS5 => ⟨rfl, ?_⟩))))
    exact (h3.trans h4).trans (hR4.2.1.set (j := 1) (a2 := a) (er2 := 3) (by decide) h5 hS5 rfl ha)
  · rw [if_neg (by omega)] at h4 ⊢
    rw [if_neg hend]
    have hR4 := hR.to h4
    refine gIf_f (gNil_some (gLoad_p (hR4.1.cell (j := 0) rfl) (gCall_i (pStep_any hR4.2.1 (by omega)) fun w5 h5 => gIf_eq (fun e0 => ?_) (fun e0 => ?_))))
    · rw [if_pos e0]; exact ⟨rfl, (h3.trans h4).trans h5⟩
    · rw [i64_id (n := (n : Int) + 1) (by omega) (by omega)]
      rw [if_neg e0]
      exact ⟨⟨n + 1, by omega, by omega, by congr 1; omega, (h3.trans h4).trans h5⟩, by dsimp only; omega⟩
theorem Err_R (h : RB w rad pad b xs a er) : Calls P n_bits_Reader_Err #[.pointer (some rad)] w (fun e w' => e = .returned (.int .i64 er) ∧ w' = w) :=
  of_bits_Reader_Err (gCall_p0 (in_any h) (gCall_i0 (pErr_any h.2.1) ⟨rfl, rfl⟩))
end
end Go.Proofs.YtilpoinhfiajcaaGreatDoorV

/- Package bits: nil readers, New; package valiseref01: the reader. -/
namespace Go.Proofs.YtilpoinhfiajcaaGreatDoorV
open Go Go.RowKit

/-! ### valiseref01 -/
section
variable {ad : Addr} {b : Value} {xs : List Int} {a : Nat} {er : Int} {w : World}
end
end Go.Proofs.YtilpoinhfiajcaaGreatDoorV

/- Package num: what is written. -/
namespace Go.Proofs.YtilpoinhfiajcaaGreatDoorV
open Go Go.RowKit

abbrev W1 (w : World) (ad : Addr) (v : Value) (xs : List Int) : Prop := Wr eB w ad v xs
abbrev WS (w w' : World) (ad : Addr) (v v' : Value) (xs : List Int) : Prop := WrS eB w w' ad v v' xs
theorem put_any {ad : Addr} {v p : Value} {xs : List Int} {yss : List (List Int)} {w : World} (h : W1 w ad v xs) (hp : Stab (Ft ad v) w fun w' => NL .u8 w' p yss) (hl : xs.length + yss.flatten.length ≤ 10000000000) (hn : yss.length ≤ 10000000000) :
    Calls P n_num_buffer_put #[.pointer (some ad), p] w (fun e w' => e = .returned (.tuple #[]) ∧ ∃ v', WS w w' ad v v' (xs ++ yss.flatten)) := by
  obtain ⟨us, hus, hel⟩ := hp.now
  refine of_num_buffer_put (gLen_slv hus ?_)
  refine ⟨fun i w1 => ∃ j : Nat, i = j ∧ j ≤ yss.length ∧ ∃ v', WS w w1 ad v v' (xs ++ (yss.take j).flatten), fun i _ => yss.length - i.toNat, ⟨0, rfl, by omega, v, by simpa using h.step⟩, ?_⟩
  rintro _ i w1 ⟨j, rfl, hj, v', hW⟩
  refine gIf_dec (fun hlt => ?_) (fun hge => ⟨rfl, v', ?_⟩)
  · obtain ⟨us, hus, hel⟩ := hp w1 hW.2.1
    refine gIdx_1 hus (by omega) (by omega) fun a u hu hc _ => gLoad_v hc (gNil_some (gLoad_v (v := v') ?_ ?_))
    · have := hW.1.1.cell (j := 0) rfl; exact this
    have hlt' : j < yss.length := by omega
    have hx := hel j u yss[j] (by simpa using hu) (by simp [hlt'])
    have hfl : (yss.take (j + 1)).flatten = (yss.take j).flatten ++ yss[j] := by rw [List.take_succ_eq_append_getElem hlt', List.flatten_append]; simp
    have hle : (yss.take (j + 1)).flatten.length ≤ yss.flatten.length := by
      have : yss.flatten = (yss.take (j + 1)).flatten ++ (yss.drop (j + 1)).flatten := by rw [← List.flatten_append, List.take_append_drop]
      rw [this, List.length_append]; omega
    rw [hfl, List.length_append] at hle
    refine gApp_on hW.1.2.1 hx (by rw [List.length_append]; omega) (Nat.zero_le _) fun v2 w2 hO2 hc2 hm2 => gNil_some ?_
    have hne : ∀ i, ¬ Ob v' ad.block i := fun _ hh => hW.1.2.2 hh
    have hS2 : St w2 ad [v'] := hW.1.1.ch hc2 fun _ _ => hne _
    rw [Addr.add_zero']
    refine gStore_st0 hS2 (by simp) (by obtain ⟨a, c, rfl, _⟩ := hO2.nm.shape; rfl) hO2.one fun w3 h3 hs3 hS3 => ?_
    rw [i64_id (n := (j : Int) + 1) (by omega) (by omega)]
    have hv2 : v2.ownBlock ≠ some ad.block := by
      rcases hm2 with h | h
      · rw [h]; exact hW.1.2.2
      · intro hh; have := h _ hh; have := hW.1.1.lt; omega
    have hO3 : ON .u8 eB w3 0 v2 (xs ++ (yss.take j).flatten ++ yss[j]) := hO2.ch h3 fun g i hg hh => hv2 (by rw [hg, hh.1])
    refine ⟨⟨j + 1, by omega, hlt', v2, hW.trans ⟨⟨by simpa using hS3, ?_, hv2⟩, Ch.trans (hc2.mono fun _ _ _ h => .inr h) h3 fun n i _ hh => .inl hh.1, hm2⟩⟩, by dsimp only; omega⟩
    rw [hfl, ← List.append_assoc]; exact hO3
  · have : j = yss.length := by omega
    subst this
    rw [List.take_length] at hW; exact hW
theorem Raw_any {ad : Addr} {v p : Value} {xs : List Int} {yss : List (List Int)} {w : World} (h : W1 w ad v xs) (hp : Stab (Ft ad v) w fun w' => NL .u8 w' p yss) (hl : xs.length + yss.flatten.length ≤ 10000000000) (hn : yss.length ≤ 10000000000) :
    Calls P n_num_Writer_Raw #[.pointer (some ad), p] w (fun e w' => e = .returned (.tuple #[]) ∧ ∃ v', WS w w' ad v v' (xs ++ yss.flatten)) := by
  refine of_num_Writer_Raw (gNe_pnil (gIf_t (gNil_some ?_)))
  rw [Addr.add_zero']
  exact gCall_u (put_any h hp hl hn) fun w' hw => ⟨rfl, hw⟩
/-- A list of one. -/
theorem NL.one {k : IntKind} {B : Nat} {e : TypeId} {w : World} {p x : Value} {xs : List Int} (h : w.ownsRow B e 1 p 1 [x]) (hx : Nm k w x xs) : NL k w p [xs] :=
  ⟨[x], Sl.of_own h, fun i u ys hu hy => by
    cases i with
    | zero => simp at hu hy; subst hu; subst hy; exact hx
    | succ i => simp at hu⟩
/-- One part more. -/
theorem raw1_any {ad : Addr} {v x : Value} {xs ys : List Int} {w : World} {K : World → Prop} (h : W1 w ad v xs) (hx : Stab (Ft ad v) w fun w' => Nm .u8 w' x ys) (hl : xs.length + ys.length ≤ 10000000000) (hk : ∀ v' w', WS w w' ad v v' (xs ++ ys) → K w') :
    gLit P t_sl_sl_uint8 1 #[(0, x)] w fun (p : Value) w1 => gCall P n_num_Writer_Raw shU #[.pointer (some ad), p] w1 K := by
  refine gLit_1 [x] rfl rfl (by decide) (by simpa using hx.now.one) fun p w1 h1 hp => gCall_u (Raw_any (yss := [ys]) (h.ev h1) ?_ (by simpa using hl) (by simp)) ?_
  · intro w2 h2
    have hx2 : Nm .u8 w2 x ys := hx w2 (Ch.trans (h1.mono fun _ _ _ h => h.elim) h2 fun _ _ _ h => h)
    have hb : ∀ g, p.ownBlock = some g → w.heap.size ≤ g := fun g hg => (hp.lt g hg).1
    refine NL.one (B := 0) (e := elOf P t_sl_sl_uint8) ?_ hx2
    refine ⟨rfl, ?_⟩
    rcases hp.2 with ⟨_, h0⟩ | ⟨g, cap, cur, hv, hbg, hg, r⟩
    · cases h0
    · refine .inr ⟨g, cap, cur, hv, Nat.zero_le _, ?_, r⟩
      rw [h2.blk g (hlt hg) fun i hh => ?_]; exact hg
      have := hb g (by rw [hv]; rfl)
      have := h.lt (k := g) (i := i) hh; omega
  · rintro w2 ⟨v', hW⟩
    exact hk v' w2 (WrS.pre h1 (by simpa using hW))
/-- One byte more. -/
theorem rawb_any {ad : Addr} {v : Value} {xs : List Int} {x : Int} {w : World} {K : World → Prop} (h : W1 w ad v xs) (hx : 0 ≤ x ∧ x < 256) (hl : xs.length + 1 ≤ 10000000000) (hk : ∀ v' w', WS w w' ad v v' (xs ++ [x]) → K w') :
    gLit P t_sl_uint8 1 #[(0, .int .u8 x)] w fun (y : Value) w1 => gLit P t_sl_sl_uint8 1 #[(0, y)] w1 fun (p : Value) w2 => gCall P n_num_Writer_Raw shU #[.pointer (some ad), p] w2 K :=
  gLit_n (k := .u8) [x] rfl rfl (by decide) (fun y hy => by simp at hy; subst hy; exact u8i hx) fun y w1 h1 hy => raw1_any (h.ev h1) (hy.nm.stab fun g i hg hlt hf => by
    have := (hy.base hg).1; have := h.lt (k := g) (i := i) hf; omega) (by simpa using hl) fun v' w' hW => hk v' w' (WrS.pre h1 hW)
def numB (v : Nat) : List Int := if v < 128 then [(v : Int)] else ((v % 128 + 128 : Nat) : Int) :: numB (v / 128)
theorem numB_lt {v : Nat} (h : v < 128) : numB v = [(v : Int)] := by rw [numB, if_pos h]
theorem numB_ge {v : Nat} (h : ¬ v < 128) : numB v = ((v % 128 + 128 : Nat) : Int) :: numB (v / 128) := by rw [numB, if_neg h]
theorem numB_len : ∀ (k v : Nat), v < 128 ^ (k + 1) → (numB v).length ≤ k + 1
  | 0, v, h => by rw [numB_lt (by simpa using h)]; simp
  | k + 1, v, h => by
    by_cases hv : v < 128
    · rw [numB_lt hv]; simp
    · rw [numB_ge hv]
      have : v / 128 < 128 ^ (k + 1) := by rw [Nat.div_lt_iff_lt_mul (by decide)]; rwa [Nat.pow_succ] at h
      have := numB_len k (v / 128) this
      simp; omega
theorem Num_any {ad : Addr} {v : Value} {xs : List Int} {n : Int} {w : World} (h : W1 w ad v xs) (hn : 0 ≤ n ∧ n < 18446744073709551616) (hl : xs.length + 10 ≤ 10000000000) :
    Calls P n_num_Writer_Num #[.pointer (some ad), .int .u64 n] w (fun e w' => e = .returned (.tuple #[]) ∧ ∃ v', WS w w' ad v v' (xs ++ numB n.toNat)) := by
  have h10 := numB_len 9 n.toNat (by rw [show (128 : Nat) ^ (9 + 1) = 1180591620717411303424 by decide]; omega)
  refine of_num_Writer_Num ⟨fun m w1 => ∃ (q : Nat) (ys : List Int) (v' : Value), m = q ∧ q < 18446744073709551616 ∧ numB n.toNat = ys ++ numB q ∧ WS w w1 ad v v' (xs ++ ys), fun m _ => m.toNat, ⟨n.toNat, [], v, by omega, by omega, by simp, by simpa using h.step⟩, ?_⟩
  rintro _ m w1 ⟨q, ys, v', rfl, hq, hnb, hW⟩
  refine gIf_dec (fun hge => ?_) (fun hlt => ?_)
  · have e1 : iOr .u8 (u8 (q : Int)) 128 = ((q % 128 + 128 : Nat) : Int) := by
      have h1 : u8 (q : Int) = ((q % 256 : Nat) : Int) := by rw [u8_def, Int.natCast_emod]; rfl
      rw [h1]
      have h2 := iOr_nat (k := .u8) rfl (a := q % 256) (b := 128) (by rw [bits8]; omega) (by decide)
      have h3 : ∀ a : Nat, a < 256 → a ||| 128 = a % 128 + 128 := by decide +kernel
      rw [show ((128 : Nat) : Int) = 128 from rfl] at h2
      rw [h2, h3 _ (by omega)]; omega
    rw [e1]
    rw [numB_ge (v := q) (by omega)] at hnb
    have hlen := congrArg List.length hnb
    simp only [List.length_append, List.length_cons] at hlen
    have e2 : iShr .u64 (q : Int) 7 = ((q / 128 : Nat) : Int) := by
      have := iShr_div (k := .u64) (a := (q : Int)) (n := 7) (by decide) (by omega)
      rw [show ((7 : Nat) : Int) = 7 from rfl] at this
      rw [this, Int.natCast_ediv]
    rw [e2]
    refine rawb_any hW.1 (by omega) (by rw [List.length_append]; omega) fun v2 w2 hW2 => ⟨⟨q / 128, ys ++ [((q % 128 + 128 : Nat) : Int)], v2, rfl, by omega, ?_, ?_⟩, by dsimp only; omega⟩
    · rw [hnb]; simp
    · rw [← List.append_assoc]; exact hW.trans hW2
  · have h1 : u8 (q : Int) = q := u8_id (by omega) (by omega)
    rw [h1]
    rw [numB_lt (v := q) (by omega)] at hnb
    have hlen := congrArg List.length hnb
    simp only [List.length_append, List.length_cons] at hlen
    refine rawb_any hW.1 (by omega) (by rw [List.length_append]; omega) fun v2 w2 hW2 => ⟨rfl, v2, ?_⟩
    rw [hnb, ← List.append_assoc]; exact hW.trans hW2
theorem Bytes_W {ad : Addr} {v : Value} {xs : List Int} {w : World} (h : W1 w ad v xs) (hl : xs.length ≤ 10000000000) :
    Calls P n_num_Writer_Bytes #[.pointer (some ad)] w (fun e w' => ∃ y, e = .returned y ∧ Ev w w' ∧ ON .u8 eB w' w.heap.size y xs) := by
  refine of_num_Writer_Bytes (gEq_pnil (gIf_f (gNil_some ?_)))
  rw [Addr.add_zero', Addr.add_zero']
  refine gLoad_v (v := v) (by have := h.1.cell (j := 0) rfl; rwa [Addr.add_zero'] at this) (gApp_on (ON.nil .u8 eB w w.heap.size) h.2.1.nm (by simp; omega) (Nat.le_refl _) fun y w' hy hc hm => ⟨y, rfl, ?_, by simpa using hy⟩)
  exact hc.mono fun _ _ _ hh => by cases hh
end Go.Proofs.YtilpoinhfiajcaaGreatDoorV

/- Package num: Text, Zig, Little, Big; folding. -/
namespace Go.Proofs.YtilpoinhfiajcaaGreatDoorV
open Go Go.RowKit

def foldI (v : Int) : Int := if v ≥ 0 then 2 * v else -2 * v - 1
def unfoldI (u : Int) : Int := if u % 2 = 0 then u / 2 else -(u / 2) - 1
theorem xor_ones {k : IntKind} {a : Nat} (ha : a < 2 ^ k.bits) : iXor k (a : Int) (-1) = k.wrap ((2 ^ k.bits - 1 - a : Nat) : Int) := by
  unfold iXor
  have h1 : BitVec.ofInt k.bits (-1) = BitVec.allOnes k.bits := by cases k <;> decide
  rw [h1, BitVec.xor_allOnes, BitVec.toNat_not, ofInt_nat, BitVec.toNat_ofNat, Nat.mod_eq_of_lt ha]
theorem xor_zero {k : IntKind} (a : Int) (h : k.wrap a = a) (h0 : 0 ≤ a) (ha : a < 2 ^ k.bits) : iXor k a 0 = a := by
  obtain ⟨a, rfl⟩ := Int.eq_ofNat_of_zero_le h0
  unfold iXor
  have h1 : BitVec.ofInt k.bits 0 = 0#k.bits := rfl
  rw [h1, BitVec.xor_zero, ofInt_nat, BitVec.toNat_ofNat, Nat.mod_eq_of_lt (by exact_mod_cast ha), h]
theorem Fold_any {v : Int} {w : World} (h : -9223372036854775808 ≤ v ∧ v ≤ 9223372036854775807) : Calls P n_num_Fold #[.int .i64 v] w (fun e w' => e = .returned (.int .u64 (foldI v)) ∧ w' = w) := by
  refine of_num_Fold ⟨?_, rfl⟩
  have e2 : iShr .i64 v 63 = if v ≥ 0 then 0 else -1 := by
    unfold iShr
    rw [show min (Int.toNat 63) IntKind.i64.bits = 63 from rfl, show (2 : Int) ^ 63 = 9223372036854775808 by decide, Int.fdiv_eq_ediv_of_nonneg _ (by decide)]
    split <;> omega
  have e1 : iShl .u64 (u64 v) 1 = (u64 v * 2) % 18446744073709551616 := by
    have := iShl_u (k := .u64) (a := u64 v) (n := 1) rfl (by decide) (by rw [u64_def]; omega)
    rw [show ((1 : Nat) : Int) = 1 from rfl] at this
    rw [this, bits64]; rfl
  rw [e1, e2, u64_def]
  unfold foldI
  split
  · rename_i h0
    rw [show u64 0 = 0 by decide, xor_zero _ ?_ (by omega) (by rw [show (2 : Int) ^ IntKind.u64.bits = 18446744073709551616 by decide]; omega)]
    · congr 2; omega
    · show u64 _ = _; rw [u64_def]; omega
  · rename_i h0
    have e3 : u64 (-1) = 18446744073709551615 := by decide
    have e4 : v % 18446744073709551616 * 2 % 18446744073709551616 = ((2 * v + 18446744073709551616).toNat : Int) := by omega
    have e5 : BitVec.ofInt IntKind.u64.bits 18446744073709551615 = BitVec.ofInt IntKind.u64.bits (-1) := by decide
    have e6 : ∀ a : Int, iXor .u64 a 18446744073709551615 = iXor .u64 a (-1) := fun a => by unfold iXor; rw [e5]
    rw [e3, e4, e6, xor_ones (by rw [bits64]; omega), bits64]
    congr 2
    show u64 _ = _; rw [u64_def]; omega
theorem Unfold_any {u : Int} {w : World} (h : 0 ≤ u ∧ u < 18446744073709551616) : Calls P n_num_Unfold #[.int .u64 u] w (fun e w' => e = .returned (.int .i64 (unfoldI u)) ∧ w' = w) := by
  refine of_num_Unfold ⟨?_, rfl⟩
  have e1 : iShr .u64 u 1 = u / 2 := by
    have := iShr_div (k := .u64) (a := u) (n := 1) (by decide) (by omega)
    rw [show ((1 : Nat) : Int) = 1 from rfl] at this
    rw [this]; rfl
  have e2 : iAnd .u64 u 1 = u % 2 := by
    have := iAnd_mask (k := .u64) (a := u) (m := 1) (n := 1) rfl (by omega) (by rw [show (2 : Int) ^ IntKind.u64.bits = 18446744073709551616 by decide]; omega) rfl (by decide)
    rw [show ((1 : Nat) : Int) = 1 from rfl] at this
    rw [this]; rfl
  rw [e1, e2, i64_id (n := u / 2) (by omega) (by omega), i64_id (n := u % 2) (by omega) (by omega)]
  unfold unfoldI
  split
  · rename_i h0
    rw [h0, show i64 (0 - 0) = 0 by decide, xor_zero _ (i64_id (by omega) (by omega)) (by omega) (by rw [show (2 : Int) ^ IntKind.i64.bits = 18446744073709551616 by decide]; omega)]
  · rename_i h0
    rw [show u % 2 = 1 by omega, show i64 (0 - 1) = -1 by decide]
    have e4 : u / 2 = ((u / 2).toNat : Int) := by omega
    rw [e4, xor_ones (by rw [show (2 : Nat) ^ IntKind.i64.bits = 18446744073709551616 by decide]; omega), show (2 : Nat) ^ IntKind.i64.bits = 18446744073709551616 by decide]
    congr 2
    show i64 _ = _; rw [i64_def]; omega
theorem numB_len64 {n : Nat} (h : n < 18446744073709551616) : (numB n).length ≤ 10 := numB_len 9 n (by rw [show (128 : Nat) ^ (9 + 1) = 1180591620717411303424 by decide]; omega)
theorem Text_any {ad : Addr} {v b : Value} {xs ys : List Int} {w : World} (h : W1 w ad v xs) (hb : Stab (Ft ad v) w fun w' => Nm .u8 w' b ys) (hl : xs.length + ys.length + 10 ≤ 10000000000) :
    Calls P n_num_Writer_Text #[.pointer (some ad), b] w (fun e w' => e = .returned (.tuple #[]) ∧ ∃ v', WS w w' ad v v' (xs ++ numB ys.length ++ ys)) := by
  refine of_num_Writer_Text (gLen_nm hb.now ?_)
  rw [show u64 (ys.length : Int) = ys.length by rw [u64_def]; omega]
  refine gCall_u (Num_any h (by omega) (by omega)) fun w1 ⟨v1, hW⟩ => ?_
  have := numB_len64 (n := ys.length) (by omega)
  rw [Int.toNat_natCast] at hW
  refine raw1_any hW.1 (fun w2 h2 => hb w2 (Ch.trans hW.2.1 h2 fun n i hn hf => ?_)) (by rw [List.length_append]; omega) fun v2 w2 hW2 => ⟨rfl, v2, hW.trans hW2⟩
  rcases hf with hf | hf
  · exact .inl hf
  · rcases hW.2.2 with hm | hm
    · exact .inr (hm ▸ hf)
    · have := hm n hf; omega
/-! ### A nil writer -/
end Go.Proofs.YtilpoinhfiajcaaGreatDoorV

/- Package rice: numbers as bits; which numbers bits are. No program in sight. -/
namespace Go.Proofs.YtilpoinhfiajcaaGreatDoorV
open Go Go.RowKit
/-- The bytes of bits. -/
noncomputable def pkB (bs : List Int) : List Int := open Classical in if h : ∃ xs, inR .u8 xs ∧ Packs xs bs then h.choose else []
theorem pkB_eq {xs bs : List Int} (h1 : inR .u8 xs) (h2 : Packs xs bs) : pkB bs = xs := by
  have h : ∃ xs, inR .u8 xs ∧ Packs xs bs := ⟨xs, h1, h2⟩
  unfold pkB
  rw [dif_pos h]
  exact h.choose_spec.2.uniq h.choose_spec.1 h1 h2
/-- A number in bits. -/
def numL (v : Int) (k : Nat) : List Int := if foldI v / ((2 ^ k : Nat) : Int) < 24 then List.replicate (foldI v / ((2 ^ k : Nat) : Int)).toNat 1 ++ [0] ++ bitsL (foldI v) k else List.replicate 24 1 ++ bitsL (foldI v) 32
def costN (v : Int) (k : Nat) : Int := if foldI v / ((2 ^ k : Nat) : Int) < 24 then foldI v / ((2 ^ k : Nat) : Int) + 1 + k else 56
def costL (k : Nat) : List Int → Int
  | [] => 0
  | v :: l => costN v k + costL k l
theorem foldI_nn (v : Int) : 0 ≤ foldI v := by unfold foldI; split <;> omega
theorem foldI32 {v : Int} (h : -2147483648 ≤ v ∧ v ≤ 2147483647) : 0 ≤ foldI v ∧ foldI v < 4294967296 := by unfold foldI; split <;> omega
theorem fdiv_nn (v : Int) (k : Nat) : 0 ≤ foldI v / ((2 ^ k : Nat) : Int) := Int.ediv_nonneg (foldI_nn v) (Int.natCast_nonneg _)
theorem costN_bd (v : Int) {k : Nat} (hk : k ≤ 24) : 0 ≤ costN v k ∧ costN v k ≤ 56 := by
  have := fdiv_nn v k
  unfold costN; split <;> omega
theorem costL_bd {k : Nat} (hk : k ≤ 24) : ∀ l : List Int, 0 ≤ costL k l ∧ costL k l ≤ 56 * l.length
  | [] => by simp [costL]
  | v :: l => by
    have h1 := costN_bd v hk
    have h2 := costL_bd hk l
    simp only [costL, List.length_cons]; omega
theorem costL_app (k : Nat) (v : Int) : ∀ l : List Int, costL k (l ++ [v]) = costL k l + costN v k
  | [] => by simp [costL]
  | u :: l => by simp only [List.cons_append, costL, costL_app k v l]; omega
theorem numL_len (v : Int) (k : Nat) : ((numL v k).length : Int) = costN v k := by
  have := fdiv_nn v k
  unfold numL costN
  generalize foldI v / ((2 ^ k : Nat) : Int) = q at *
  split <;> simp [bitsL_len] <;> omega
def bestU (l : List Int) : Nat → Nat
  | 0 => 0
  | k + 1 => if costL (k + 1) l < costL (bestU l k) l then k + 1 else bestU l k
theorem bestU_le (l : List Int) : ∀ k, bestU l k ≤ k
  | 0 => Nat.le_refl _
  | k + 1 => by
    have := bestU_le l k
    unfold bestU; split <;> omega
def bestL (l : List Int) : Nat := bestU l 24
theorem bestL_le (l : List Int) : bestL l ≤ 24 := bestU_le l 24
/-- The numbers of a part of 64. -/
def part64 (l : List Int) (j : Nat) : List Int := (l.drop (j * 64)).take 64
def kOf (l : List Int) (i : Nat) : Nat := bestL (part64 l (i / 64))
theorem kOf_le (l : List Int) (i : Nat) : kOf l i ≤ 24 := bestL_le _
def piece (l : List Int) (i : Nat) : List Int := (if i % 64 = 0 then bitsL (kOf l i) 5 else []) ++ numL (rd l i) (kOf l i)
def packTo (l : List Int) : Nat → List Int
  | 0 => []
  | m + 1 => packTo l m ++ piece l m
theorem piece_len (l : List Int) (i : Nat) : (piece l i).length ≤ 56 + (if i % 64 = 0 then 5 else 0) := by
  have h1 := numL_len (rd l i) (kOf l i)
  have h2 := costN_bd (rd l i) (kOf_le l i)
  unfold piece
  rw [List.length_append]
  split <;> simp [bitsL_len] <;> omega
theorem packTo_len (l : List Int) : ∀ m, (packTo l m).length ≤ 56 * m + 5 * ((m + 63) / 64)
  | 0 => by simp [packTo]
  | m + 1 => by
    have h1 := piece_len l m
    have h2 := packTo_len l m
    rw [packTo, List.length_append]
    split at h1 <;> omega
def numsTo (p : List Int) (k : Nat) : Nat → List Int
  | 0 => []
  | t + 1 => numsTo p k t ++ numL (rd p t) k
theorem rd_part {l : List Int} {j t : Nat} (ht : t < 64) : rd (part64 l j) t = rd l ((64 * j + t : Nat) : Int) := by
  unfold rd part64
  rw [Int.toNat_natCast, Int.toNat_natCast, List.getD_eq_getElem?_getD, List.getD_eq_getElem?_getD, List.getElem?_take, if_pos ht, List.getElem?_drop]
  congr 2; omega
theorem packTo_in (l : List Int) (j : Nat) : ∀ t, t < 64 → packTo l (64 * j + (t + 1)) = packTo l (64 * j) ++ bitsL (bestL (part64 l j)) 5 ++ numsTo (part64 l j) (bestL (part64 l j)) (t + 1)
  | 0, h => by
    rw [show 64 * j + (0 + 1) = 64 * j + 1 from rfl, packTo]
    unfold piece kOf
    rw [if_pos (by omega), show 64 * j / 64 = j by omega]
    simp only [numsTo, List.nil_append]
    rw [rd_part (by omega)]; simp
  | t + 1, h => by
    rw [show 64 * j + (t + 1 + 1) = (64 * j + (t + 1)) + 1 from rfl, packTo, packTo_in l j t (by omega)]
    unfold piece kOf
    rw [if_neg (by omega), show (64 * j + (t + 1)) / 64 = j by omega, List.nil_append]
    show _ = _ ++ (numsTo _ _ (t + 1) ++ numL (rd (part64 l j) ((t + 1 : Nat) : Int)) _)
    rw [rd_part (by omega)]; simp
/-! ### Reading -/
def unf (u : Int) : Int := i32 (unfoldI u)
def nextV (xs : List Int) (a : Nat) (er : Int) (k : Nat) : Int × Nat × Int :=
  let q := unaryR xs a er 24
  if q.1 = 24 then (unf (bitsR xs q.2.1 q.2.2 32).1, (bitsR xs q.2.1 q.2.2 32).2) else (unf (iOr .u32 (iShl .u32 q.1 k) (bitsR xs q.2.1 q.2.2 k).1), (bitsR xs q.2.1 q.2.2 k).2)
def headK (xs : List Int) (i k a : Nat) : Int × Nat × Int := if i % 64 = 0 then bitsR xs a 0 5 else ((k : Int), a, 0)
def stepR (xs : List Int) (i k a : Nat) : Option (Int × Nat × Nat) :=
  let r := headK xs i k a
  let q := nextV xs r.2.1 r.2.2 (min r.1.toNat 24)
  if q.2.2 ≠ 0 then none else some (q.1, r.1.toNat, q.2.1)
def readN (lim : Bool) (xs : List Int) : Nat → Nat → Nat → Nat → Option (List Int)
  | 0, _, _, _ => some []
  | f + 1, i, k, a => match stepR xs i k a with
    | none => none
    | some (v, k', a') => if lim = true ∧ 24 < k' then none else (readN lim xs f (i + 1) k' a').map (v :: ·)
noncomputable def unpE (lim : Bool) (xs : List Int) (n : Int) : List Int × Int :=
  if n < 0 then ([], 1) else if n > 1048576 then ([], 5) else match readN lim xs n.toNat 0 0 0 with
    | none => ([], 4)
    | some l => if pkB (packTo l l.length) = xs then (l, 0) else ([], 4)
def hasAt (xs : List Int) (a : Nat) (bs : List Int) : Prop := a + bs.length ≤ 8 * xs.length ∧ ∀ k, k < bs.length → bitAt xs (a + k) = bs.getD k 0
theorem hasAt.left {xs : List Int} {a : Nat} {bs cs : List Int} (h : hasAt xs a (bs ++ cs)) : hasAt xs a bs := by
  obtain ⟨h1, h2⟩ := h
  rw [List.length_append] at h1 h2
  refine ⟨by omega, fun k hk => ?_⟩
  rw [h2 k (by omega), List.getD_eq_getElem?_getD, List.getD_eq_getElem?_getD, List.getElem?_append_left hk]
theorem hasAt.right {xs : List Int} {a : Nat} {bs cs : List Int} (h : hasAt xs a (bs ++ cs)) : hasAt xs (a + bs.length) cs := by
  obtain ⟨h1, h2⟩ := h
  rw [List.length_append] at h1 h2
  refine ⟨by omega, fun k hk => ?_⟩
  rw [Nat.add_assoc, h2 (bs.length + k) (by omega), List.getD_eq_getElem?_getD, List.getD_eq_getElem?_getD, List.getElem?_append_right (by omega), Nat.add_sub_cancel_left]
theorem uL_rng (xs : List Int) (a : Nat) {most : Int} (hm : 0 ≤ most) : ∀ (f n : Nat), (n : Int) ≤ most → 0 ≤ (uL xs a most f n).1 ∧ (uL xs a most f n).1 ≤ most
  | 0, n, h => by simp [uL, hm]
  | f + 1, n, h => by
    unfold uL
    split
    · exact ⟨Int.natCast_nonneg _, h⟩
    · split
      · exact ⟨by simp, hm⟩
      · split
        · exact ⟨Int.natCast_nonneg _, h⟩
        · exact uL_rng xs a hm f (n + 1) (by omega)
theorem unaryR_rng (xs : List Int) (a : Nat) (er : Int) : 0 ≤ (unaryR xs a er 24).1 ∧ (unaryR xs a er 24).1 ≤ 24 := by
  unfold unaryR
  split
  · simp
  · exact uL_rng xs a (by decide) _ 0 (by decide)
theorem hasAt.to {xs : List Int} {l : List Int} {n : Nat} (h : hasAt xs 0 (packTo l n)) : ∀ i, i < n → hasAt xs (packTo l i).length (piece l i) := by
  induction n with
  | zero => intro i hi; omega
  | succ n ih =>
    intro i hi
    rw [packTo] at h
    by_cases e : i = n
    · subst e
      have := h.right
      rwa [Nat.zero_add] at this
    · exact ih h.left i (by omega)
theorem readN_len {lim : Bool} {xs : List Int} : ∀ (f i k a : Nat) {l : List Int}, readN lim xs f i k a = some l → l.length = f
  | 0, i, k, a, l, h => by injection h with h; subst h; rfl
  | f + 1, i, k, a, l, h => by
    rw [readN] at h
    split at h
    · cases h
    · split at h
      · cases h
      · rw [Option.map_eq_some_iff] at h
        obtain ⟨r, hr, rfl⟩ := h
        rw [List.length_cons, readN_len f _ _ _ hr]
theorem i32_rng' (n : Int) : -2147483648 ≤ i32 n ∧ i32 n ≤ 2147483647 := by rw [i32_def]; omega
theorem nextV_rng (xs : List Int) (a : Nat) (er : Int) (k : Nat) : -2147483648 ≤ (nextV xs a er k).1 ∧ (nextV xs a er k).1 ≤ 2147483647 := by
  unfold nextV
  dsimp only
  split <;> exact i32_rng' _
theorem rd_in {l : List Int} (h : ∀ x ∈ l, -2147483648 ≤ x ∧ x ≤ 2147483647) (i : Nat) : -2147483648 ≤ rd l i ∧ rd l i ≤ 2147483647 := by
  by_cases hi : i < l.length
  · exact h _ (rd_mem (by omega) (by omega))
  · unfold rd; rw [Int.toNat_natCast, List.getD_eq_getElem?_getD, List.getElem?_eq_none (by omega)]; decide
theorem Packs.has {xs bs : List Int} (h : Packs xs bs) : hasAt xs 0 bs := ⟨by have := h.1; omega, fun k hk => by rw [Nat.zero_add]; exact h.2 k (by have := h.1; omega)⟩
end Go.Proofs.YtilpoinhfiajcaaGreatDoorV

/- Package slices: Chunk of int32, and what ranges over it. -/
namespace Go.Proofs.YtilpoinhfiajcaaGreatDoorV
open Go Go.RowKit
/-- v[l:h:h]. -/
def subV3 (sz : Nat) (v : Value) (l h : Nat) : Value := match v with
  | .slice a _ _ => .slice (if h = l then a else a.map (·.add (l * sz))) (h - l) (h - l)
  | v => v
section
variable {P : Program} {w : World}
theorem gSlice_3 {t : TypeId} {sz : Nat} {a : Option Addr} {n c : Nat} {k1 k2 k3 : IntKind} {l h : Nat} {K : Value → Prop} (hl : l ≤ h) (hh : h ≤ c)
    (hk : K (subV3 sz (.slice a n c) l h)) (ht : slSz P t sz = true) : gSlice P t (.slice a n c) (some (.int k1 l)) (some (.int k2 h)) (some (.int k3 h)) K := by
  obtain ⟨hu, i, hi', hsz⟩ := slSz_ok ht
  refine ⟨_, fun w => ?_, hk⟩
  have hb : (Instr.sliceBounds true n c (some (.int k1 l)) (some (.int k2 h)) (some (.int k3 h))).run P w = .ok (l, h, h) w := by
    simp [Instr.sliceBounds, Instr.sliceBound, asIntOf, hl, hh]
  simp only [Instr.sliceAt, Sem.run_bind, run_underlying hu, Result.andThen_ok, Instr.slice, hb, sizeOf, typeInfo, run_program, hi', Sem.run_pure, hsz, subV3]
theorem Nm.sub3 {k : IntKind} {v : Value} {xs : List Int} (h : Nm k w v xs) (l m : Nat) (hl : l ≤ m) (hm : m ≤ xs.length) : Nm k w (subV3 1 v l m) ((xs.drop l).take (m - l)) := by
  refine ⟨?_, (h.2.drop l).take _⟩
  obtain ⟨a, c, rfl, h1, h2, h3, h4⟩ := h.1
  have hlen : ((xs.drop l).take (m - l)).length = m - l := by rw [List.length_take, List.length_drop]; omega
  rw [hlen]
  refine ⟨_, _, rfl, Nat.le_refl _, by simp; omega, fun ad ha j u hj => ?_, fun ha => ?_⟩
  · have hjl : j < m - l := by have := (List.getElem?_eq_some_iff.1 hj).1; simp at this; omega
    rw [if_neg (by omega), Option.map_eq_some_iff] at ha
    obtain ⟨a0, rfl, rfl⟩ := ha
    rw [Addr.add2', Nat.mul_one]
    refine h3 a0 rfl _ u ?_
    rw [List.getElem?_map, List.getElem?_take, if_pos hjl, List.getElem?_drop] at hj
    rw [List.getElem?_map]; exact hj
  · split at ha
    · have := h4 ha; omega
    · have := h4 (Option.map_eq_none_iff.1 ha); omega
theorem subV3_own (sz : Nat) (v : Value) (l m : Nat) : (subV3 sz v l m).ownBlock = v.ownBlock := by
  cases v <;> try rfl
  rename_i a n c
  simp only [subV3]
  split
  · cases a <;> rfl
  · cases a with
    | none => rfl
    | some ad => simp only [Option.map_some, Value.ownBlock]; unfold Addr.add; split <;> rfl
theorem Fr.putObj {w0 : World} {F : List It} {D : Nat} {o o' : Obj} (h : Fr w0 w F) (hD : w0.heap.size ≤ D) (hk : w.heap[D]? = some o) (ho : o.isCells = false) : Fr w0 (w.putObj D o') F :=
  h.gr (by simp) rfl rfl rfl (fun k hk' => World.putObj_heap_other (by omega)) fun k c e f hc => World.putObj_heap_other (ne_cells hc hk ho).symm
theorem Fr.grown {w0 w' : World} {F : List It} {row : Option Nat} (h : Fr w0 w F) (hg : w.grownBy w' row) (hr : ∀ r, row = some r → w0.heap.size ≤ r ∧ ∃ o : Obj, w.heap[r]? = some o ∧ o.isCells = false) : Fr w0 w' F :=
  h.gr hg.size hg.os hg.tape hg.output (fun k hk => hg.block k (Nat.lt_of_lt_of_le hk h.old.size) fun e => by have := (hr k e.symm).1; omega)
    fun k c e f hc => hg.block k (hlt hc) fun e' => by obtain ⟨_, o, ho, hn⟩ := hr k e'.symm; exact ne_cells hc ho hn rfl
end
/-- The numbers of a part. -/
def chL (n : Nat) (xs : List Int) (j : Nat) : List Int := (xs.drop (j * n)).take n
/-- The part itself. -/
def chV (n : Nat) (s : Value) (len j : Nat) : Value := if j * n ≤ len then subV3 1 s (j * n) (min (j * n + n) len) else .slice none 0 0
/-- How many parts there are. -/
def chN (n len : Nat) : Nat := (len + (n - 1)) / n
theorem chL_len (n : Nat) (xs : List Int) (j : Nat) : (chL n xs j).length ≤ n := by unfold chL; rw [List.length_take]; omega
theorem chV_nm {k : IntKind} {w : World} {n : Nat} {s : Value} {xs : List Int} (h : Nm k w s xs) (j : Nat) : Nm k w (chV n s xs.length j) (chL n xs j) := by
  unfold chV chL
  split
  · rename_i hj
    have := h.sub3 (j * n) (min (j * n + n) xs.length) (by omega) (by omega)
    have e : (xs.drop (j * n)).take (min (j * n + n) xs.length - j * n) = (xs.drop (j * n)).take n := by
      by_cases hc : j * n + n ≤ xs.length
      · rw [Nat.min_eq_left hc, Nat.add_sub_cancel_left]
      · rw [Nat.min_eq_right (by omega), List.take_of_length_le (by simp), List.take_of_length_le (by simp; omega)]
    rwa [e] at this
  · rw [List.drop_of_length_le (by omega), List.take_nil]; exact Nm.nil k w
theorem chN_lt {n len j : Nat} (hn : 1 ≤ n) : j < chN n len ↔ j * n < len := by
  unfold chN
  rw [Nat.lt_div_iff_mul_lt (by omega)]
  omega
section
variable {w0 w : World} {F : List It} {s : Value} {xs : List Int} {n : Nat} {a b : Addr}
theorem Chunk_any {K : Value → World → Prop} (h : Fr w0 w F) (hs : s.cells = #[s]) (hn : 1 ≤ n) (hk : ∀ a b w', Fr w0 w' (sIt b [.int .i64 (n : Int)] :: sIt a [s] :: F) → K (.func (.func n_slices_Chunk_int32_int32_1) #[] #[.pointer (some a), .pointer (some b)]) w') :
    gCall P n_slices_Chunk_int32_int32 shV #[s, .int .i64 (n : Int)] w K := by
  refine gCall_of (R := fun e w' => ∃ a b, e = .returned (.func (.func n_slices_Chunk_int32_int32_1) #[] #[.pointer (some a), .pointer (some b)]) ∧ Fr w0 w' (sIt b [.int .i64 (n : Int)] :: sIt a [s] :: F)) (of_slices_Chunk_int32_int32 (fBox h fun a w1 f1 => fBox f1 fun b w2 f2 => ?_)) ?_
  · rw [hs] at f2
    have hc := f2.cell 0 0 rfl rfl
    rw [Addr.add_zero'] at hc
    exact gLoad_i hc (gIf_dec (fun h => by omega) fun _ => ⟨a, b, rfl, f2⟩)
  · rintro _ w' ⟨a, b, rfl, f⟩
    exact ⟨_, rfl, hk a b w' f⟩
/-- What a round keeps. -/
def KpC (a b : Addr) (s : Value) (n : Nat) (A B : World) : Prop := (A.cell? a = some s → B.cell? a = some s) ∧ (A.cell? b = some (.int .i64 (n : Int)) → B.cell? b = some (.int .i64 (n : Int)))
theorem chunk_stops (hs : Nm .i32 w s xs) (hl : xs.length ≤ 1000000000) (hn : 1 ≤ n) (hn2 : n ≤ 1000000) (ha : w.cell? a = some s) (hb : w.cell? b = some (.int .i64 (n : Int))) :
    SeqStopsK Fence.wide 4 P n_slices_Chunk_int32_int32_1 #[.pointer (some a), .pointer (some b)] (fun j : Nat => #[chV n s xs.length j]) (KpC a b s n) (fun ys => ys = List.range (chN n xs.length)) (fun _ => True) (chN n xs.length) w := by
  intro l J Jx W hW hJ hJx hY h0
  refine callsIn_wide.2 ?_
  have sl := hs.shape
  obtain ⟨sa, sc, hsv, hsc⟩ := sl
  have haW := (hW.cell (p := a) (World.block_lt_of_cell? w _ ha)).trans ha
  have hbW := (hW.cell (p := b) (World.block_lt_of_cell? w _ hb)).trans hb
  show Calls P n_slices_Chunk_int32_int32_1 #[.func (.yield l) #[] #[], .pointer (some a), .pointer (some b)] W _
  refine of_slices_Chunk_int32_int32_1 ⟨fun i w' => ∃ j : Nat, i = ((j * n : Nat) : Int) ∧ j ≤ chN n xs.length ∧ J (List.range j) w' ∧ KpC a b s n W w', fun i _ => xs.length - i.toNat, ⟨0, by simp, by omega, h0, id, id⟩, ?_⟩
  rintro _ i w1 ⟨j, rfl, hj, hJ1, hK1⟩
  have ha1 := hK1.1 haW
  have hb1 := hK1.2 hbW
  have hjn := chN_lt (len := xs.length) (j := j) hn
  subst hsv
  refine gLoad_v ha1 (gLen_sl (gIf_dec (fun hlt => ?_) (fun hge => ?_)))
  · have hlt' : j * n < xs.length := by omega
    refine gLoadB_i (at1 hb1) (gLoadB_v (at1 ha1) (gSlice_any (sz := 1) (l := j * n) (h := xs.length) (.inr ⟨_, rfl⟩) (.inl ⟨rfl, rfl⟩) (by omega) hsc ?_ (by kernel_rfl)))
    refine gLen_sl ?_
    have hmin : (if ((xs.length - j * n : Nat) : Int) < (n : Int) then ((xs.length - j * n : Nat) : Int) else (n : Int)) = ((min (xs.length - j * n) n : Nat) : Int) := by split <;> omega
    have hend : i64 (((j * n : Nat) : Int) + ((min (xs.length - j * n) n : Nat) : Int)) = ((min (j * n + n) xs.length : Nat) : Int) := by rw [i64_id (by omega) (by omega)]; omega
    rw [hmin, hend]
    refine gLoad_v ha1 (gSlice_3 (sz := 1) (by omega) (by omega) ?_ (by kernel_rfl))
    have hcv : subV3 1 (.slice sa xs.length sc) (j * n) (min (j * n + n) xs.length) = chV n (.slice sa xs.length sc) xs.length j := by unfold chV; rw [if_pos (by omega)]
    rw [hcv]
    have hJd : J (List.range j) w1.drew := hJ _ w1 w1.drew none hJ1 ⟨rfl, rfl, rfl, Nat.le_refl _, fun _ _ _ => rfl⟩ fun r e => by cases e
    obtain ⟨fn, tmps, asg, bo, hy, hR⟩ := hY (List.range j) j w1.drew hJd (by rw [List.length_range]; exact hjn.2 hlt')
    refine .inr ⟨l, 3, rfl, fn, tmps, asg, bo, hy, hR.mono ?_⟩
    rintro e W' (⟨rfl, hJ2, hK2⟩ | ⟨rfl, hJx2⟩)
    · have hb2 : W'.cell? b = some (.int .i64 (n : Int)) := hK2.2 hb1
      refine ⟨true, rfl, gIf_nt (gLoad_i hb2 ?_)⟩
      rw [show i64 (((j * n : Nat) : Int) + (n : Int)) = (((j + 1) * n : Nat) : Int) by rw [i64_id (by omega) (by omega), Nat.succ_mul]; omega]
      refine ⟨⟨j + 1, rfl, hjn.2 hlt', by rw [List.range_succ]; exact hJ2, fun _ => hK2.1 ha1, fun _ => hb2⟩, ?_⟩
      dsimp only
      rw [Int.toNat_natCast, Int.toNat_natCast, Nat.succ_mul]; omega
    · exact ⟨false, rfl, gIf_nf ⟨⟨_, rfl⟩, .inr ⟨_, trivial, hJx2⟩⟩⟩
  · refine ⟨⟨_, rfl⟩, .inl ⟨_, rfl, ?_⟩⟩
    have : j = chN n xs.length := by
      have h1 : ¬ j < chN n xs.length := fun h => by rw [hjn] at h; omega
      omega
    rw [← this]; exact hJ1
/-- The parts of a slice, one by one: Q tells what stands when some have come. -/
theorem range_chunk {BODY : Value → World → (World → Prop) → Prop} {POST : Nat → World → Prop} (f : Fr w0 w (sIt b [.int .i64 (n : Int)] :: sIt a [s] :: F)) (hs : Nm .i32 w0 s xs) (hl : xs.length ≤ 1000000000) (hn : 1 ≤ n) (hn2 : n ≤ 1000000)
    (Q : List Nat → List It → Prop) (h0 : Q [] F)
    (hbody : ∀ pre j W G, Q pre G → Fr w0 W (sIt b [.int .i64 (n : Int)] :: sIt a [s] :: G) → pre.length < chN n xs.length → Nm .i32 W (chV n s xs.length j) (chL n xs j) → (∀ g, (chV n s xs.length j).ownBlock = some g → g < w0.heap.size ∨ chL n xs j = []) →
      ∀ K : World → Prop, (∀ W' G', KeepsOthers W W' → Q (pre ++ [j]) G' → Fr w0 W' (sIt b [.int .i64 (n : Int)] :: sIt a [s] :: G') → K W') → BODY (chV n s xs.length j) W K)
    (hpost : ∀ D W G, w.heap.size ≤ D → Q (List.range (chN n xs.length)) G → Fr w0 W (sIt b [.int .i64 (n : Int)] :: sIt a [s] :: G) → W.heap[D]? = some (.deferred (some [])) → POST D W) :
    gRange P (.func (.func n_slices_Chunk_int32_int32_1) #[] #[.pointer (some a), .pointer (some b)]) w BODY POST := by
  have ca : ∀ {W : World} {G : List It}, Fr w0 W (sIt b [.int .i64 (n : Int)] :: sIt a [s] :: G) → W.cell? a = some s := fun f => by have := f.cell 1 0 rfl rfl; rwa [Addr.add_zero'] at this
  have cb : ∀ {W : World} {G : List It}, Fr w0 W (sIt b [.int .i64 (n : Int)] :: sIt a [s] :: G) → W.cell? b = some (.int .i64 (n : Int)) := fun f => by have := f.cell 0 0 rfl rfl; rwa [Addr.add_zero'] at this
  refine ⟨_, _, rfl, by kernel_rfl, Nat, chV n s xs.length, KpC a b s n, _, _, _, fun pre W => ∃ G, Q pre G ∧ Fr w0 W (sIt b [.int .i64 (n : Int)] :: sIt a [s] :: G), chunk_stops (hs.ev f.old) hl hn hn2 (ca f) (cb f), fun h k => ⟨fun x => k.1 (h.1 x), fun x => k.2 (h.2 x)⟩, ?_, ?_, ⟨F, h0, f⟩, ?_, ?_⟩
  · intro W l o o' _ hlo ho _
    have keep : ∀ {c : Addr} {u : Value}, W.cell? c = some u → (W.putObj l o').cell? c = some u := fun {c u} hc => by
      obtain ⟨oc, hoc, hcc⟩ := cells_of_cell hc
      have : c.block ≠ l := fun e => by rw [e, hlo] at hoc; injection hoc with hoc; subst hoc; rw [ho] at hcc; cases hcc
      rw [World.cell?_of_block (World.putObj_heap_other this)]; exact hc
    exact ⟨keep, keep⟩
  · rintro pre W W' row ⟨G, hQ, fG⟩ hg hr
    exact ⟨G, hQ, fG.grown hg fun r e => ⟨Nat.le_trans f.old.size (hr r e).1, (hr r e).2⟩⟩
  · rintro pre j W ⟨G, hQ, fG⟩ hlen
    have hN := chV_nm (n := n) (hs.ev fG.old) j
    refine hbody pre j W G hQ fG hlen hN (fun g hg => ?_) _ fun W' G' h1 h2 h3 => ⟨h1, ⟨fun _ => ca h3, fun _ => cb h3⟩, G', h2, h3⟩
    by_cases he : xs = []
    · right; unfold chL; rw [he]; simp
    · left
      unfold chV at hg
      split at hg
      · rw [subV3_own] at hg; exact hs.old he hg
      · cases hg
  · rintro D xs' W hD rfl ⟨G, hQ, fG⟩ hk
    exact hpost D W G hD hQ fG hk
end
end Go.Proofs.YtilpoinhfiajcaaGreatDoorV

/- Package valisehelp: Bytes. -/
namespace Go.Proofs.YtilpoinhfiajcaaGreatDoorV
open Go Go.RowKit
theorem Bytes_any {a b : Value} {xs ys : List Int} {w : World} (ha : Nm .u8 w a xs) (hb : Nm .u8 w b ys) : Calls P n_valisehelp_Bytes #[a, b] w (fun e w' => e = .returned (.bool (decide (xs = ys))) ∧ w' = w) :=
  of_valisehelp_Bytes (gConv_bs ha (gConv_bs hb ⟨by rw [bsOf_eq ha.2 hb.2], rfl⟩))
end Go.Proofs.YtilpoinhfiajcaaGreatDoorV

/- Package rice: what its calls do. -/
namespace Go.Proofs.YtilpoinhfiajcaaGreatDoorV
open Go Go.RowKit
noncomputable abbrev e32 : TypeId := elOf P t_sl_int32
theorem i32i {x : Int} (h : -2147483648 ≤ x ∧ x ≤ 2147483647) : IntKind.i32.min ≤ x ∧ x ≤ IntKind.i32.max := by simp [IntKind.min, IntKind.max, IntKind.signed, IntKind.bits]; omega
theorem rd_i32 {l : List Int} (h : inR .i32 l) (i : Nat) : -2147483648 ≤ rd l i ∧ rd l i ≤ 2147483647 := rd_in (fun x hx => i32_rng (h x hx)) i
/-! ### Zeros and ones have bytes -/
def B01 (bs : List Int) : Prop := ∀ x ∈ bs, x = 0 ∨ x = 1
theorem B01.app {cs bs : List Int} (h : B01 cs) (h2 : B01 bs) : B01 (cs ++ bs) := fun x hx => (List.mem_append.1 hx).elim (h x) (h2 x)
theorem B01.bits (v : Int) : ∀ k, B01 (bitsL v k)
  | 0 => fun x hx => by cases hx
  | k + 1 => fun x hx => by
    rcases List.mem_cons.1 hx with rfl | hx
    · omega
    · exact B01.bits v k x hx
theorem B01.ones (n : Nat) : B01 (List.replicate n 1) := fun x hx => .inr (List.eq_of_mem_replicate hx)
theorem B01.num (v : Int) (k : Nat) : B01 (numL v k) := by
  unfold numL
  split
  · exact ((B01.ones _).app (fun x hx => by simp at hx; exact .inl hx)).app (B01.bits _ _)
  · exact (B01.ones _).app (B01.bits _ _)
theorem B01.pack (l : List Int) : ∀ m, B01 (packTo l m)
  | 0 => fun x hx => by cases hx
  | m + 1 => (B01.pack l m).app (B01.app (by split; exact B01.bits _ _; exact fun x hx => by cases hx) (B01.num _ _))
theorem packs_snoc {xs bs : List Int} {b : Int} (hx : inR .u8 xs) (h : Packs xs bs) (hb : b = 0 ∨ b = 1) : ∃ ys, inR .u8 ys ∧ Packs ys (bs ++ [b]) := by
  have hl := h.1
  obtain ⟨zs, h1, h2, h3⟩ : ∃ zs, inR .u8 zs ∧ zs.length = (bs.length + 1 + 7) / 8 ∧ ∀ k, k < 8 * zs.length → bitAt zs k = bs.getD k 0 := by
    by_cases h0 : bs.length % 8 = 0
    · exact ⟨xs ++ [0], fun x hx' => (List.mem_append.1 hx').elim (hx x) fun h => by simp at h; subst h; decide, by simp; omega, fun k _ => h.grow h0 k⟩
    · exact ⟨xs, hx, by omega, h.2⟩
  rcases hb with rfl | rfl
  · exact ⟨zs, h1, Packs.zero h2 h3⟩
  · exact ⟨_, (Packs.set h1 h2 h3).2, (Packs.set h1 h2 h3).1⟩
theorem packs_rev : ∀ cs : List Int, B01 cs → ∃ xs, inR .u8 xs ∧ Packs xs cs.reverse
  | [], _ => ⟨[], (fun _ h => by cases h), Packs.nil⟩
  | b :: cs, h => by
    obtain ⟨xs, h1, h2⟩ := packs_rev cs fun x hx => h x (List.mem_cons_of_mem _ hx)
    rw [List.reverse_cons]; exact packs_snoc h1 h2 (h b List.mem_cons_self)
theorem pkB_ok {bs : List Int} (h : B01 bs) : inR .u8 (pkB bs) ∧ Packs (pkB bs) bs := by
  obtain ⟨xs, h1, h2⟩ := packs_rev bs.reverse fun x hx => h x (List.mem_reverse.1 hx)
  rw [List.reverse_reverse] at h2
  rw [pkB_eq h1 h2]; exact ⟨h1, h2⟩
/-! ### Bits that grow behind a pointer -/
def bIt (ad : Addr) (v : Value) (bs : List Int) : It := ⟨fun k => k = ad.block ∨ v.ownBlock = some k, fun w => Wb w ad v bs, fun _ _ ⟨_, h1, h2, _⟩ hk => by
    rcases hk with hk | hk
    · rw [hk]; exact h1.ce
    · exact h2.ce hk, fun _ _ _ h hc hs => h.ch hc fun k i hk => hs k i hk, fun _ _ ⟨xs, h1, h2, h3, h4⟩ _ hc => ⟨xs, h1.gr hc, h2.gr hc, h3, h4⟩⟩
section
variable {w0 w : World} {F : List It}
theorem Fr.asB (h : Fr w0 w F) (i : Nat) {ad : Addr} (hi : F[i]? = some (sIt ad [.slice none 0 0, .int .i64 0])) : Fr w0 w (F.set i (bIt ad (.slice none 0 0) [])) :=
  h.upd (S := No) i hi (Ch.refl _ w) (fun _ _ h => h.elim) ⟨[], h.get i hi, ON.nil _ _ _ _, (fun h => by cases h), Packs.nil⟩ fun k hk => .inl (by rcases hk with hk | hk; exact hk; cases hk)
theorem Fr.bw {w' : World} {ad : Addr} {v v' : Value} {xs ys : List Int} (h : Fr w0 w F) (i : Nat) (hi : F[i]? = some (bIt ad v xs)) (g : WbS w w' ad v v' ys) : Fr w0 w' (F.set i (bIt ad v' ys)) :=
  h.upd i hi g.2.1 (fun k _ hh => .inl hh) g.1 fun k hk => by
    rcases hk with hk | hk
    · exact .inl (.inl hk)
    · rcases g.2.2 with hm | hm
      · exact .inl (.inr (hm ▸ hk))
      · exact .inr (hm k hk)
theorem fStore0 {P : Program} {t : TypeId} {ad : Addr} {cs : List Value} {u : Value} {K : World → Prop} (h : Fr w0 w F) (i : Nat) (hi : F[i]? = some (sIt ad cs)) (hk : ∀ w', Fr w0 w' (F.set i (sIt ad (cs.set 0 u))) → K w') (hj : 0 < cs.length := by exact Nat.le_of_ble_eq_true rfl) (hu : u.oneCell' = true := by rfl) (hcl : u.cells = #[u] := by rfl) (ht : flat1 P t = true := by kernel_rfl) :
    gStore P t (.pointer (some ad)) u w K := by
  have := fStore h i 0 hi hk hj hu hcl ht
  rwa [Addr.add_zero'] at this
theorem Fr.cell0 {ad : Addr} {cs : List Value} (h : Fr w0 w F) (i : Nat) {u : Value} (hi : F[i]? = some (sIt ad cs)) (hj : cs[0]? = some u) : w.cell? ad = some u := by
  have := h.cell i 0 hi hj
  rwa [Addr.add_zero'] at this
end
/-! ### Numbers -/
theorem putR_any {ad : Addr} {v : Value} {bs : List Int} {x : Int} {k : Nat} {w : World} (h : Wb w ad v bs) (hx : -2147483648 ≤ x ∧ x ≤ 2147483647) (hk : k ≤ 24) (hl : bs.length + 10000 ≤ 10000000000) :
    Calls P n_rice_packer_put #[.pointer (some ad), .int .i32 x, .int .i64 k] w (fun e w' => e = .returned (.tuple #[]) ∧ ∃ v', WbS w w' ad v v' (bs ++ numL x k)) := by
  have hf := foldI32 hx
  refine of_rice_packer_put ?_
  rw [i64_id (n := x) (by omega) (by omega)]
  refine gCall_i0 (Fold_any (by omega)) (gBin_shr (by omega) ?_)
  rw [show u32 (foldI x) = foldI x by rw [u32_def]; omega]
  obtain ⟨e1, e2, e3⟩ := shr32 hf (k := k) (by omega)
  rw [e1]
  unfold numL
  refine gIf_dec (fun hlt => gNil_some ?_) (fun hge => ?_)
  · rw [if_pos hlt, Addr.add_zero', i64_id (n := foldI x / _) (by omega) (by omega)]
    refine gCall_u (Unary_any h (by omega)) fun w1 ⟨v1, h1⟩ => gNil_some ?_
    have hc : cl4096 (foldI x / ((2 ^ k : Nat) : Int)) = (foldI x / ((2 ^ k : Nat) : Int)).toNat := by unfold cl4096; split <;> omega
    rw [Addr.add_zero']
    rw [hc] at h1
    refine gCall_u (Bits_any h1.1 hf (by rw [List.length_append, List.length_append, List.length_replicate, List.length_singleton]; omega)) fun w2 ⟨v2, h2⟩ => ⟨rfl, v2, ?_⟩
    rw [show cl32 (k : Int) = k by unfold cl32; split <;> omega] at h2
    have := h1.trans h2
    rwa [List.append_assoc] at this
  · rw [if_neg hge]
    refine ⟨fun i w1 => ∃ (j : Nat) (v' : Value), i = j ∧ j ≤ 24 ∧ WbS w w1 ad v v' (bs ++ List.replicate j 1), fun i _ => 24 - i.toNat, ⟨0, v, rfl, by omega, by simpa using h.step⟩, ?_⟩
    rintro _ i w1 ⟨j, v', rfl, hj, hW⟩
    refine gIf_dec (fun hlt => gNil_some ?_) (fun hend => gNil_some ?_)
    · rw [i64_id (n := (j : Int) + 1) (by omega) (by omega), Addr.add_zero']
      refine gCall_u (Bit_any hW.1 (by simp; omega)) fun w2 ⟨v2, hW2⟩ => ⟨⟨j + 1, v2, by omega, by omega, ?_⟩, by dsimp only; omega⟩
      rw [List.replicate_succ', ← List.append_assoc]; exact hW.trans hW2
    · obtain rfl : j = 24 := by omega
      rw [Addr.add_zero']
      refine gCall_u (Bits_any hW.1 hf (by simp; omega)) fun w2 ⟨v2, h2⟩ => ⟨rfl, v2, ?_⟩
      have := hW.trans h2
      rwa [List.append_assoc] at this
def cl24 (k : Int) : Nat := (if 24 < k then 24 else k).toNat
theorem cl24_le (k : Int) : cl24 k ≤ 24 := by unfold cl24; split <;> omega
theorem cl24a (k : Int) : (if (if 24 < k then 24 else k) > 0 then (if 24 < k then 24 else k) else 0) = (cl24 k : Int) := by unfold cl24; split <;> split <;> omega
theorem cl24_id {k : Nat} (h : k ≤ 24) : cl24 k = k := by unfold cl24; split <;> omega
theorem costL_take {l : List Int} {j k : Nat} (hj : j < l.length) : costL k (l.take (j + 1)) = costL k (l.take j) + costN (rd l j) k := by
  rw [List.take_succ_eq_append_getElem hj, costL_app, rd_nat l j hj]
theorem Cost_any {l0 : Value} {l : List Int} {k : Int} {w : World} (h : Nm .i32 w l0 l) (hl : l.length ≤ 1000000000) :
    Calls P n_rice_Cost #[l0, .int .i64 k] w (fun e w' => e = .returned (.int .i64 (costL (cl24 k) l)) ∧ w' = w) := by
  have hk := cl24_le k
  refine of_rice_Cost (gLen_nm h ?_)
  rw [cl24a]
  refine ⟨fun n i w' => ∃ j : Nat, i = j ∧ j ≤ l.length ∧ n = costL (cl24 k) (l.take j) ∧ w' = w, fun _ i _ => l.length - i.toNat, ⟨0, rfl, by omega, rfl, rfl⟩, ?_⟩
  rintro _ _ i _ ⟨j, rfl, hj, rfl, rfl⟩
  refine gIf_dec (fun hlt => ?_) (fun hge => ⟨by rw [List.take_of_length_le (by omega)], rfl⟩)
  refine gIdx_nm h (by omega) hlt fun ad c _ => gLoad_i c ?_
  have hx := rd_i32 h.2 j
  have hf := foldI32 hx
  rw [i64_id (n := rd l j) (by omega) (by omega)]
  refine gCall_i0 (Fold_any (by omega)) (gBin_shr (by omega) ?_)
  rw [show u32 (foldI (rd l j)) = foldI (rd l j) by rw [u32_def]; omega]
  obtain ⟨e1, e2, e3⟩ := shr32 hf (k := cl24 k) (by omega)
  rw [e1]
  have hb := costL_bd hk (l.take j)
  rw [List.length_take, Nat.min_eq_left hj] at hb
  have hs := costL_take (l := l) (k := cl24 k) (j := j) (by omega)
  unfold costN at hs
  rw [i64_id (n := (j : Int) + 1) (by omega) (by omega)]
  refine gIf_dec (fun hq => ?_) (fun hq => ?_)
  · rw [if_pos hq] at hs
    rw [i64_id (n := foldI _ / _) (by omega) (by omega), i64_id (n := foldI _ / _ + 1) (by omega) (by omega), i64_id (n := foldI _ / _ + 1 + _) (by omega) (by omega), i64_id (by omega) (by omega)]
    exact ⟨⟨j + 1, by omega, by omega, hs.symm, rfl⟩, by dsimp only; omega⟩
  · rw [if_neg hq] at hs
    rw [i64_id (by omega) (by omega)]
    exact ⟨⟨j + 1, by omega, by omega, hs.symm, rfl⟩, by dsimp only; omega⟩
theorem Best_any {l0 : Value} {l : List Int} {w : World} (h : Nm .i32 w l0 l) (hl : l.length ≤ 1000000000) :
    Calls P n_rice_Best #[l0] w (fun e w' => e = .returned (.int .i64 (bestL l)) ∧ w' = w) := by
  refine of_rice_Best (gCall_i0 (Cost_any h hl) ⟨fun b c k w' => ∃ j : Nat, k = ((j + 1 : Nat) : Int) ∧ j ≤ 24 ∧ b = (bestU l j : Int) ∧ c = costL (bestU l j) l ∧ w' = w, fun _ _ k _ => 25 - k.toNat, ⟨0, rfl, by omega, rfl, rfl, rfl⟩, ?_⟩)
  rintro _ _ _ k _ ⟨j, rfl, hj, rfl, rfl, rfl⟩
  refine gIf_dec (fun hlt => gCall_i0 (Cost_any h hl) ?_) (fun hge => ⟨by rw [show j = 24 by omega]; rfl, rfl⟩)
  rw [cl24_id (k := j + 1) (by omega), i64_id (n := ((j + 1 : Nat) : Int) + 1) (by omega) (by omega)]
  refine gIf_dec (fun hc => ⟨⟨j + 1, rfl, by omega, ?_, ?_, rfl⟩, by dsimp only; omega⟩) (fun hc => ⟨⟨j + 1, rfl, by omega, ?_, ?_, rfl⟩, by dsimp only; omega⟩) <;> simp only [bestU, hc, if_true, if_false]
/-! ### Packing -/
def blkB (p : List Int) : List Int := bitsL (bestL p) 5 ++ numsTo p (bestL p) p.length
def flatB (l : List Int) (js : List Nat) : List Int := (js.map fun j => blkB (part64 l j)).flatten
theorem flatB_snoc (l : List Int) (js : List Nat) (j : Nat) : flatB l (js ++ [j]) = flatB l js ++ (bitsL (bestL (part64 l j)) 5 ++ numsTo (part64 l j) (bestL (part64 l j)) (part64 l j).length) := by
  unfold flatB; rw [List.map_append, List.flatten_append]; simp [blkB]
theorem numsTo_len (p : List Int) {k : Nat} (hk : k ≤ 24) : ∀ t, (numsTo p k t).length ≤ 56 * t
  | 0 => by simp [numsTo]
  | t + 1 => by
    have h1 := numsTo_len p hk t
    have h2 := numL_len (rd p t) k
    have h3 := costN_bd (rd p t) hk
    rw [numsTo, List.length_append]; omega
theorem part64_len (l : List Int) (j : Nat) : (part64 l j).length = min 64 (l.length - j * 64) := by unfold part64; rw [List.length_take, List.length_drop]
theorem flatB_len (l : List Int) : ∀ js : List Nat, (flatB l js).length ≤ 3600 * js.length
  | [] => by simp [flatB]
  | j :: js => by
    have h1 := flatB_len l js
    have h2 := numsTo_len (part64 l j) (bestL_le (part64 l j)) (part64 l j).length
    have h3 := part64_len l j
    have h4 : (flatB l (j :: js)).length = (blkB (part64 l j)).length + (flatB l js).length := by unfold flatB; simp
    rw [h4]; unfold blkB; rw [List.length_append, bitsL_len, List.length_cons]; omega
theorem flatB_range (l : List Int) : ∀ j, j ≤ chN 64 l.length → flatB l (List.range j) = packTo l (min (64 * j) l.length)
  | 0, _ => by simp [flatB, packTo]
  | j + 1, h => by
    have hlt : j * 64 < l.length := (chN_lt (by decide)).1 (by omega)
    have hp := part64_len l j
    rw [List.range_succ, flatB_snoc, flatB_range l j (by omega), Nat.min_eq_left (by omega)]
    have := packTo_in l j ((part64 l j).length - 1) (by omega)
    rw [show (part64 l j).length - 1 + 1 = (part64 l j).length by omega] at this
    rw [show min (64 * (j + 1)) l.length = 64 * j + (part64 l j).length by omega, this, List.append_assoc]
theorem flatB_all (l : List Int) : flatB l (List.range (chN 64 l.length)) = packTo l l.length := by
  rw [flatB_range l _ (Nat.le_refl _), Nat.min_eq_right]
  have : ¬ chN 64 l.length < chN 64 l.length := by omega
  rw [chN_lt (by decide)] at this; omega
noncomputable def packE (l : List Int) : List Int × Int := if l.length > 1048576 then ([], 5) else (pkB (packTo l l.length), 0)
theorem rPack_any {l0 : Value} {l : List Int} {w : World} (h : Nm .i32 w l0 l) : Calls P n_rice_Pack #[l0] w (TupE w (packE l)) := by
  refine of_rice_Pack (gLen_nm h (gIf_dec (fun hbig => ?_) (fun hle => ?_)))
  · unfold packE
    rw [if_pos (by omega)]
    exact ⟨_, rfl, Ch.refl _ w, ON.nil _ _ _ _⟩
  have hle : l.length ≤ 1048576 := by omega
  refine fBox (Fr.start w) fun pk w1 f1 => fAlloc (z := .pointer none) f1 (by kernel_rfl) fun p4 w2 f2 => fStore0 f2 0 rfl fun w3 f3 => ?_
  have f3 := f3.asB 1 (ad := pk) rfl
  refine Chunk_any f3 h.one (n := 64) (by decide) fun a b w4 f4 => ?_
  refine range_chunk f4 h (by omega) (by decide) (by decide) (fun pre G => ∃ v, G = [sIt p4 [.pointer (some pk)], bIt pk v (flatB l pre)]) ⟨_, rfl⟩ ?_ ?_
  · rintro pre j W _ ⟨v, rfl⟩ f hlen hN hO K hK
    have hcl := chL_len 64 l j
    have hlt := (chN_lt (len := l.length) (j := pre.length) (n := 64) (by decide)).1 hlen
    have hbl := bestL_le (part64 l j)
    refine gCall_i0 (Best_any hN (by omega)) (gLoad_p (f.cell0 2 rfl rfl) (gNil_some ?_))
    rw [Addr.add_zero', show u32 ((bestL (chL 64 l j) : Nat) : Int) = ((bestL (part64 l j) : Nat) : Int) by rw [u32_def]; show ((bestL (part64 l j) : Nat) : Int) % _ = _; omega]
    have hfl := flatB_len l pre
    refine gCall_u (Bits_any (f.get 3 rfl) (by omega) (by omega)) fun W1 ⟨v1, g1⟩ => gLen_nm hN ?_
    have f5 := f.bw 3 rfl g1
    rw [show cl32 5 = 5 by decide] at f5
    refine ⟨fun i W' => ∃ (t : Nat) (v' : Value), i = t ∧ t ≤ (part64 l j).length ∧ KeepsOthers W W' ∧ Fr w W' [sIt b [.int .i64 (64 : Nat)], sIt a [l0], sIt p4 [.pointer (some pk)], bIt pk v' (flatB l pre ++ bitsL (bestL (part64 l j)) 5 ++ numsTo (part64 l j) (bestL (part64 l j)) t)],
      fun i _ => (part64 l j).length - i.toNat, ⟨0, v1, rfl, by omega, g1.2.1.others, by simpa [numsTo] using f5⟩, ?_⟩
    rintro _ i W2 ⟨t, v2, rfl, ht, ho, f6⟩
    refine gIf_dec (fun hlt2 => ?_) (fun hge => ?_)
    · have hN2 : Nm .i32 W2 (chV 64 l0 l.length j) (part64 l j) := chV_nm (n := 64) (h.ev f6.old) j
      have hlt3 : ((t : Nat) : Int) < (part64 l j).length := hlt2
      have hpl := part64_len l j
      refine gIdx_nm hN2 (by omega) hlt2 fun ad c _ => gLoad_i c (gLoad_p (f6.cell0 2 rfl rfl) ?_)
      have hnl := numsTo_len (part64 l j) hbl t
      refine gCall_u (putR_any (f6.get 3 rfl) (rd_i32 hN2.2 t) hbl (by simp [bitsL_len]; omega)) fun W3 ⟨v3, g3⟩ => ?_
      rw [i64_id (n := (t : Int) + 1) (by omega) (by omega)]
      refine ⟨⟨t + 1, v3, rfl, by omega, ho.trans g3.2.1.others, ?_⟩, by dsimp only; omega⟩
      have f7 := f6.bw 3 rfl g3
      have e : flatB l pre ++ bitsL (bestL (part64 l j)) 5 ++ numsTo (part64 l j) (bestL (part64 l j)) (t + 1) = flatB l pre ++ bitsL (bestL (part64 l j)) 5 ++ numsTo (part64 l j) (bestL (part64 l j)) t ++ numL (rd (part64 l j) t) (bestL (part64 l j)) := by rw [numsTo, List.append_assoc (_ ++ _)]
      rw [e]
      exact f7
    · have ht2 : t = (part64 l j).length := by have : ¬ ((t : Int) < (part64 l j).length) := hge; omega
      subst ht2
      refine hK W2 _ ho ⟨v2, ?_⟩ f6
      rw [flatB_snoc, List.append_assoc]
  · rintro D W _ hD ⟨v, rfl⟩ f hDD
    rw [flatB_all] at f
    refine gLoad_p (f.cell0 2 rfl rfl) (gNil_some ?_)
    rw [Addr.add_zero']
    have hpl := packTo_len l l.length
    refine gCall_v (wBytes_any (f.get 3 rfl) (by omega)) fun y W1 ⟨h1, xs, hy, hp⟩ => ?_
    have hk1 : W1.heap[D]? = some (.deferred (some [])) := h1.oth D _ hDD rfl
    refine ⟨hk1, ?_⟩
    have f8 := ((f.newO h1 hy).putObj (D := D) (o' := .deferred none) (Nat.le_trans f4.old.size hD) hk1 rfl)
    unfold packE
    rw [if_neg (by omega), pkB_eq hy.2 hp]
    exact ⟨y, rfl, f8.old, f8.on 0 rfl⟩
end Go.Proofs.YtilpoinhfiajcaaGreatDoorV

/- Package rice: unpacking. -/
namespace Go.Proofs.YtilpoinhfiajcaaGreatDoorV
open Go Go.RowKit
section
variable {w0 w : World} {F : List It} {xs : List Int} {ad rad : Addr} {y : Value} {a : Nat} {er : Int}
theorem Fr.pr (h : Fr w0 w F) (i j : Nat) (hi : F[i]? = some (sIt ad [y, .int .i64 a, .int .i64 er])) (hj : F[j]? = some (oIt .u8 eB y xs)) (hn : i ≠ j) (ha : a ≤ 8 * xs.length) (hl : xs.length ≤ 1000000000) : PR w ad y xs a er :=
  ⟨h.get i hi, h.nm j hj, fun _ hg => h.apart hi hj hn ad.block rfl hg, ha, hl⟩
theorem Fr.rb (h : Fr w0 w F) (q i j : Nat) (hq : F[q]? = some (sIt rad [.pointer (some ad)])) (hi : F[i]? = some (sIt ad [y, .int .i64 a, .int .i64 er])) (hj : F[j]? = some (oIt .u8 eB y xs)) (hn : i ≠ j) (hn2 : q ≠ i) (ha : a ≤ 8 * xs.length) (hl : xs.length ≤ 1000000000) : RB w rad ad y xs a er :=
  ⟨h.get q hq, h.pr i j hi hj hn ha hl, fun e => h.apart hq hi hn2 rad.block rfl e⟩
theorem Fr.ps {w' : World} {a2 : Nat} {er2 : Int} (h : Fr w0 w F) (i : Nat) (hi : F[i]? = some (sIt ad [y, .int .i64 a, .int .i64 er])) (g : PS w w' ad y xs a2 er2) : Fr w0 w' (F.set i (sIt ad [y, .int .i64 a2, .int .i64 er2])) :=
  h.upd i hi g.2 (fun k _ hh => .inl hh.1) g.1.1 fun k hk => .inl hk
theorem fbNew {b : Value} {K : Option Addr → World → Prop} (h : Fr w0 w F) (hb : Nm .u8 w b xs) (hl : xs.length ≤ 1000000000) (hk : ∀ rad pad y w', Fr w0 w' (sIt rad [.pointer (some pad)] :: sIt pad [y, .int .i64 (0 : Nat), .int .i64 0] :: oIt .u8 eB y xs :: F) → K (some rad) w') : gCall P n_bits_New shP #[b] w K := by
  refine gCall_of (R := fun e w' => ∃ rad pad y, e = .returned (.pointer (some rad)) ∧ Fr w0 w' (sIt rad [.pointer (some pad)] :: sIt pad [y, .int .i64 (0 : Nat), .int .i64 0] :: oIt .u8 eB y xs :: F)) (of_bits_New (fApp0 h hb (by omega) fun y w1 f1 => ⟨(f1.on 0 rfl).one, fBox f1 fun pad w2 f2 => fBox f2 fun rad w3 f3 => ⟨rad, pad, y, rfl, f3⟩⟩)) ?_
  rintro _ w' ⟨rad, pad, y, rfl, f⟩
  exact ⟨_, rfl, hk rad pad y w' f⟩
end
theorem bEqual_any {a b : Value} {xs ys : List Int} {w : World} (ha : Nm .u8 w a xs) (hb : Nm .u8 w b ys) : Calls P n_bytes_Equal #[a, b] w (fun e w' => e = .returned (.bool (decide (xs = ys))) ∧ w' = w) :=
  of_bytes_Equal (gConv_bs ha (gConv_bs hb ⟨by rw [bsOf_eq ha.2 hb.2], rfl⟩))
theorem iOr_u32 (a b : Int) : 0 ≤ iOr .u32 a b ∧ iOr .u32 a b < 4294967296 := by unfold iOr; show 0 ≤ u32 _ ∧ u32 _ < _; rw [u32_def]; omega
theorem next_any {w : World} {x rad pad : Addr} {b : Value} {xs : List Int} {a k : Nat} {er : Int} (hx : St w x [.pointer (some rad)]) (hne : x.block ≠ pad.block) (h : RB w rad pad b xs a er) (hk : k ≤ 31) :
    Calls P n_rice_unpacker_next #[.pointer (some x), .int .i64 k] w (fun e w' => e = .returned (.int .i32 (nextV xs a er k).1) ∧ PS w w' pad b xs (nextV xs a er k).2.1 (nextV xs a er k).2.2) := by
  have hu := unaryR_rng xs a er
  refine of_rice_unpacker_next (gNil_some (gLoad_p (hx.cell (j := 0) rfl) (gCall_i (Unary_R h) fun w1 h1 => ?_)))
  have hx1 : St w1 x [.pointer (some rad)] := hx.ch h1.2 fun _ _ hh => hne hh.1
  have hr1 := h.to h1
  unfold nextV
  refine gIf_eq (fun e => gNil_some (gLoad_p (hx1.cell (j := 0) rfl) (gCall_i (Bits_R hr1) fun w2 h2 => ?_))) (fun e => ⟨fun w' => w'.cell? (x.add 0) = some (.pointer (some rad)), hx1.drew.cell rfl, gBin_shl (by omega) (gNil_some (gLoadB_p (fun _ h => h) (gCall_i (Bits_R (h.to (h1.ev (Ev.drew0 w1)))) fun w2 h2 => ⟨?_, ?_⟩)))⟩)
  · have hb := bitsR_bd (xs := xs) (a := (unaryR xs a er 24).2.1) (er := (unaryR xs a er 24).2.2) 32
    rw [u64_def, Int.emod_eq_of_lt (by omega) (by omega), if_pos e]
    exact gCall_i0 (Unfold_any (by omega)) ⟨rfl, h1.trans h2⟩
  · exact (hx1.drew.ch h2.2 fun _ _ hh => hne hh.1).cell rfl
  · have hb := iOr_u32 (iShl .u32 (u32 (unaryR xs a er 24).1) k) (bitsR xs (unaryR xs a er 24).2.1 (unaryR xs a er 24).2.2 k).1
    rw [u64_def, Int.emod_eq_of_lt (by omega) (by omega), if_neg e]
    rw [u32_def, Int.emod_eq_of_lt (by omega) (by omega)] at hb ⊢
    exact gCall_i0 (Unfold_any (by omega)) ⟨rfl, (h1.ev (Ev.drew0 w1)).trans h2⟩
/-- Numbers in new memory, or none, and an error. -/
def TupI (w : World) (r : List Int × Int) (e : Ending) (w' : World) : Prop := ∃ v, e = .returned (.tuple #[v, .int .i64 r.2]) ∧ Ev w w' ∧ ON .i32 e32 w' w.heap.size v r.1
theorem TupI.err (w w' : World) (h : Ev w w') (c : Int) : TupI w ([], c) (.returned (.tuple #[.slice none 0 0, .int .i64 c])) w' := ⟨_, rfl, h, ON.nil _ _ _ _⟩
theorem headK_rng {xs : List Int} {i k a : Nat} (hk : k ≤ 24) : 0 ≤ (headK xs i k a).1 ∧ (headK xs i k a).1 ≤ 31 := by
  unfold headK
  split
  · unfold bitsR
    rw [if_neg (by simp)]
    split
    · simp
    · have := bitsVal_bd xs a (cl32 5)
      rw [show cl32 5 = 5 by decide, show ((2 ^ 5 : Nat) : Int) = 32 from rfl] at this
      rw [show cl32 5 = 5 by decide]; dsimp only; omega
  · dsimp only; omega
theorem tmod64 (i : Nat) : (Int.tmod (i : Int) 64 = 0) ↔ i % 64 = 0 := by rw [Int.tmod_eq_emod_of_nonneg (by omega)]; omega
theorem readN_step {lim : Bool} {xs : List Int} {f i k a : Nat} : readN lim xs (f + 1) i k a = match stepR xs i k a with
    | none => none
    | some (v, k', a') => if lim = true ∧ 24 < k' then none else (readN lim xs f (i + 1) k' a').map (v :: ·) := rfl
theorem rUnpack_any {b0 : Value} {xs : List Int} {n : Int} {w : World} (hb : Nm .u8 w b0 xs) (hl : xs.length ≤ 1000000000) : Calls P n_rice_Unpack #[b0, .int .i64 n] w (TupI w (unpE true xs n)) := by
  unfold unpE
  refine of_rice_Unpack (gIf_dec (fun h0 => by rw [if_pos h0]; exact TupI.err w w (Ch.refl _ w) 1) (fun h0 => ?_))
  rw [if_neg h0]
  refine gIf_dec (fun h1 => by rw [if_pos h1]; exact TupI.err w w (Ch.refl _ w) 5) (fun h1 => ?_)
  rw [if_neg h1]
  obtain ⟨m, rfl⟩ := Int.eq_ofNat_of_zero_le (show 0 ≤ n by omega)
  rw [Int.toNat_natCast]
  refine fbNew (Fr.start w) hb hl fun rad pad y w1 f1 => fBox f1 fun x w2 f2 => ?_
  have f2 := f2.nil0 .i32 e32
  refine ⟨fun lv kv ww => ∃ (zs : List Int) (k a : Nat), kv = k ∧ k ≤ 24 ∧ zs.length ≤ m ∧ a ≤ 8 * xs.length ∧ (readN true xs (m - zs.length) zs.length k a).map (zs ++ ·) = readN true xs m 0 0 0 ∧
      Fr w ww [oIt .i32 e32 lv zs, sIt x [.pointer (some rad)], sIt rad [.pointer (some pad)], sIt pad [y, .int .i64 a, .int .i64 0], oIt .u8 eB y xs], fun lv _ _ => m - slLen lv, ⟨[], 0, 0, rfl, by omega, by simp, by omega, ?_, f2⟩, ?_⟩
  · show (readN true xs m 0 0 0).map _ = _
    cases readN true xs m 0 0 0 <;> rfl
  rintro _ lv kv w3 ⟨zs, k, a, rfl, hk, hzm, ha, hr, f3⟩
  have hz := f3.nm 0 rfl
  refine gLen_nm hz (gIf_dec (fun hlt => ?_) (fun hge => ?_))
  · have hk31 := headK_rng (xs := xs) (i := zs.length) (a := a) hk
    refine ⟨fun kv ww => kv = (headK xs zs.length k a).1 ∧ (headK xs zs.length k a).2.1 ≤ 8 * xs.length ∧ Fr w ww [oIt .i32 e32 lv zs, sIt x [.pointer (some rad)], sIt rad [.pointer (some pad)], sIt pad [y, .int .i64 (headK xs zs.length k a).2.1, .int .i64 (headK xs zs.length k a).2.2], oIt .u8 eB y xs], gLen_nm hz (gIf_eq (fun e => gNil_some (gLoad_p (f3.cell 1 0 rfl rfl) (gCall_i (Bits_R (f3.rb 2 3 4 rfl rfl rfl (by decide) (by decide) ha hl)) fun w4 h4 => ?_))) (fun e => ?_)), ?_⟩
    · rw [tmod64] at e
      have f4 := f3.ps 3 rfl h4
      unfold headK at hk31 ⊢
      rw [if_pos e] at hk31 ⊢
      exact ⟨i64_id (by omega) (by omega), h4.1.2.2.2.1, f4⟩
    · rw [Ne, tmod64] at e
      unfold headK
      rw [if_neg e]
      exact ⟨rfl, ha, f3⟩
    rintro _ kv w4 ⟨rfl, ha4, f4⟩
    obtain ⟨q, hq⟩ := Int.eq_ofNat_of_zero_le hk31.1
    rw [hq]
    refine gCall_i (next_any (f4.get 1 rfl) (fun e => f4.apart (i := 1) (j := 3) rfl rfl (by decide) x.block rfl e) (f4.rb 2 3 4 rfl rfl rfl (by decide) (by decide) ha4 hl) (by omega)) fun w5 h5 => ?_
    have f5 := f4.ps 3 rfl h5
    have hin := nextV_rng xs (headK xs zs.length k a).2.1 (headK xs zs.length k a).2.2 q
    refine fLit_n [(nextV xs (headK xs zs.length k a).2.1 (headK xs zs.length k a).2.2 q).1] f5 rfl rfl (fun x hx => by simp at hx; subst hx; exact i32i hin) fun t w6 f6 => fApp f6 1 rfl (f6.nm 0 rfl) (by simp; omega) fun l2 w7 f7 => ?_
    have f7 := f7.drop 0
    refine gNil_some (gLoad_p (f7.cell 1 0 rfl rfl) (gCall_i0 (Err_R (f7.rb 2 3 4 rfl rfl rfl (by decide) (by decide) h5.1.2.2.2.1 hl)) ?_))
    have hm1 : m - zs.length = (m - (zs.length + 1)) + 1 := by omega
    rw [hm1, readN_step] at hr
    unfold stepR at hr
    dsimp only at hr
    rw [hq, Int.toNat_natCast] at hr
    have bad : readN true xs m 0 0 0 = none → TupI w (match readN true xs m 0 0 0 with
        | none => ([], 4)
        | some l => if pkB (packTo l l.length) = xs then (l, 0) else ([], 4)) (.returned (.tuple #[.slice none 0 0, .int .i64 4])) w7 := fun e => by rw [e]; exact TupI.err w w7 f7.old 4
    refine gIf_nneq (fun e0 => gIf_dec (fun hq24 => bad ?_) (fun hq24 => ⟨⟨zs ++ [(nextV xs (headK xs zs.length k a).2.1 (headK xs zs.length k a).2.2 q).1], q, (nextV xs (headK xs zs.length k a).2.1 (headK xs zs.length k a).2.2 q).2.1, rfl, by omega, by simp; omega, h5.1.2.2.2.1, ?_, ?_⟩, ?_⟩)) (fun e0 => bad ?_)
    · rw [← hr]
      split
      · rfl
      · rename_i v k' a' hs
        split at hs
        · cases hs
        · injection hs with hs; injection hs with _ hs; injection hs with hs _
          rw [if_pos ⟨rfl, by omega⟩]; rfl
    · rw [← hr, Nat.min_eq_left (by omega), if_neg (by simpa using e0)]
      dsimp only
      rw [if_neg (by omega), List.length_append, List.length_singleton, Option.map_map]
      congr 1
      funext l; simp
    · rw [e0] at f7; exact f7
    · dsimp only; rw [hz.slLen, (f7.nm 0 rfl).slLen]; simp; omega
    · rw [← hr]
      by_cases hq24 : q ≤ 24
      · rw [Nat.min_eq_left hq24, if_pos e0]; rfl
      · split
        · rfl
        · rename_i v k' a' hs
          split at hs
          · cases hs
          · injection hs with hs; injection hs with _ hs; injection hs with hs _
            rw [if_pos ⟨rfl, by omega⟩]; rfl
  · have hzl : zs.length = m := by omega
    rw [hzl, Nat.sub_self, readN] at hr
    have hr' : readN true xs m 0 0 0 = some zs := by rw [← hr]; simp
    rw [hr']
    have hp : packE zs = (pkB (packTo zs zs.length), 0) := by unfold packE; rw [if_neg (by omega)]
    refine fCallTE f3 (rPack_any hz) fun v w4 f4 => ?_
    rw [hp] at f4 ⊢
    refine gIf_nneq (fun _ => gCall_b (bEqual_any (hb.ev f4.old) (f4.nm 0 rfl)) fun w5 e5 => ?_) (fun e => absurd rfl e)
    subst e5
    dsimp only
    refine gIf_ndec (fun hne => ?_) (fun he => ?_)
    · rw [if_neg (fun e => hne e.symm)]; exact TupI.err w _ f4.old 4
    · rw [if_pos he.symm]; exact ⟨lv, rfl, f4.old, f4.on 1 rfl⟩
end Go.Proofs.YtilpoinhfiajcaaGreatDoorV

/- Package num: the reader. -/
namespace Go.Proofs.YtilpoinhfiajcaaGreatDoorV
open Go Go.RowKit

def Rd (w : World) (ad : Addr) (b : Value) (xs : List Int) (a : Nat) (er : Int) : Prop := St w ad [b, .int .i64 a, .int .i64 er] ∧ Nm .u8 w b xs ∧ b.ownBlock ≠ some ad.block ∧ a ≤ xs.length ∧ xs.length ≤ 10000000000
theorem Rd.ev {w w' : World} {ad : Addr} {b : Value} {xs : List Int} {a : Nat} {er : Int} (h : Rd w ad b xs a er) (he : Ev w w') : Rd w' ad b xs a er := ⟨h.1.ev he, h.2.1.ev he, h.2.2⟩
theorem Rd.ch {S : SS} {w w' : World} {ad : Addr} {b : Value} {xs : List Int} {a : Nat} {er : Int} (h : Rd w ad b xs a er) (hc : Ch S w w') (hs : ∀ k i, (k = ad.block ∨ b.ownBlock = some k) → ¬ S k i) : Rd w' ad b xs a er :=
  ⟨h.1.ch hc fun _ _ => hs _ _ (.inl rfl), h.2.1.ch hc fun g i hg => hs g i (.inr hg), h.2.2⟩
theorem Rd.drew {w : World} {ad : Addr} {b : Value} {xs : List Int} {a : Nat} {er : Int} (h : Rd w ad b xs a er) : Rd w.drew ad b xs a er := h
/-- A reader's step. -/
def RS (w w' : World) (ad : Addr) (b : Value) (xs : List Int) (a : Nat) (er : Int) : Prop := Rd w' ad b xs a er ∧ Ch (Rg ad 3) w w'
theorem RS.trans {w w1 w2 : World} {ad : Addr} {b : Value} {xs : List Int} {a a2 : Nat} {er er2 : Int} (h : RS w w1 ad b xs a er) (h2 : RS w1 w2 ad b xs a2 er2) : RS w w2 ad b xs a2 er2 :=
  ⟨h2.1, Ch.trans h.2 h2.2 fun _ _ _ h => h⟩
theorem RS.ev {w w1 w2 : World} {ad : Addr} {b : Value} {xs : List Int} {a : Nat} {er : Int} (h : RS w w1 ad b xs a er) (he : Ev w1 w2) : RS w w2 ad b xs a er :=
  ⟨h.1.ev he, Ch.trans h.2 he fun _ _ _ h => h.elim⟩
theorem Rd.step {w : World} {ad : Addr} {b : Value} {xs : List Int} {a : Nat} {er : Int} (h : Rd w ad b xs a er) : RS w w ad b xs a er := ⟨h, Ch.refl _ w⟩
/-- A store into its place or its fault. -/
theorem Rd.set {w w' : World} {ad : Addr} {b : Value} {xs : List Int} {a : Nat} {er : Int} (h : Rd w ad b xs a er) {j : Nat} {u : Value} {a2 : Nat} {er2 : Int} (hj : j < 3) (hc : Ch (Rg (ad.add j) 1) w w')
    (hS : St w' ad ([b, .int .i64 a, .int .i64 er].set j u)) (he : ([b, .int .i64 a, .int .i64 er] : List Value).set j u = [b, .int .i64 a2, .int .i64 er2]) (ha : a2 ≤ xs.length) : RS w w' ad b xs a2 er2 := by
  have hc3 : Ch (Rg ad 3) w w' := hc.mono fun n i _ hh => by
    have h1 := hh.1; have h2 := hh.2
    rw [Addr.add_none h.1.1] at h1 h2
    exact ⟨h1, by dsimp only at h2; omega, by dsimp only at h2; omega⟩
  exact ⟨⟨he ▸ hS, h.2.1.ch hc3 fun g i hg hh => h.2.2.1 (by rw [hg, hh.1]), h.2.2.1, ha, h.2.2.2.2⟩, hc3⟩
def lookL (xs : List Int) (a : Nat) : Nat → Nat → Int → Int × Int × Int
  | 0, _, _ => (0, 0, 4)
  | f + 1, n, v =>
    if xs.length ≤ a + n then (0, 0, 3)
    else if n = 9 ∧ rd xs ((a + n : Nat) : Int) > 1 then (0, 0, 4)
    else if rd xs ((a + n : Nat) : Int) < 128 then
      (if rd xs ((a + n : Nat) : Int) = 0 ∧ n > 0 then (0, 0, 4) else (v + rd xs ((a + n : Nat) : Int) % 128 * ((2 ^ (7 * n) : Nat) : Int), ((a + n + 1 : Nat) : Int), 0))
    else lookL xs a f (n + 1) (v + rd xs ((a + n : Nat) : Int) % 128 * ((2 ^ (7 * n) : Nat) : Int))
def lookI (xs : List Int) (a : Nat) : Int × Int × Int := lookL xs a 10 0 0
def Look (w : World) (r : Int × Int × Int) (e : Ending) (w' : World) : Prop := e = .returned (.tuple #[.int .u64 r.1, .int .i64 r.2.1, .int .i64 r.2.2]) ∧ Ev w w'
theorem pow7_le {n : Nat} (h : n ≤ 8) : (2 ^ (7 * n) : Nat) ≤ 72057594037927936 := Nat.le_trans (Nat.pow_le_pow_right (by decide) (show 7 * n ≤ 56 by omega)) (by decide)
theorem look_any {ad : Addr} {b : Value} {xs : List Int} {a : Nat} {er : Int} {w : World} (h : Rd w ad b xs a er) : Calls P n_num_Reader_look #[.pointer (some ad)] w (Look w (lookI xs a)) := by
  have hal := h.2.2.2.1
  have hxl := h.2.2.2.2
  refine of_num_Reader_look ⟨fun w' => lookI xs a = (0, 0, 4) ∧ Ev w w', ?_, fun _ w' ⟨h1, h2⟩ => ⟨by rw [h1], h2⟩⟩
  refine ⟨fun v i w1 => ∃ n : Nat, i = n ∧ n ≤ 10 ∧ lookL xs a (10 - n) n v = lookI xs a ∧ 0 ≤ v ∧ (n ≤ 9 → v < ((2 ^ (7 * n) : Nat) : Int)) ∧ Ev w w1, fun _ i _ => 10 - i.toNat, ⟨0, rfl, by omega, rfl, by omega, (fun _ => by decide), Ch.refl _ w⟩, ?_⟩
  rintro _ v i w1 ⟨n, rfl, hn, hL, hv0, hv1, h1⟩
  have hR : Rd w1.drew ad b xs a er := (h.ev h1).drew
  refine gIf_dec (fun hlt => gNil_some (gLoadB_i (at1 ((h.ev h1).1.cell (j := 1) rfl)) (gNil_some (gLoadB_v (at1 ((h.ev h1).1.cell (j := 0) rfl)) (gLen_nm h.2.1 (gIf_dec (fun hge => ?_) (fun hin => ?_))))))) (fun hge => ?_)
  · rw [i64_id (by omega) (by omega)] at hge
    rw [show 10 - n = (9 - n) + 1 by omega, lookL, if_pos (by omega)] at hL
    exact ⟨by rw [← hL], h1.drew⟩
  · rw [i64_id (by omega) (by omega)] at hin
    refine gNil_some (gLoadB_v (at1 (hR.1.cell (j := 0) rfl)) (gNil_some (gLoadB_i (at1 (hR.1.cell (j := 1) rfl)) ?_)))
    rw [show i64 ((a : Int) + n) = ((a + n : Nat) : Int) by rw [i64_id (by omega) (by omega)]; omega]
    refine gIdx_nm hR.2.1 (by omega) (by omega) fun ad2 c2 _ => gLoadB_i (at1 c2) (gBin_shl (by rw [i64_id (by omega) (by omega)]; omega) ?_)
    have hc := rd_u8 h.2.1.2 ((a + n : Nat) : Int)
    generalize hcr : rd xs ((a + n : Nat) : Int) = c at hc
    have eA : iAnd .u8 c 127 = c % 128 := by
      have := iAnd_mask (k := .u8) (a := c) (m := 7) (n := 127) rfl (by omega) (by rw [show (2 : Int) ^ IntKind.u8.bits = 256 by decide]; omega) rfl (by decide)
      rw [show ((127 : Nat) : Int) = 127 from rfl] at this
      rw [this]; rfl
    have eU : u64 (c % 128) = c % 128 := by rw [u64_def]; omega
    have e7 : i64 (7 * (n : Int)) = ((7 * n : Nat) : Int) := by rw [i64_id (by omega) (by omega)]; omega
    rw [eA, eU, e7]
    have hstep : lookL xs a (10 - n) n v = if n = 9 ∧ c > 1 then (0, 0, 4) else if c < 128 then (if c = 0 ∧ n > 0 then (0, 0, 4) else (v + c % 128 * ((2 ^ (7 * n) : Nat) : Int), ((a + n + 1 : Nat) : Int), 0)) else lookL xs a (10 - (n + 1)) (n + 1) (v + c % 128 * ((2 ^ (7 * n) : Nat) : Int)) := by
      rw [show 10 - n = (10 - (n + 1)) + 1 by omega, lookL, if_neg (by omega), hcr]
    rw [hstep] at hL
    -- what is or'ed, where it is used
    have hor : ¬ (n = 9 ∧ c > 1) → iOr .u64 v (iShl .u64 (c % 128) ((7 * n : Nat) : Int)) = v + c % 128 * ((2 ^ (7 * n) : Nat) : Int) ∧ v + c % 128 * ((2 ^ (7 * n) : Nat) : Int) < 18446744073709551616 := fun hne => by
      have hb : v + c % 128 * ((2 ^ (7 * n) : Nat) : Int) < 18446744073709551616 := by
        by_cases h9 : n = 9
        · subst h9
          have := hv1 (by omega)
          have e : ((2 ^ (7 * 9) : Nat) : Int) = 9223372036854775808 := by decide
          rw [e] at this ⊢; omega
        · have h1 := hv1 (by omega)
          have hq : ((2 ^ (7 * n) : Nat) : Int) ≤ ((72057594037927936 : Nat) : Int) := Int.ofNat_le.2 (pow7_le (n := n) (by omega))
          generalize ((2 ^ (7 * n) : Nat) : Int) = q at *
          have : c % 128 * q ≤ 127 * q := Int.mul_le_mul_of_nonneg_right (by omega) (by omega)
          omega
      refine ⟨?_, hb⟩
      rw [iShl_u (k := .u64) rfl (by have : IntKind.u64.bits = 64 := rfl; omega) (by omega), bits64, Int.emod_eq_of_lt (Int.mul_nonneg (by omega) (by omega)) (by have : (0 : Int) ≤ v := hv0; show _ < (18446744073709551616 : Int); omega)]
      exact iOr_add rfl hv0 (hv1 (by omega)) (by omega) (by rw [bits64]; exact hb)
    refine ⟨fun w' => ¬ (n = 9 ∧ c > 1) ∧ Ev w w', ?_, ?_⟩
    · refine gIf_eq (fun e9 => gIf_dec (fun hg => ⟨?_, h1.drew.drew⟩) (fun hg => ⟨fun hh => hg hh.2, h1.drew.drew⟩)) (fun e9 => ⟨fun hh => e9 (by rw [hh.1]; rfl), h1.drew.drew⟩)
      rw [if_pos ⟨by omega, hg⟩] at hL; exact hL.symm
    · rintro _ w2 ⟨hne, h2⟩
      obtain ⟨ho, hob⟩ := hor hne
      rw [if_neg hne] at hL
      rw [ho]
      have fin : ¬ (c = 0 ∧ n > 0) → c < 128 → gNil (some ad) fun (t59 : Addr) => gLoadB P t_int (shI .i64) (.pointer (some (Addr.add t59 1))) (fun w' => w' = w2.drew) fun (t61 : Int) => Look w (lookI xs a) (.returned (.tuple #[.int .u64 (v + c % 128 * ((2 ^ (7 * n) : Nat) : Int)), .int .i64 (i64 ((i64 (t61 + n)) + 1)), .int .i64 0])) w2.drew := fun hz hlt => by
        refine gNil_some (gLoadB_i (at1 ((h.ev h2).1.cell (j := 1) rfl)) ⟨?_, h2.drew⟩)
        rw [if_pos hlt, if_neg hz] at hL
        rw [← hL, i64_id (n := (a : Int) + n) (by omega) (by omega), i64_id (by omega) (by omega)]; rfl
      refine gIf_dec (fun hlt => gIf_eq (fun ez => gIf_dec (fun hp => ⟨?_, h2⟩) (fun hp => fin (fun hh => hp (by omega)) hlt)) (fun ez => fin (fun hh => ez hh.1) hlt)) (fun hge => ?_)
      · rw [if_pos hlt, if_pos ⟨ez, by omega⟩] at hL; exact hL.symm
      · rw [if_neg hge] at hL
        rw [i64_id (n := (n : Int) + 1) (by omega) (by omega)]
        have hn9 : n ≠ 9 := fun e => hne ⟨e, by omega⟩
        refine ⟨⟨n + 1, by omega, by omega, hL, Int.add_nonneg hv0 (Int.mul_nonneg (by omega) (by omega)), fun h9 => ?_, h2⟩, by dsimp only; omega⟩
        have h3 := hv1 (by omega)
        rw [show 7 * (n + 1) = 7 * n + 7 by omega, Nat.pow_add]
        have e : ((2 ^ (7 * n) * 2 ^ 7 : Nat) : Int) = ((2 ^ (7 * n) : Nat) : Int) * 128 := by rw [Int.natCast_mul]; rfl
        rw [e]
        have : c % 128 * ((2 ^ (7 * n) : Nat) : Int) ≤ 127 * ((2 ^ (7 * n) : Nat) : Int) := Int.mul_le_mul_of_nonneg_right (by omega) (by omega)
        omega
  · have : n = 10 := by omega
    subst this
    rw [show 10 - 10 = 0 from rfl, lookL] at hL
    exact ⟨hL.symm, h1⟩
end Go.Proofs.YtilpoinhfiajcaaGreatDoorV
