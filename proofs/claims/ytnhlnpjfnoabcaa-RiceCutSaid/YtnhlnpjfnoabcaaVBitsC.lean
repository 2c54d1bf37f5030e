/- Package bits: the reader. -/
import Derived.Test.YtnhlnpjfnoabcaaVBitsB
namespace Go.Proofs.YtnhlnpjfnoabcaaV
open Go Go.RowKit

theorem Nm.ch' {k : IntKind} {S : SS} {w w' : World} {v : Value} {xs : List Int} (h : Nm k w v xs) (hc : Ch S w w') (hs : xs ≠ [] → ∀ g i, v.ownBlock = some g → ¬ S g i) : Nm k w' v xs := by
  by_cases hx : xs = []
  · subst hx
    obtain ⟨⟨a, c, rfl, h1, h2, h3, h4⟩, hr⟩ := h
    exact ⟨⟨a, c, rfl, h1, h2, fun ad ha j u hj => by simp at hj, h4⟩, hr⟩
  · exact h.ch hc (hs hx)
def PR (w : World) (ad : Addr) (b : Value) (xs : List Int) (a : Nat) (er : Int) : Prop := St w ad [b, .int .i64 a, .int .i64 er] ∧ Nm .u8 w b xs ∧ (xs ≠ [] → b.ownBlock ≠ some ad.block) ∧ a ≤ 8 * xs.length ∧ xs.length ≤ 1000000000
theorem PR.ch {S : SS} {w w' : World} {ad : Addr} {b : Value} {xs : List Int} {a : Nat} {er : Int} (h : PR w ad b xs a er) (hc : Ch S w w') (hs : ∀ k i, (k = ad.block ∨ b.ownBlock = some k) → ¬ S k i) : PR w' ad b xs a er :=
  ⟨h.1.ch hc fun _ _ => hs _ _ (.inl rfl), h.2.1.ch hc fun g i hg => hs g i (.inr hg), h.2.2⟩
theorem PR.ev {w w' : World} {ad : Addr} {b : Value} {xs : List Int} {a : Nat} {er : Int} (h : PR w ad b xs a er) (he : Ev w w') : PR w' ad b xs a er := ⟨h.1.ev he, h.2.1.ev he, h.2.2⟩
theorem PR.drew {w : World} {ad : Addr} {b : Value} {xs : List Int} {a : Nat} {er : Int} (h : PR w ad b xs a er) : PR w.drew ad b xs a er := h
def PS (w w' : World) (ad : Addr) (b : Value) (xs : List Int) (a : Nat) (er : Int) : Prop := PR w' ad b xs a er ∧ Ch (Rg ad 3) w w'
theorem PS.trans {w w1 w2 : World} {ad : Addr} {b : Value} {xs : List Int} {a a2 : Nat} {er er2 : Int} (h : PS w w1 ad b xs a er) (h2 : PS w1 w2 ad b xs a2 er2) : PS w w2 ad b xs a2 er2 := ⟨h2.1, Ch.trans h.2 h2.2 fun _ _ _ h => h⟩
theorem PS.ev {w w1 w2 : World} {ad : Addr} {b : Value} {xs : List Int} {a : Nat} {er : Int} (h : PS w w1 ad b xs a er) (he : Ev w1 w2) : PS w w2 ad b xs a er := ⟨h.1.ev he, Ch.trans h.2 he fun _ _ _ h => h.elim⟩
theorem PS.pre {w w1 w2 : World} {ad : Addr} {b : Value} {xs : List Int} {a : Nat} {er : Int} (he : Ev w w1) (h : PS w1 w2 ad b xs a er) : PS w w2 ad b xs a er := ⟨h.1, Ch.trans (he.mono fun _ _ _ h => h.elim) h.2 fun _ _ _ h => h⟩
theorem PR.step {w : World} {ad : Addr} {b : Value} {xs : List Int} {a : Nat} {er : Int} (h : PR w ad b xs a er) : PS w w ad b xs a er := ⟨h, Ch.refl _ w⟩
theorem PR.set {w w' : World} {ad : Addr} {b : Value} {xs : List Int} {a : Nat} {er : Int} (h : PR w ad b xs a er) {j : Nat} {u : Value} {a2 : Nat} {er2 : Int} (hj : j < 3) (hc : Ch (Rg (ad.add j) 1) w w')
    (hS : St w' ad ([b, .int .i64 a, .int .i64 er].set j u)) (he : ([b, .int .i64 a, .int .i64 er] : List Value).set j u = [b, .int .i64 a2, .int .i64 er2]) (ha : a2 ≤ 8 * xs.length) : PS w w' ad b xs a2 er2 := by
  have hc3 : Ch (Rg ad 3) w w' := hc.mono fun n i _ hh => by
    have h1 := hh.1; have h2 := hh.2
    rw [Addr.add_none h.1.1] at h1 h2
    exact ⟨h1, by dsimp only at h2; omega, by dsimp only at h2; omega⟩
  exact ⟨⟨he ▸ hS, h.2.1.ch' hc3 fun hx g i hg hh => h.2.2.1 hx (by rw [hg, hh.1]), h.2.2.1, ha, h.2.2.2.2⟩, hc3⟩
section
variable {ad : Addr} {b : Value} {xs : List Int} {a : Nat} {er : Int} {w : World}
theorem pLeft_any (h : PR w ad b xs a er) : Calls P n_bits_place_Left #[.pointer (some ad)] w (fun e w' => e = .returned (.int .i64 (8 * (xs.length : Int) - a)) ∧ Ev w w') := by
  have h1 := h.2.2.2.1
  have h2 := h.2.2.2.2
  refine of_bits_place_Left (gEq_pnil (gIf_f (gNil_some (gLoadB_v (at1 (h.1.cell (j := 0) rfl)) (gLen_nm h.2.1 (gNil_some (gLoadB_i (at1 (h.1.cell (j := 1) rfl)) ⟨?_, Ev.drew0 w⟩)))))))
  rw [i64_id (n := 8 * (xs.length : Int)) (by omega) (by omega), i64_id (by omega) (by omega)]
theorem pErr_any (h : PR w ad b xs a er) : Calls P n_bits_place_Err #[.pointer (some ad)] w (fun e w' => e = .returned (.int .i64 er) ∧ w' = w) :=
  of_bits_place_Err (gEq_pnil (gIf_f (gNil_some (gLoad_i (h.1.cell (j := 2) rfl) ⟨rfl, rfl⟩))))
theorem shr_bit {x : Int} {r : Nat} (hx : 0 ≤ x ∧ x < 256) (hr : r ≤ 8) : i64 (iAnd .u8 (iShr .u8 x r) 1) = x / ((2 ^ r : Nat) : Int) % 2 := by
  have h0 : 0 ≤ x / ((2 ^ r : Nat) : Int) := Int.ediv_nonneg hx.1 (Int.natCast_nonneg _)
  have h1 := Int.ediv_le_self (a := x) ((2 ^ r : Nat) : Int) hx.1
  rw [iShr_div (by have : IntKind.u8.bits = 8 := rfl; omega) hx.1]
  have := iAnd_mask (k := .u8) (a := x / ((2 ^ r : Nat) : Int)) (m := 1) (n := 1) rfl h0 (by rw [show (2 : Int) ^ IntKind.u8.bits = 256 by decide]; omega) rfl (by decide)
  rw [show ((1 : Nat) : Int) = 1 from rfl] at this
  rw [this, show ((2 ^ 1 : Nat) : Int) = 2 from rfl, i64_id (by omega) (by omega)]
theorem pStep_any (h : PR w ad b xs a er) (ha : a < 8 * xs.length) : Calls P n_bits_place_step #[.pointer (some ad)] w (fun e w' => e = .returned (.int .i64 (bitAt xs a)) ∧ PS w w' ad b xs (a + 1) er) := by
  have h2 := h.2.2.2.2
  have et : i64 (7 - Int.tmod (a : Int) 8) = ((7 - a % 8 : Nat) : Int) := by rw [Int.tmod_eq_emod_of_nonneg (by omega), i64_id (by omega) (by omega)]; omega
  have ed : i64 (Int.tdiv (a : Int) 8) = ((a / 8 : Nat) : Int) := by rw [Int.tdiv_eq_ediv_of_nonneg (by omega), i64_id (by omega) (by omega)]; omega
  refine of_bits_place_step (gNil_some (gLoadB_v (at1 (h.1.cell (j := 0) rfl)) (gNil_some (gLoadB_i (at1 (h.1.cell (j := 1) rfl)) ?_))))
  rw [ed]
  refine gIdx_nm h.2.1 (by omega) (by omega) fun a1 c1 _ => gLoadB_i (at1 c1) (gNil_some (gLoadB_i (at1 (h.1.cell (j := 1) rfl)) ?_))
  rw [et]
  refine gBin_shr (by omega) (gNil_some (gLoad_i (h.drew.1.cell (j := 1) rfl) (gNil_some (gStore_st h.drew.1 (j := 1) (by simp) rfl rfl fun w2 hw2 _ hS2 => ⟨?_, ?_⟩))))
  · rw [shr_bit (rd_u8 h.2.1.2 _) (by omega)]; rfl
  · exact PS.pre (Ev.drew0 w) (h.drew.set (j := 1) (a2 := a + 1) (er2 := er) (by decide) hw2 hS2 (by rw [i64_id (by omega) (by omega)]; rfl) (by omega))
/-- The fault behind 'has'. -/
def hasBR (len a : Nat) (er n : Int) : Int := if er = 0 ∧ 8 * (len : Int) - a < n then 3 else er
theorem pHas_any {n : Int} (h : PR w ad b xs a er) : Calls P n_bits_place_has #[.pointer (some ad), .int .i64 n] w (fun e w' => e = .returned (.bool (hasBR xs.length a er n == 0)) ∧ PS w w' ad b xs a (hasBR xs.length a er n)) := by
  refine of_bits_place_has ⟨fun w' => PS w w' ad b xs a (hasBR xs.length a er n), gNil_some (gLoad_i (h.1.cell (j := 2) rfl) (gIf_eq (fun e0 => gCall_i (pLeft_any h) fun w1 h1 => gIf_dec (fun hlt => gNil_some ?_) (fun hge => ?_)) (fun e0 => ?_))), fun _ w3 h3 => ?_⟩
  · refine gStore_st (h.ev h1).1 (j := 2) (by simp) rfl rfl fun w2 hw2 _ hS2 => ?_
    unfold hasBR; rw [if_pos ⟨e0, hlt⟩]
    exact PS.pre h1 ((h.ev h1).set (j := 2) (a2 := a) (er2 := 3) (by decide) hw2 hS2 rfl h.2.2.2.1)
  · unfold hasBR; rw [if_neg (fun hh => hge hh.2)]; exact h.step.ev h1
  · unfold hasBR; rw [if_neg (fun hh => e0 hh.1)]; exact h.step
  · exact gNil_some (gLoad_i (h3.1.1.cell (j := 2) rfl) ⟨rfl, h3⟩)
/-- A reader: what points to a place. -/
def RB (w : World) (rad pad : Addr) (b : Value) (xs : List Int) (a : Nat) (er : Int) : Prop := St w rad [.pointer (some pad)] ∧ PR w pad b xs a er ∧ rad.block ≠ pad.block
variable {rad pad : Addr}
theorem RB.to {w' : World} {a2 : Nat} {er2 : Int} (h : RB w rad pad b xs a er) (hs : PS w w' pad b xs a2 er2) : RB w' rad pad b xs a2 er2 := ⟨h.1.ch hs.2 fun _ _ hh => h.2.2 hh.1, hs.1, h.2.2⟩
theorem in_any (h : RB w rad pad b xs a er) : Calls P n_bits_Reader_in #[.pointer (some rad)] w (fun e w' => e = .returned (.pointer (some pad)) ∧ w' = w) :=
  of_bits_Reader_in (gEq_pnil (gIf_f (gNil_some (gLoad_p (h.1.cell (j := 0) rfl) ⟨rfl, rfl⟩))))
theorem in_nil : Calls P n_bits_Reader_in #[.pointer none] w (fun e w' => e = .returned (.pointer none) ∧ w' = w) := of_bits_Reader_in (gEq_pnil (gIf_t ⟨rfl, rfl⟩))
def bitsVal (xs : List Int) (a : Nat) : Nat → Int
  | 0 => 0
  | k + 1 => bitsVal xs a k * 2 + bitAt xs (a + k)
theorem bitsVal_bd (xs : List Int) (a : Nat) : ∀ k, 0 ≤ bitsVal xs a k ∧ bitsVal xs a k < ((2 ^ k : Nat) : Int)
  | 0 => by simp [bitsVal]
  | k + 1 => by
    have h1 := bitsVal_bd xs a k
    have h2 := bitAt_01 xs (a + k)
    have e : ((2 ^ (k + 1) : Nat) : Int) = ((2 ^ k : Nat) : Int) * 2 := by rw [Nat.pow_succ, Int.natCast_mul]; rfl
    rw [e, bitsVal]; omega
theorem shl_bit {v x : Int} {j : Nat} (hv : 0 ≤ v ∧ v < ((2 ^ j : Nat) : Int)) (hj : j < 32) (hx : x = 0 ∨ x = 1) : iOr .u32 (iShl .u32 v 1) (u32 x) = v * 2 + x := by
  have hq : ((2 ^ j : Nat) : Int) ≤ ((2147483648 : Nat) : Int) := Int.ofNat_le.2 (Nat.le_trans (Nat.pow_le_pow_right (by decide) (show j ≤ 31 by omega)) (by decide))
  have e1 := iShl_u (k := .u32) (a := v) (n := 1) rfl (by decide) hv.1
  rw [show ((1 : Nat) : Int) = 1 from rfl, bits32, show ((2 ^ 1 : Nat) : Int) = 2 from rfl, Int.emod_eq_of_lt (by omega) (by show _ < (4294967296 : Int); omega)] at e1
  have e2 := iOr_add' (k := .u32) (a := x) (b := v) (m := 1) rfl (by omega) (by rw [show ((2 ^ 1 : Nat) : Int) = 2 from rfl]; omega) hv.1 (by rw [bits32, show ((2 ^ 1 : Nat) : Int) = 2 from rfl]; show _ < (4294967296 : Int); omega)
  rw [show ((2 ^ 1 : Nat) : Int) = 2 from rfl] at e2
  rw [e1, show u32 x = x by rw [u32_def]; omega, e2]; omega
def bitsR (xs : List Int) (a : Nat) (er n : Int) : Int × Nat × Int := if er ≠ 0 then (0, a, er) else if 8 * (xs.length : Int) - a < cl32 n then (0, a, 3) else (bitsVal xs a (cl32 n), a + cl32 n, 0)
theorem Bits_R {n : Int} (h : RB w rad pad b xs a er) : Calls P n_bits_Reader_Bits #[.pointer (some rad), .int .i64 n] w (fun e w' => e = .returned (.int .u32 (bitsR xs a er n).1) ∧ PS w w' pad b xs (bitsR xs a er n).2.1 (bitsR xs a er n).2.2) := by
  have := cl32_le n
  refine of_bits_Reader_Bits ?_
  rw [cl32a]
  refine ⟨fun w' => er = 0 ∧ ¬ 8 * (xs.length : Int) - a < cl32 n ∧ PS w w' pad b xs a 0, ?_, ?_⟩
  · refine gCall_p0 (in_any h) (gEq_pnil (gIf_nf (gNil_some (gLoad_p (h.1.cell (j := 0) rfl) (gCall_b (pHas_any h.2.1) fun w1 h1 => ?_)))))
    unfold hasBR bitsR at *
    by_cases he : er = 0
    · by_cases hlt : 8 * (xs.length : Int) - a < cl32 n
      · rw [if_pos ⟨he, hlt⟩] at h1 ⊢
        rw [if_neg (by omega), if_pos hlt]
        exact gIf_t ⟨rfl, h1⟩
      · rw [if_neg (fun hh => hlt hh.2)] at h1 ⊢
        subst he
        exact gIf_f ⟨rfl, hlt, h1⟩
    · rw [if_neg (fun hh => he hh.1)] at h1 ⊢
      rw [if_pos he, show (er == 0) = false by simpa using he]
      exact gIf_t ⟨rfl, h1⟩
  · rintro _ w3 ⟨rfl, hge, h3⟩
    unfold bitsR
    rw [if_neg (show ¬ ((0 : Int) ≠ 0) by simp), if_neg hge]
    refine ⟨fun v i w' => ∃ j : Nat, i = j ∧ j ≤ cl32 n ∧ v = bitsVal xs a j ∧ PS w w' pad b xs (a + j) 0, fun _ i _ => cl32 n - i.toNat, ⟨0, rfl, by omega, rfl, h3⟩, ?_⟩
    rintro _ v i w4 ⟨j, rfl, hj, rfl, h4⟩
    have hR := h.to h4
    refine gIf_dec (fun hlt => gNil_some (gLoad_p (hR.1.cell (j := 0) rfl) (gCall_i (pStep_any hR.2.1 (by omega)) fun w5 h5 => ?_))) (fun hend => ?_)
    · rw [shl_bit (bitsVal_bd xs a j) (by omega) (bitAt_01 xs (a + j)), i64_id (n := (j : Int) + 1) (by omega) (by omega)]
      exact ⟨⟨j + 1, by omega, by omega, rfl, h4.trans h5⟩, by dsimp only; omega⟩
    · rw [show cl32 n = j by omega]; exact ⟨rfl, h4⟩
theorem bitsR_bd (n : Int) : 0 ≤ (bitsR xs a er n).1 ∧ (bitsR xs a er n).1 < 4294967296 := by
  unfold bitsR
  split
  · simp
  · split
    · simp
    · have h1 := bitsVal_bd xs a (cl32 n)
      have h2 : ((2 ^ cl32 n : Nat) : Int) ≤ ((4294967296 : Nat) : Int) := Int.ofNat_le.2 (Nat.le_trans (Nat.pow_le_pow_right (by decide) (cl32_le n)) (by decide))
      dsimp only; omega
def uL (xs : List Int) (a : Nat) (most : Int) : Nat → Nat → Int × Nat × Int
  | 0, _ => (0, a, 3)
  | f + 1, n => if (n : Int) ≥ most then (n, a + n, 0) else if 8 * xs.length ≤ a + n then (0, a, 3) else if bitAt xs (a + n) = 0 then (n, a + n + 1, 0) else uL xs a most f (n + 1)
def unaryR (xs : List Int) (a : Nat) (er most : Int) : Int × Nat × Int := if er ≠ 0 then (0, a, er) else uL xs a most (8 * xs.length + 1 - a) 0
theorem Unary_R {most : Int} (h : RB w rad pad b xs a er) : Calls P n_bits_Reader_Unary #[.pointer (some rad), .int .i64 most] w (fun e w' => e = .returned (.int .i64 (unaryR xs a er most).1) ∧ PS w w' pad b xs (unaryR xs a er most).2.1 (unaryR xs a er most).2.2) := by
  have ha := h.2.1.2.2.2.1
  have hl := h.2.1.2.2.2.2
  refine of_bits_Reader_Unary ⟨fun w' => er = 0 ∧ w' = w, ?_, ?_⟩
  · refine gCall_p0 (in_any h) (gEq_pnil (gIf_nf (gNil_some (gLoad_p (h.1.cell (j := 0) rfl) (gNil_some (gLoad_i (h.2.1.1.cell (j := 2) rfl) (gIf_neq (fun hne => ?_) (fun he => ⟨he, rfl⟩))))))))
    unfold unaryR; rw [if_pos hne]; exact ⟨rfl, h.2.1.step⟩
  rintro _ _ ⟨rfl, rfl⟩
  rename_i w
  unfold unaryR
  rw [if_neg (show ¬ ((0 : Int) ≠ 0) by simp)]
  refine gNil_some (gLoad_p (h.1.cell (j := 0) rfl) (gNil_some (gLoad_i (h.2.1.1.cell (j := 1) rfl) ?_)))
  refine ⟨fun i w' => ∃ n : Nat, i = n ∧ a + n ≤ 8 * xs.length ∧ uL xs a most (8 * xs.length + 1 - a - n) n = uL xs a most (8 * xs.length + 1 - a) 0 ∧ PS w w' pad b xs (a + n) 0, fun i _ => 8 * xs.length + 1 - i.toNat, ⟨0, rfl, by omega, rfl, h.2.1.step⟩, ?_⟩
  rintro _ i w3 ⟨n, rfl, hn, hu, h3⟩
  rw [show 8 * xs.length + 1 - a - n = (8 * xs.length - a - n) + 1 by omega, uL] at hu
  rw [← hu]
  have hR := h.to h3
  refine gIf_dec (fun hge => ?_) (fun hlt => ?_)
  · rw [if_pos hge]; exact ⟨rfl, h3⟩
  rw [if_neg hlt]
  refine gNil_some (gLoad_p (hR.1.cell (j := 0) rfl) (gCall_b (pHas_any hR.2.1) fun w4 h4 => ?_))
  unfold hasBR at h4 ⊢
  by_cases hend : 8 * xs.length ≤ a + n
  · rw [if_pos ⟨rfl, by omega⟩] at h4 ⊢
    rw [if_pos hend]
    have hR4 := hR.to h4
    refine gIf_t (gNil_some (gLoad_p (hR4.1.cell (j := 0) rfl) (gNil_some (gStore_st hR4.2.1.1 (j := 1) (by simp) rfl rfl fun w5 h5 _ hS5 => ⟨rfl, ?_⟩))))
    exact (h3.trans h4).trans (hR4.2.1.set (j := 1) (a2 := a) (er2 := 3) (by decide) h5 hS5 rfl ha)
  · rw [if_neg (by omega)] at h4 ⊢
    rw [if_neg hend]
    have hR4 := hR.to h4
    refine gIf_f (gNil_some (gLoad_p (hR4.1.cell (j := 0) rfl) (gCall_i (pStep_any hR4.2.1 (by omega)) fun w5 h5 => gIf_eq (fun e0 => ?_) (fun e0 => ?_))))
    · rw [if_pos e0]; exact ⟨rfl, (h3.trans h4).trans h5⟩
    · rw [i64_id (n := (n : Int) + 1) (by omega) (by omega)]
      rw [if_neg e0]
      exact ⟨⟨n + 1, by omega, by omega, by congr 1; omega, (h3.trans h4).trans h5⟩, by dsimp only; omega⟩
theorem Err_R (h : RB w rad pad b xs a er) : Calls P n_bits_Reader_Err #[.pointer (some rad)] w (fun e w' => e = .returned (.int .i64 er) ∧ w' = w) :=
  of_bits_Reader_Err (gCall_p0 (in_any h) (gCall_i0 (pErr_any h.2.1) ⟨rfl, rfl⟩))
def atOf (w : World) (ad : Addr) : Nat := match w.cell? (ad.add 1) with
  | some (.int _ n) => n.toNat
  | _ => 0
theorem atOf_PR (h : PR w ad b xs a er) : atOf w ad = a := by
  unfold atOf; rw [h.1.cell (j := 1) rfl]; rfl
/-- The first bit that is one from a place on: none? -/
def zerosB (xs : List Int) (a : Nat) : Bool := decide (∀ k, k < 8 * xs.length → a ≤ k → bitAt xs k = 0)
def endB (xs : List Int) (a : Nat) (er : Int) : Int := if er ≠ 0 then er else if 8 * (xs.length : Int) - a ≥ 8 then 4 else if zerosB xs a then 0 else 4
end
end Go.Proofs.YtnhlnpjfnoabcaaV
