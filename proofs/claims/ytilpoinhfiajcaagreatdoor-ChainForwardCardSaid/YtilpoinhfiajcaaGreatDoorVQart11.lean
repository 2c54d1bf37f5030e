import Derived.Test.YtilpoinhfiajcaaGreatDoorVQart10
set_option linter.unusedVariables false
set_option linter.unusedSimpArgs false
/- Package picture: blank and number; the same of valiseref16. -/
namespace Go.Proofs.YtilpoinhfiajcaaGreatDoorV
open Go Go.RowKit
/-- Behind white and remarks; false: a remark has no end. -/
def blankL (xs : List Int) : Nat → Nat → Bool × Nat
  | 0, a => (true, a)
  | f + 1, a =>
    if a < xs.length then
      (if whiteB (rd xs a) then blankL xs f (a + 1)
       else if rd xs a = 35 then (match nlI xs a with | some i => blankL xs f (i + 1) | none => (false, a))
       else (true, a))
    else (true, a)
theorem blankL_bd {xs : List Int} : ∀ {f a : Nat}, a ≤ xs.length → a ≤ (blankL xs f a).2 ∧ (blankL xs f a).2 ≤ xs.length
  | 0, a, h => by simp [blankL]; exact h
  | f + 1, a, h => by
    rw [blankL]
    split
    · split
      · have := blankL_bd (xs := xs) (f := f) (a := a + 1) (by omega); omega
      · split
        · split
          · rename_i i hi
            have h1 := nlI_bd hi h
            have := blankL_bd (xs := xs) (f := f) (a := i + 1) (by omega); omega
          · exact ⟨Nat.le_refl _, h⟩
        · exact ⟨Nat.le_refl _, h⟩
    · exact ⟨Nat.le_refl _, h⟩
def blankI (xs : List Int) (a : Nat) : Bool × Nat := blankL xs (xs.length + 1 - a) a
def atS (w : World) (ad : Addr) : Nat := match w.cell? (ad.add 1) with
  | some (.int _ n) => n.toNat
  | _ => 0
section
variable {ad : Addr} {b : Value} {xs : List Int} {a : Nat} {w : World}
theorem atS_SG (h : SG w ad b xs a) : atS w ad = a := by unfold atS; rw [h.1.cell (j := 1) rfl]; rfl
theorem hash_any {c : Int} {w : World} : Calls P n_picture_signs_blank_1 #[.int .u8 c] w (fun e w' => e = .returned (.bool (c == 35)) ∧ w' = w) := of_picture_signs_blank_1 ⟨rfl, rfl⟩
theorem blank_any (h : SG w ad b xs a) : Calls P n_picture_signs_blank #[.pointer (some ad)] w (fun e w' => e = .returned (.bool ((blankI xs a).1 && decide ((blankI xs a).2 > a))) ∧ GS w w' ad b xs (blankI xs a).2) := by
  have hl := h.2.2.2.2
  have ha := h.2.2.2.1
  refine of_picture_signs_blank (gNil_some (gLoad_i (h.1.cell (j := 1) rfl) ⟨fun w' => ∃ j f : Nat, a ≤ j ∧ xs.length < f + j ∧ blankL xs f j = blankI xs a ∧ GS w w' ad b xs j, fun w' => xs.length - atS w' ad, ⟨a, xs.length + 1 - a, by omega, by omega, rfl, h.step⟩, ?_⟩))
  rintro _ w1 ⟨j, f, haj, hf, hbl, h1⟩
  have hj := h1.1.2.2.2.1
  obtain ⟨f, rfl⟩ : ∃ g, f = g + 1 := ⟨f - 1, by omega⟩
  rw [blankL] at hbl
  refine gCall_b (is_any (pf := whiteB) (by kernel_rfl) white_any h1.1) fun w2 h2 => ?_
  have g2 := h1.ev h2
  by_cases hlt : j < xs.length
  · rw [if_pos hlt] at hbl
    rw [decide_eq_true hlt, Bool.true_and]
    cases hw : whiteB (rd xs j) with
    | true =>
      rw [hw, if_pos rfl] at hbl
      refine gIf_t (gNil_some (gLoad_i (g2.1.1.cell (j := 1) rfl) (gNil_some (gStore_st g2.1.1 (j := 1) (by simp) rfl rfl fun w3 h3 _ hS3 => ?_))))
      rw [i64_id (n := (j : Int) + 1) (by omega) (by omega)] at hS3
      have g3 := g2.1.set (a2 := j + 1) h3 hS3 (by omega)
      exact ⟨⟨j + 1, f, by omega, by omega, hbl, g2.trans g3⟩, by dsimp only; rw [atS_SG g3.1, atS_SG h1.1]; omega⟩
    | false =>
      rw [hw, if_neg (by simp)] at hbl
      refine gIf_f (gCall_b (is_any (pf := fun c => c == 35) (by kernel_rfl) hash_any g2.1) fun w4 h4 => ?_)
      have g4 := g2.ev h4
      rw [decide_eq_true hlt, Bool.true_and]
      refine gIf_eq (fun e35 => ?_) (fun n35 => ?_)
      · rw [if_pos e35] at hbl
        refine gCall_b (remark_any g4.1) fun w5 h5 => ?_
        cases hn : nlI xs j with
        | none =>
          rw [hn] at hbl h5
          refine gIf_t ⟨?_, ?_⟩
          · rw [← hbl]; rfl
          · rw [← hbl]; exact g4.trans h5
        | some i =>
          rw [hn] at hbl h5
          replace h5 : GS w4 w5 ad b xs (i + 1) := h5
          have := nlI_bd hn hj
          exact gIf_f ⟨⟨i + 1, f, by omega, by omega, hbl, g4.trans h5⟩, by dsimp only; rw [atS_SG h5.1, atS_SG h1.1]; omega⟩
      · rw [if_neg n35] at hbl
        refine gNil_some (gLoad_i (g4.1.1.cell (j := 1) rfl) ?_)
        rw [← hbl]
        exact ⟨by simp, g4⟩
  · rw [if_neg hlt] at hbl
    rw [decide_eq_false hlt, Bool.false_and]
    refine gIf_f (gCall_b (is_any (pf := fun c => c == 35) (by kernel_rfl) hash_any g2.1) fun w4 h4 => ?_)
    have g4 := g2.ev h4
    rw [decide_eq_false hlt, Bool.false_and]
    refine gIf_f (gNil_some (gLoad_i (g4.1.1.cell (j := 1) rfl) ?_))
    rw [← hbl]
    exact ⟨by simp, g4⟩
end
end Go.Proofs.YtilpoinhfiajcaaGreatDoorV

/- Package picture: number; the same of valiseref16; white of valiseref16. -/
namespace Go.Proofs.YtilpoinhfiajcaaGreatDoorV
open Go Go.RowKit
def digB (c : Int) : Bool := decide (c ≥ 48) && decide (c ≤ 57)
/-- How many digits stand from a on, at most so many; and the number. -/
def runL (xs : List Int) : Nat → Nat → Int → Nat × Int
  | 0, _, v => (0, v)
  | f + 1, a, v => if a < xs.length ∧ digB (rd xs a) = true then ((runL xs f (a + 1) (10 * v + (rd xs a - 48))).1 + 1, (runL xs f (a + 1) (10 * v + (rd xs a - 48))).2) else (0, v)
theorem runL_bd {xs : List Int} : ∀ {f a : Nat} {v : Int}, a ≤ xs.length → (runL xs f a v).1 ≤ f ∧ a + (runL xs f a v).1 ≤ xs.length
  | 0, a, v, h => by simp [runL]; exact h
  | f + 1, a, v, h => by
    rw [runL]; split
    · have := runL_bd (xs := xs) (f := f) (a := a + 1) (v := 10 * v + (rd xs a - 48)) (by omega)
      dsimp only; omega
    · exact ⟨Nat.zero_le _, h⟩
theorem digB_iff {c : Int} : digB c = true ↔ 48 ≤ c ∧ c ≤ 57 := by simp [digB]
theorem runL_rng {xs : List Int} : ∀ {f a : Nat} {v m : Int}, 0 ≤ v → v < m → 0 ≤ (runL xs f a v).2 ∧ (runL xs f a v).2 < m * ((10 ^ f : Nat) : Int)
  | 0, a, v, m, h0, h1 => by simp [runL]; omega
  | f + 1, a, v, m, h0, h1 => by
    have e : m * ((10 ^ (f + 1) : Nat) : Int) = (m * 10) * ((10 ^ f : Nat) : Int) := by rw [Nat.pow_succ, Int.natCast_mul, Int.mul_assoc, Int.mul_comm ((10 ^ f : Nat) : Int)]; rfl
    rw [runL]; split
    · rename_i h
      have hd := digB_iff.1 h.2
      have := runL_rng (xs := xs) (f := f) (a := a + 1) (v := 10 * v + (rd xs a - 48)) (m := m * 10) (by omega) (by omega)
      rw [e]; exact this
    · refine ⟨h0, ?_⟩
      have h10 : (1 : Int) ≤ ((10 ^ (f + 1) : Nat) : Int) := by have := Nat.pow_pos (n := f + 1) (show 0 < 10 by decide); omega
      have : m * 1 ≤ m * ((10 ^ (f + 1) : Nat) : Int) := Int.mul_le_mul_of_nonneg_left h10 (by omega)
      dsimp only; omega
def numPI (xs : List Int) (a : Nat) (most : Int) : Int × Nat :=
  if (runL xs 6 a 0).1 ≥ 6 then (0, a + 5) else if (runL xs 6 a 0).2 > most then (0, a + (runL xs 6 a 0).1) else ((runL xs 6 a 0).2, a + (runL xs 6 a 0).1)
section
variable {ad : Addr} {b : Value} {xs : List Int} {a : Nat} {w : World}
theorem dig_any {c : Int} {w : World} : Calls P n_picture_signs_number_1 #[.int .u8 c] w (fun e w' => e = .returned (.bool (digB c)) ∧ w' = w) := by
  refine of_picture_signs_number_1 (gIf_dec (fun h => ⟨?_, rfl⟩) (fun h => ⟨?_, rfl⟩)) <;> simp [digB, h]
theorem number_any {most : Int} (h : SG w ad b xs a) : Calls P n_picture_signs_number #[.pointer (some ad), .int .i64 most] w (fun e w' => e = .returned (.int .i64 (numPI xs a most).1) ∧ GS w w' ad b xs (numPI xs a most).2) := by
  have hl := h.2.2.2.2
  have ha := h.2.2.2.1
  refine of_picture_signs_number (gNil_some (gLoadB_i (at1 (h.1.cell (j := 1) rfl)) ⟨fun n w' => ∃ k : Nat, k ≤ 5 ∧ 0 ≤ n ∧ n < 100000 ∧ a + k ≤ xs.length ∧ runL xs 6 a 0 = (k + (runL xs (6 - k) (a + k) n).1, (runL xs (6 - k) (a + k) n).2) ∧ n < ((10 ^ k : Nat) : Int) ∧ GS w w' ad b xs (a + k), fun _ w' => xs.length - atS w' ad, ⟨0, by omega, by omega, by omega, by omega, by simp, by decide, (h.step).ev (Ev.drew0 w)⟩, ?_⟩))
  rintro _ n w1 ⟨k, hk, hn0, hn1, hak, hr, hnk, h1⟩
  refine gCall_b (is_any (pf := digB) (by kernel_rfl) dig_any h1.1) fun w2 h2 => ?_
  have g2 := h1.ev h2
  generalize hR0 : runL xs 6 a 0 = r0 at hr
  rw [show 6 - k = (5 - k) + 1 by omega, runL] at hr
  by_cases hc : a + k < xs.length ∧ digB (rd xs ((a + k : Nat) : Int)) = true
  · rw [if_pos hc] at hr
    dsimp only at hr
    rw [decide_eq_true hc.1, hc.2]
    have hd := digB_iff.1 hc.2
    refine gIf_t (gNil_some (gLoad_i (g2.1.1.cell (j := 1) rfl) ?_))
    rw [i64_id (n := ((a + k : Nat) : Int) - a) (by omega) (by omega)]
    refine gIf_dec (fun h5 => ?_) (fun h5 => ?_)
    · have : k = 5 := by omega
      subst this
      unfold numPI
      rw [hR0, hr, if_pos (by dsimp only; omega)]
      exact ⟨rfl, g2⟩
    · refine gNil_some (gLoadB_v (at1 (g2.1.1.cell (j := 0) rfl)) (gNil_some (gLoadB_i (at1 (g2.1.1.cell (j := 1) rfl)) (gIdx_nm g2.1.2.1 (by omega) (by omega) fun a1 c1 _ => gLoadB_i (at1 c1) (gNil_some (gLoad_i ((g2.1.ev (Ev.drew0 _)).1.cell (j := 1) rfl) (gNil_some (gStore_st (g2.1.ev (Ev.drew0 _)).1 (j := 1) (by simp) rfl rfl fun w3 h3 _ hS3 => ?_))))))))
      have hp : ((10 ^ (k + 1) : Nat) : Int) = ((10 ^ k : Nat) : Int) * 10 := by rw [Nat.pow_succ, Int.natCast_mul]; rfl
      have hq : ((10 ^ k : Nat) : Int) ≤ ((10000 : Nat) : Int) := Int.ofNat_le.2 (Nat.le_trans (Nat.pow_le_pow_right (by decide) (show k ≤ 4 by omega)) (by decide))
      rw [u8_id (n := rd xs ((a + k : Nat) : Int) - 48) (by omega) (by omega), i64_id (n := rd xs ((a + k : Nat) : Int) - 48) (by omega) (by omega), i64_id (n := 10 * n) (by omega) (by omega), i64_id (n := 10 * n + _) (by omega) (by omega)]
      rw [show i64 (((a + k : Nat) : Int) + 1) = ((a + (k + 1) : Nat) : Int) by rw [i64_id (by omega) (by omega)]; omega] at hS3
      have g3 := (g2.1.ev (Ev.drew0 w2)).set (a2 := a + (k + 1)) h3 hS3 (by omega)
      refine ⟨⟨k + 1, by omega, by omega, by omega, by omega, ?_, by rw [hp]; omega, (g2.ev (Ev.drew0 w2)).trans g3⟩, by dsimp only; rw [atS_SG g3.1, atS_SG h1.1]; omega⟩
      rw [hr, show 6 - (k + 1) = 5 - k by omega, show a + (k + 1) = a + k + 1 by omega]
      congr 1; omega
  · rw [if_neg hc] at hr
    have hf : (decide (a + k < xs.length) && digB (rd xs ((a + k : Nat) : Int))) = false := by
      rw [Bool.eq_false_iff]; intro hh; rw [Bool.and_eq_true, decide_eq_true_eq] at hh; exact hc hh
    rw [hf]
    unfold numPI
    rw [hR0, hr]
    dsimp only
    rw [if_neg (by omega)]
    refine gIf_f (gIf_dec (fun hg => ?_) (fun hg => ?_))
    · rw [if_pos hg]; exact ⟨rfl, by simpa using g2⟩
    · rw [if_neg hg]; exact ⟨rfl, by simpa using g2⟩
end
end Go.Proofs.YtilpoinhfiajcaaGreatDoorV

/- Package picture: Pnm, the plain part. -/
namespace Go.Proofs.YtilpoinhfiajcaaGreatDoorV
open Go Go.RowKit
structure Pc where
  wd : Int
  ht : Int
  pl : Int
  st : Int
  fr : Int
deriving DecidableEq
def Pc.c (p : Pc) : List Value := [.int .i64 p.wd, .int .i64 p.ht, .int .i64 p.pl, .int .i64 p.st, .int .i64 p.fr]
def Pc.z : Pc := ⟨0, 0, 0, 0, 0⟩
def no : Pc × Bool := (Pc.z, false)
def rightP (p : Pc) (n : Int) : Pc × Bool := if p.fr + p.st * p.ht > n then no else (p, true)
def tokP (xs : List Int) (most : Int) (a : Nat) : Option (Int × Nat) :=
  if (blankI xs a).1 = true ∧ (blankI xs a).2 > a ∧ (numPI xs (blankI xs a).2 most).1 ≠ 0 then some (numPI xs (blankI xs a).2 most) else none
def whiteR (xs : List Int) (a : Nat) : Int := if (blankI xs a).1 = true ∧ (blankI xs a).2 < xs.length ∧ (blankI xs a).2 > a then ((blankI xs a).2 : Int) else -1
def numRR (xs : List Int) (a : Nat) : Int × Int := if (runL xs 6 a 0).1 < 1 ∨ (runL xs 6 a 0).1 > 5 then (-1, -1) else ((runL xs 6 a 0).2, ((a + (runL xs 6 a 0).1 : Nat) : Int))
def tokR (xs : List Int) (a : Nat) : Option (Int × Nat) :=
  if whiteR xs a < 0 then none else if (numRR xs (blankI xs a).2).2 < 0 then none else some ((numRR xs (blankI xs a).2).1, (numRR xs (blankI xs a).2).2.toNat)
theorem runL_nn {xs : List Int} : ∀ {f a : Nat} {v : Int}, 0 ≤ v → 0 ≤ (runL xs f a v).2
  | 0, _, _, h => h
  | f + 1, a, v, h => by
    rw [runL]; split
    · rename_i hh
      have hd := digB_iff.1 hh.2
      exact runL_nn (f := f) (a := a + 1) (by omega)
    · exact h
theorem runL_0 {xs : List Int} {f a : Nat} {v : Int} (h : (runL xs f a v).1 < 1) : (runL xs f a v).2 = v := by
  cases f with
  | zero => rfl
  | succ f =>
    rw [runL] at h ⊢; split
    · rename_i hh; rw [if_pos hh] at h; dsimp only at h; omega
    · rfl
theorem tok_iff {xs : List Int} {most : Int} {a b : Nat} {v : Int} : tokP xs most a = some (v, b) ↔ tokR xs a = some (v, b) ∧ 1 ≤ v ∧ v ≤ most := by
  have hn := runL_nn (xs := xs) (f := 6) (a := (blankI xs a).2) (v := 0) (by omega)
  by_cases h0 : (blankI xs a).1 = true ∧ (blankI xs a).2 > a
  · by_cases h1 : (blankI xs a).2 < xs.length
    · have hw : whiteR xs a = ((blankI xs a).2 : Int) := by unfold whiteR; rw [if_pos ⟨h0.1, h1, h0.2⟩]
      unfold tokP tokR
      rw [hw, if_neg (show ¬ (((blankI xs a).2 : Int) < 0) by omega)]
      unfold numPI numRR
      have hz := runL_0 (xs := xs) (f := 6) (a := (blankI xs a).2) (v := 0)
      generalize runL xs 6 (blankI xs a).2 0 = r at *
      generalize (blankI xs a).2 = k at *
      obtain ⟨r1, r2⟩ := r
      dsimp only at *
      by_cases c1 : r1 ≥ 6
      · rw [if_pos c1, if_pos (show r1 < 1 ∨ r1 > 5 by omega), if_neg (by simp), if_pos (by simp)]; simp
      · rw [if_neg c1]
        by_cases c0 : r1 < 1
        · have hr2 : r2 = 0 := hz c0
          subst hr2
          rw [if_pos (Or.inl c0), if_pos (show (-1 : Int) < 0 by omega), if_neg (by split <;> simp)]
          simp
        · rw [if_neg (show ¬ (r1 < 1 ∨ r1 > 5) by omega)]
          dsimp only
          rw [if_neg (show ¬ (((k + r1 : Nat) : Int) < 0) by omega), Int.toNat_natCast]
          by_cases c2 : r2 > most
          · rw [if_pos c2, if_neg (by simp)]
            constructor
            · intro h; cases h
            · rintro ⟨h, _, h3⟩
              simp only [Option.some.injEq, Prod.mk.injEq] at h
              omega
          · rw [if_neg c2]
            by_cases c3 : r2 = 0
            · rw [if_neg (by simp [c3])]
              constructor
              · intro h; cases h
              · rintro ⟨h, h2, _⟩
                simp only [Option.some.injEq, Prod.mk.injEq] at h
                omega
            · rw [if_pos ⟨h0.1, h0.2, c3⟩]
              simp only [Option.some.injEq, Prod.mk.injEq]
              constructor
              · rintro ⟨h1, h2⟩; subst h1; exact ⟨⟨rfl, h2⟩, by omega, by omega⟩
              · rintro ⟨h, _⟩; exact h
    · have hw : whiteR xs a = -1 := by unfold whiteR; rw [if_neg (by omega)]
      have hr : runL xs 6 (blankI xs a).2 0 = (0, 0) := by rw [runL, if_neg (by omega)]
      have hp : (numPI xs (blankI xs a).2 most).1 = 0 := by unfold numPI; rw [hr]; dsimp only; split; rfl; split <;> rfl
      unfold tokP tokR
      rw [hw, if_neg (by rw [hp]; simp), if_pos (by omega)]; simp
  · have hw : whiteR xs a = -1 := by unfold whiteR; rw [if_neg (fun h => h0 ⟨h.1, h.2.2⟩)]
    unfold tokP tokR
    rw [hw, if_neg (fun h => h0 ⟨h.1, h.2.1⟩), if_pos (by omega)]; simp
/-- Token by token. -/
def toks (tk : Nat → Nat → Option (Int × Nat)) : Nat → Option (List Int × Nat)
  | 0 => some ([], 2)
  | j + 1 => (toks tk j).bind fun p => (tk j p.2).map fun q => (p.1 ++ [q.1], q.2)
theorem toks_len {tk : Nat → Nat → Option (Int × Nat)} : ∀ {j : Nat} {l : List Int} {a : Nat}, toks tk j = some (l, a) → l.length = j
  | 0, l, a, h => by simp [toks] at h; rw [h.1]; rfl
  | j + 1, l, a, h => by
    simp only [toks, Option.bind_eq_some_iff, Option.map_eq_some_iff, Prod.mk.injEq] at h
    obtain ⟨p, h1, q, h2, rfl, rfl⟩ := h
    have := toks_len (tk := tk) (j := j) (l := p.1) (a := p.2) h1
    simp [this]
theorem toks_up {tk : Nat → Nat → Option (Int × Nat)} {j : Nat} (h : toks tk j = none) : ∀ k, toks tk (j + k) = none
  | 0 => h
  | k + 1 => by rw [← Nat.add_assoc, toks, toks_up h k]; rfl
def moP (j : Nat) : Int := if j < 2 then 32768 else 255
def tkP (xs : List Int) (j a : Nat) : Option (Int × Nat) := tokP xs (moP j) a
def tkR (xs : List Int) (_ a : Nat) : Option (Int × Nat) := tokR xs a
theorem toks_iff {xs : List Int} : ∀ {j : Nat} {l : List Int} {a : Nat}, toks (tkP xs) j = some (l, a) ↔ toks (tkR xs) j = some (l, a) ∧ ∀ i, i < j → 1 ≤ l.getD i 0 ∧ l.getD i 0 ≤ moP i
  | 0, l, a => by simp [toks]
  | j + 1, l, a => by
    simp only [toks, Option.bind_eq_some_iff, Option.map_eq_some_iff, Prod.mk.injEq]
    constructor
    · rintro ⟨⟨l1, a1⟩, h1, ⟨v, b⟩, h2, rfl, rfl⟩
      obtain ⟨k1, k2⟩ := toks_iff.1 h1
      have hl := toks_len h1
      obtain ⟨m1, m2, m3⟩ := tok_iff.1 h2
      refine ⟨⟨(l1, a1), k1, (v, b), m1, rfl, rfl⟩, fun i hi => ?_⟩
      dsimp only at *
      by_cases e : i < j
      · rw [getD_app_l (by omega)]; exact k2 i e
      · obtain rfl : i = j := by omega
        rw [getD_app_r (by omega), hl, Nat.sub_self]
        exact ⟨m2, m3⟩
    · rintro ⟨⟨⟨l1, a1⟩, h1, ⟨v, b⟩, h2, rfl, rfl⟩, h3⟩
      have hl := toks_len h1
      dsimp only at *
      refine ⟨(l1, a1), toks_iff.2 ⟨h1, fun i hi => ?_⟩, (v, b), tok_iff.2 ⟨h2, ?_⟩, rfl, rfl⟩
      · have := h3 i (by omega)
        rwa [getD_app_l (by omega)] at this
      · have := h3 j (by omega)
        rw [getD_app_r (by omega), hl, Nat.sub_self] at this
        exact this
def hdP (xs : List Int) : Bool := decide (2 ≤ xs.length ∧ rd xs 0 = 80 ∧ (rd xs 1 = 53 ∨ rd xs 1 = 54))
def plP (xs : List Int) : Int := if rd xs 1 = 54 then 3 else 1
def pcP (xs : List Int) (l : List Int) (a : Nat) : Pc := ⟨l.getD 0 0, l.getD 1 0, plP xs, l.getD 0 0 * plP xs, ((a + 1 : Nat) : Int)⟩
def endP (xs : List Int) (l : List Int) (a : Nat) : Pc × Bool := if a < xs.length ∧ whiteB (rd xs a) = true then rightP (pcP xs l a) xs.length else no
def pnmP (xs : List Int) : Pc × Bool := if hdP xs = true then (match toks (tkP xs) 3 with | some (l, a) => endP xs l a | none => no) else no
theorem plP_rng (xs : List Int) : plP xs = 1 ∨ plP xs = 3 := by unfold plP; split <;> simp
end Go.Proofs.YtilpoinhfiajcaaGreatDoorV

/- Package picture: Pnm, and the same of valiseref16. -/
namespace Go.Proofs.YtilpoinhfiajcaaGreatDoorV
open Go Go.RowKit
def PicE (w : World) (r : Pc × Bool) (e : Ending) (w' : World) : Prop := e = .returned (.tuple #[.agg r.1.c.toArray, .bool r.2]) ∧ Ev w w'
theorem gCall_pic {f : FuncId} {args : Array Value} {w : World} {r : Pc × Bool} {K : Int → Int → Int → Int → Int → Bool → World → Prop} (h : Calls P f args w (PicE w r)) (hk : ∀ w', Ev w w' → K r.1.wd r.1.ht r.1.pl r.1.st r.1.fr r.2 w') :
    gCall P f (.tup [.agg [.int .i64, .int .i64, .int .i64, .int .i64, .int .i64], .one .bool]) args w K :=
  gCall_of h fun _ w' ⟨h1, h2⟩ => ⟨_, _, _, _, _, _, h1, hk w' h2⟩
section
variable {w0 w : World} {F : List It}
theorem fPic {ad : Addr} {K : Int → Int → Int → Int → Int → Prop} (p : Pc) (h : Fr w0 w F) (i : Nat) (hi : F[i]? = some (sIt ad p.c)) (hk : K p.wd p.ht p.pl p.st p.fr) : gLoad P t_api_Picture (.part (.agg [.int .i64, .int .i64, .int .i64, .int .i64, .int .i64])) (.pointer (some ad)) w K :=
  fLoadA h i hi hk rfl (by kernel_rfl)
theorem fPicNew {K : Addr → World → Prop} (h : Fr w0 w F) (hk : ∀ ad w', Fr w0 w' (sIt ad Pc.z.c :: F) → K ad w') : gAlloc P t_api_Picture w K :=
  fAlloc (z := .agg #[.int .i64 0, .int .i64 0, .int .i64 0, .int .i64 0, .int .i64 0]) h (by kernel_rfl) hk
theorem fPicSet {ad : Addr} {a b c d e : Int} {cs : List Value} {K : World → Prop} (h : Fr w0 w F) (i : Nat) (hi : F[i]? = some (sIt ad cs)) (hl : cs.length = 5) (hk : ∀ w', Fr w0 w' (F.set i (sIt ad (Pc.mk a b c d e).c)) → K w') : gStore P t_api_Picture (.pointer (some ad)) (.agg #[.int .i64 a, .int .i64 b, .int .i64 c, .int .i64 d, .int .i64 e]) w K :=
  fStoreA h i hi hk (by rw [hl]; rfl)
/-- The result of a function of two: stored, and read again. -/
theorem fPicEnd {ad : Addr} {r : Pc × Bool} {cs : List Value} (h : Fr w0 w F) (i : Nat) (hi : F[i]? = some (sIt ad cs)) (hl : cs.length = 5) {R : Ending → World → Prop} (hR : R = PicE w0 r) :
    gStore P t_api_Picture (.pointer (some ad)) (.agg #[.int .i64 r.1.wd, .int .i64 r.1.ht, .int .i64 r.1.pl, .int .i64 r.1.st, .int .i64 r.1.fr]) w fun ww => gLoad P t_api_Picture (.part (.agg [.int .i64, .int .i64, .int .i64, .int .i64, .int .i64])) (.pointer (some ad)) ww fun (r0_0 : Int) (r0_1 : Int) (r0_2 : Int) (r0_3 : Int) (r0_4 : Int) => R (.returned (.tuple #[.agg #[.int .i64 r0_0, .int .i64 r0_1, .int .i64 r0_2, .int .i64 r0_3, .int .i64 r0_4], .bool r.2])) ww := by
  subst hR
  refine fPicSet h i hi hl fun w3 f3 => fPic r.1 f3 i ?_ ⟨rfl, f3.old⟩
  have hlt := (List.getElem?_eq_some_iff.1 hi).1
  rw [List.getElem?_set_self hlt]
end
theorem rightPc_any {a b c d e n : Int} {w : World} (h1 : 0 ≤ d * b) (h2 : d * b ≤ 1000000000000) (h3 : 0 ≤ e) (h4 : e ≤ 1000000000000) : Calls P n_picture_right #[.agg #[.int .i64 a, .int .i64 b, .int .i64 c, .int .i64 d, .int .i64 e], .int .i64 n] w (PicE w (rightP ⟨a, b, c, d, e⟩ n)) := by
  refine of_picture_right (fBox (Fr.start w) fun p w1 f1 => fPicNew f1 fun t w2 f2 => fLoad_i f2 1 4 rfl rfl (fLoad_i f2 1 3 rfl rfl (fLoad_i f2 1 1 rfl rfl ?_)))
  rw [i64_id (n := d * b) (by omega) (by omega), i64_id (n := e + d * b) (by omega) (by omega)]
  unfold rightP
  refine gIf_dec (fun h => ?_) (fun h => ?_)
  · rw [if_pos h]; exact fPicEnd (r := no) f2 0 rfl rfl rfl
  · rw [if_neg h]; exact fPic ⟨a, b, c, d, e⟩ f2 1 rfl (fPicEnd (r := (⟨a, b, c, d, e⟩, true)) f2 0 rfl rfl rfl)
section
variable {b : Value} {xs : List Int} {w : World}
end
end Go.Proofs.YtilpoinhfiajcaaGreatDoorV

/- Package picture: Pnm, and the same of valiseref16, as a whole. -/
namespace Go.Proofs.YtilpoinhfiajcaaGreatDoorV
open Go Go.RowKit
section
variable {b : Value} {xs : List Int} {w : World}
theorem toks_at {tk : Nat → Nat → Option (Int × Nat)} (hb : ∀ {j a v b}, a ≤ xs.length → tk j a = some (v, b) → b ≤ xs.length) (h2 : 2 ≤ xs.length) : ∀ {j : Nat} {l : List Int} {a : Nat}, toks tk j = some (l, a) → a ≤ xs.length
  | 0, l, a, h => by simp [toks] at h; omega
  | j + 1, l, a, h => by
    simp only [toks, Option.bind_eq_some_iff, Option.map_eq_some_iff, Prod.mk.injEq] at h
    obtain ⟨⟨l1, a1⟩, h1, ⟨v, q⟩, h2', rfl, rfl⟩ := h
    exact hb (toks_at hb h2 h1) h2'
theorem tokR_at {a b : Nat} {v : Int} (ha : a ≤ xs.length) (h : tokR xs a = some (v, b)) : b ≤ xs.length ∧ 0 ≤ v ∧ v < 1000000 := by
  unfold tokR at h
  split at h
  · cases h
  · split at h
    · cases h
    · rename_i h1 h2
      injection h with h; injection h with e1 e2
      have hk := (blankL_bd (xs := xs) (f := xs.length + 1 - a) ha).2
      have hk' : (blankI xs a).2 ≤ xs.length := hk
      have hr := runL_bd (xs := xs) (f := 6) (v := 0) hk'
      have hv := runL_rng (xs := xs) (f := 6) (a := (blankI xs a).2) (v := 0) (m := 1) (by omega) (by omega)
      unfold numRR at h2 e1 e2
      split at h2
      · exact absurd (show (-1 : Int) < 0 by omega) h2
      · rename_i hc
        rw [if_neg hc] at e1 e2
        dsimp only at e1 e2
        rw [Int.toNat_natCast] at e2
        subst e1; subst e2
        have e6 : (1 : Int) * ((10 ^ 6 : Nat) : Int) = 1000000 := by decide
        omega
theorem tokP_at {a b : Nat} {v m : Int} (ha : a ≤ xs.length) (h : tokP xs m a = some (v, b)) : b ≤ xs.length ∧ 1 ≤ v ∧ v ≤ m := ⟨(tokR_at ha (tok_iff.1 h).1).1, (tok_iff.1 h).2⟩
theorem toks_step {tk : Nat → Nat → Option (Int × Nat)} {j : Nat} {l : List Int} {a : Nat} (h : toks tk j = some (l, a)) : toks tk (j + 1) = (tk j a).map fun q => (l ++ [q.1], q.2) := by rw [toks, h]; rfl
theorem toks_no {tk : Nat → Nat → Option (Int × Nat)} {j : Nat} {l : List Int} {a : Nat} (h : toks tk j = some (l, a)) (hj : j < 3) (hn : tk j a = none) : toks tk 3 = none := by
  have h1 : toks tk (j + 1) = none := by rw [toks_step h, hn]; rfl
  have := toks_up h1 (2 - j)
  rwa [show j + 1 + (2 - j) = 3 by omega] at this
theorem toks_yes {tk : Nat → Nat → Option (Int × Nat)} {j : Nat} {l : List Int} {a c : Nat} {v : Int} (h : toks tk j = some (l, a)) (hn : tk j a = some (v, c)) : toks tk (j + 1) = some (l ++ [v], c) := by rw [toks_step h, hn]; rfl
theorem hdP_t (h : hdP xs = true) : 2 ≤ xs.length ∧ rd xs 0 = 80 ∧ (rd xs 1 = 53 ∨ rd xs 1 = 54) := of_decide_eq_true h
end
end Go.Proofs.YtilpoinhfiajcaaGreatDoorV

/- Package picture: Pnm. -/
namespace Go.Proofs.YtilpoinhfiajcaaGreatDoorV
open Go Go.RowKit
section
variable {b : Value} {xs : List Int} {w : World}
theorem Fr.sg {w0 w : World} {F : List It} {ad : Addr} {a : Nat} (h : Fr w0 w F) (i : Nat) (hi : F[i]? = some (sIt ad [b, .int .i64 a])) (hb : Nm .u8 w0 b xs) (ha : a ≤ xs.length) (hl : xs.length ≤ 1000000000) : SG w ad b xs a :=
  ⟨h.get i hi, hb.ev h.old, fun hx hg => by
    have h1 := (h.ft i hi (k := ad.block) rfl).1
    have h2 := hb.old hx hg
    omega, ha, hl⟩
theorem Fr.gs {w0 w w' : World} {F : List It} {ad : Addr} {a a2 : Nat} (h : Fr w0 w F) (i : Nat) (hi : F[i]? = some (sIt ad [b, .int .i64 a])) (g : GS w w' ad b xs a2) : Fr w0 w' (F.set i (sIt ad [b, .int .i64 a2])) :=
  h.upd i hi g.2 (fun k _ hh => .inl hh.1) g.1.1 fun k hk => .inl hk
theorem numPI_at {a : Nat} {m : Int} (ha : a ≤ xs.length) : (numPI xs a m).2 ≤ xs.length ∧ 0 ≤ (numPI xs a m).1 := by
  have hr := runL_bd (xs := xs) (f := 6) (v := 0) ha
  have hn := runL_nn (xs := xs) (f := 6) (a := a) (v := 0) (by omega)
  unfold numPI
  split
  · exact ⟨by dsimp only; omega, by dsimp only; omega⟩
  · split
    · exact ⟨by dsimp only; omega, by dsimp only; omega⟩
    · exact ⟨by dsimp only; omega, hn⟩
def qP (j : Nat) : Nat := if j < 2 then j else 4
theorem qP_rng (j : Nat) : qP j < 5 := by unfold qP; split <;> omega
/-- The picture's cells, told so far. -/
def pcsP (pl : Int) (l : List Int) : List Value := (Pc.mk (l.getD 0 0) (l.getD 1 0) pl 0 (l.getD 2 0)).c
theorem pcsP_set {l : List Int} {j : Nat} {pl v : Int} (hl : l.length = j) (hj : j < 3) : (pcsP pl l).set (qP j) (.int .i64 v) = pcsP pl (l ++ [v]) := by
  have : j = 0 ∨ j = 1 ∨ j = 2 := by omega
  unfold pcsP
  rcases this with rfl | rfl | rfl
  · obtain rfl : l = [] := List.eq_nil_of_length_eq_zero hl
    rfl
  · obtain ⟨a, rfl⟩ := List.length_eq_one_iff.1 hl
    rfl
  · obtain ⟨a, b, rfl⟩ : ∃ a b, l = [a, b] := by
      match l, hl with
      | [a, b], _ => exact ⟨a, b, rfl⟩
    rfl
/-- What is asked for, three times. -/
def litP (p4 : Addr) : List Value := [.pointer (some (p4.add 0)), .int .i64 32768, .pointer (some (p4.add 1)), .int .i64 32768, .pointer (some (p4.add 4)), .int .i64 255]
theorem litP_at {p4 : Addr} {j : Nat} (hj : j < 3) : (litP p4)[j * 2 + 0]? = some (.pointer (some (p4.add (qP j)))) ∧ (litP p4)[j * 2 + 1]? = some (.int .i64 (moP j)) := by
  have : j = 0 ∨ j = 1 ∨ j = 2 := by omega
  rcases this with rfl | rfl | rfl <;> exact ⟨rfl, rfl⟩
theorem Pnm_any (hb : Nm .u8 w b xs) (hl : xs.length ≤ 1000000000) : Calls P n_picture_Pnm #[b] w (PicE w (pnmP xs)) := by
  have bad : ∀ {w1 : World} {F : List It} {ad : Addr} {cs : List Value}, Fr w w1 F → ∀ (i : Nat), F[i]? = some (sIt ad cs) → cs.length = 5 → pnmP xs = no →
      gStore P t_api_Picture (.pointer (some ad)) (.agg #[.int .i64 0, .int .i64 0, .int .i64 0, .int .i64 0, .int .i64 0]) w1 fun ww => gLoad P t_api_Picture (.part (.agg [.int .i64, .int .i64, .int .i64, .int .i64, .int .i64])) (.pointer (some ad)) ww fun (r0_0 : Int) (r0_1 : Int) (r0_2 : Int) (r0_3 : Int) (r0_4 : Int) => PicE w (pnmP xs) (.returned (.tuple #[.agg #[.int .i64 r0_0, .int .i64 r0_1, .int .i64 r0_2, .int .i64 r0_3, .int .i64 r0_4], .bool false])) ww :=
    fun f i hi hc hno => fPicEnd (r := no) f i hi hc (by rw [hno])
  have nohd : hdP xs = false → pnmP xs = no := fun h => by unfold pnmP; rw [h, if_neg (by simp)]
  refine of_picture_Pnm (fPicNew (Fr.start w) fun t2 w1 f1 => fPicNew f1 fun p4 w2 f2 => fPicSet f2 0 rfl rfl fun w3 f3 => ⟨fun w' => hdP xs = true ∧ Fr w w' [sIt p4 (Pc.mk 0 0 (plP xs) 0 0).c, sIt t2 Pc.z.c], ⟨fun t w' => t = !hdP xs ∧ w3 = w', ?_, ?_⟩, ?_⟩)
  · have hbw := hb.ev f3.old
    have n1 : ∀ {t : Bool}, t = true → ¬ (2 ≤ xs.length ∧ rd xs 0 = 80 ∧ (rd xs 1 = 53 ∨ rd xs 1 = 54)) → t = !hdP xs := fun ht h => by rw [ht, hdP, decide_eq_false h]; rfl
    have n2 : ∀ {t : Bool}, t = false → (2 ≤ xs.length ∧ rd xs 0 = 80 ∧ (rd xs 1 = 53 ∨ rd xs 1 = 54)) → t = !hdP xs := fun ht h => by rw [ht, hdP, decide_eq_true h]; rfl
    refine gLen_nm hb (gIf_ndec (fun h2 => gIdx_nm hbw (by omega) (by omega) fun a1 c1 _ => gLoad_i c1 (gIf_nneq (fun e80 => gIdx_nm hbw (by omega) (by omega) fun a2 c2 _ => gLoad_i c2 (gIf_neq (fun n53 => gIdx_nm hbw (by omega) (by omega) fun a3 c3 _ => gLoad_i c3 ⟨?_, rfl⟩) (fun e53 => ⟨n2 rfl (by omega), rfl⟩))) (fun n80 => ⟨n1 rfl (by omega), rfl⟩))) (fun h2 => ⟨n1 rfl (by omega), rfl⟩))
    by_cases e54 : rd xs 1 = 54
    · exact n2 (by simp [e54]) (by omega)
    · exact n1 (by simp [e54]) (by omega)
  · rintro _ _ _ ⟨rfl, rfl⟩
    have hbw := hb.ev f3.old
    cases hd : hdP xs with
    | false => exact gIf_nf (bad f3 1 rfl rfl (nohd hd))
    | true =>
      obtain ⟨h2, e80, e5⟩ := hdP_t hd
      refine gIf_nt (gIdx_nm hbw (by omega) (by omega) fun a1 c1 _ => gLoad_i c1 (gIf_eq (fun e54 => fStore f3 0 2 rfl fun w8 f8 => ⟨rfl, ?_⟩) (fun n54 => ⟨rfl, ?_⟩)))
      · have : plP xs = 3 := by unfold plP; rw [if_pos e54]
        rw [this]; exact f8
      · have : plP xs = 1 := by unfold plP; rw [if_neg n54]
        rw [this]; exact f3
  rintro _ w7 ⟨hd, f7⟩
  obtain ⟨h2, e80, e5⟩ := hdP_t hd
  have hpl := plP_rng xs
  refine ⟨hb.one, fBox f7 fun t40 w8 f8 => fLit_sz 2 [[.pointer (some (p4.add 0)), .int .i64 32768], [.pointer (some (p4.add 1)), .int .i64 32768], [.pointer (some (p4.add 4)), .int .i64 255]] f8 rfl rfl (by simp) (fun lt w9 f9 => gLen_sl ⟨fun t49 w' => ∃ (j : Nat) (l : List Int) (a : Nat), t49 = j ∧ j ≤ 3 ∧ toks (tkP xs) j = some (l, a) ∧ Fr w w' [sIt lt (litP p4), sIt t40 [b, .int .i64 a], sIt p4 (pcsP (plP xs) l), sIt t2 Pc.z.c], fun i _ => 3 - i.toNat, ⟨0, [], 2, rfl, by omega, rfl, f9⟩, ?_⟩) (hz := by decide +kernel)⟩
  rintro _ i w10 ⟨j, l, a, rfl, hj, ht, f10⟩
  have hbw := hb.ev f10.old
  have hal : a ≤ xs.length := toks_at (fun ha h => (tokP_at ha h).1) h2 ht
  have hll := toks_len ht
  have nott : toks (tkP xs) 3 = none → pnmP xs = no := fun h => by unfold pnmP; rw [hd, if_pos rfl, h]
  refine gIf_dec (fun hlt => ?_) (fun hge => ?_)
  · have hj3 : j < 3 := by omega
    have hlj := litP_at (p4 := p4) hj3
    refine gIdx_lit (sz := 2) j rfl hj3 (gLoad_agg [.pointer (some (p4.add (qP j))), .int .i64 (moP j)] (fun q u hq => ?_) ?_ rfl (by kernel_rfl))
    · rw [Addr.add2']
      match q, hq with
      | 0, hq => injection hq with hq; subst hq; exact f10.cell 0 _ rfl hlj.1
      | 1, hq => injection hq with hq; subst hq; exact f10.cell 0 _ rfl hlj.2
      | q + 2, hq => simp at hq
    show gAlloc _ _ _ _
    refine fAlloc (z := .agg #[.pointer none, .int .i64 0]) f10 (by kernel_rfl) fun x7 w11 f11 => fStoreA f11 0 rfl fun w12 f12 => ?_
    have hk : (blankI xs a).2 ≤ xs.length := (blankL_bd (xs := xs) (f := xs.length + 1 - a) hal).2
    refine gCall_b (blank_any (f12.sg 2 rfl hb hal hl)) fun w13 h13 => ?_
    have f13 := f12.gs 2 rfl h13
    refine gIf_of (fun hbt => ?_) (fun hbt => ?_)
    · refine bad f13 4 rfl rfl (nott (toks_no ht hj3 ?_))
      show tokP xs (moP j) a = none
      unfold tokP
      rw [if_neg]
      rintro ⟨q1, q2, _⟩
      rw [q1, decide_eq_true q2] at hbt; cases hbt
    have hbt2 : (blankI xs a).1 = true ∧ (blankI xs a).2 > a := by simpa using hbt
    have n13 := numPI_at (m := moP j) hk
    refine ⟨fun w' => w'.cell? (x7.add 0) = some (.pointer (some (p4.add (qP j)))) ∧ w'.cell? (x7.add 1) = some (.int .i64 (moP j)), ⟨f13.drew.cell 0 0 rfl rfl, f13.drew.cell 0 1 rfl rfl⟩, gLoadB_p (fun _ h => h.1) (gLoadB_i (fun _ h => h.2) (gCall_i (number_any (f13.drew.sg 2 rfl hb hk hl)) fun w15 h15 => ?_))⟩
    have f15 := f13.drew.gs 2 rfl h15
    refine ⟨⟨f15.cell 0 0 rfl rfl, f15.cell 0 1 rfl rfl⟩, gNil_some (fStore f15 3 (qP j) rfl (hj := by show qP j < 5; exact qP_rng j) fun w16 f16 => ⟨⟨f16.cell 0 0 rfl rfl, f16.cell 0 1 rfl rfl⟩, fLoad_p f16 0 0 rfl rfl (gNil_some ?_)⟩)⟩
    have hset : (pcsP (plP xs) l).set (qP j) (.int .i64 (numPI xs (blankI xs a).2 (moP j)).1) = pcsP (plP xs) (l ++ [(numPI xs (blankI xs a).2 (moP j)).1]) := pcsP_set hll hj3
    have hat : ((pcsP (plP xs) l).set (qP j) (.int .i64 (numPI xs (blankI xs a).2 (moP j)).1))[qP j]? = some (.int .i64 (numPI xs (blankI xs a).2 (moP j)).1) := List.getElem?_set_self (by show qP j < 5; exact qP_rng j)
    refine fLoad_i f16 3 (qP j) rfl hat (gIf_eq (fun e0 => ?_) (fun n0 => ?_))
    · refine bad f16 4 rfl rfl (nott (toks_no ht hj3 ?_))
      show tokP xs (moP j) a = none
      unfold tokP
      rw [if_neg]
      rintro ⟨_, _, q3⟩; exact q3 e0
    · rw [i64_id (n := (j : Int) + 1) (by omega) (by omega)]
      refine ⟨⟨j + 1, _, _, rfl, hj3, toks_yes ht (v := (numPI xs (blankI xs a).2 (moP j)).1) (c := (numPI xs (blankI xs a).2 (moP j)).2) ?_, ?_⟩, by dsimp only; omega⟩
      · show tokP xs (moP j) a = _
        unfold tokP
        rw [if_pos ⟨hbt2.1, hbt2.2, n0⟩]
      · rw [← hset]
        exact f16.drop 0
  · obtain rfl : j = 3 := by omega
    have hends : pnmP xs = endP xs l a := by unfold pnmP; rw [hd, if_pos rfl, ht]
    have tb := (toks_iff.1 ht).2
    have b0 : 1 ≤ l.getD 0 0 ∧ l.getD 0 0 ≤ 32768 := tb 0 (by omega)
    have b1 : 1 ≤ l.getD 1 0 ∧ l.getD 1 0 ≤ 32768 := tb 1 (by omega)
    refine gCall_b (is_any (pf := whiteB) (by kernel_rfl) white_any (f10.sg 1 rfl hb hal hl)) fun w18 h18 => ?_
    have f18 := f10.ev h18
    by_cases hc : a < xs.length ∧ whiteB (rd xs a) = true
    · rw [decide_eq_true hc.1, hc.2]
      have hst : 0 ≤ l.getD 0 0 * plP xs ∧ l.getD 0 0 * plP xs ≤ 98304 := by rcases hpl with e | e <;> rw [e] <;> omega
      have hsh : 0 ≤ l.getD 0 0 * plP xs * l.getD 1 0 ∧ l.getD 0 0 * plP xs * l.getD 1 0 ≤ 98304 * 32768 := ⟨Int.mul_nonneg hst.1 (by omega), Int.mul_le_mul hst.2 b1.2 (by omega) (by omega)⟩
      refine gIf_nt ⟨fun w' => w'.cell? (t40.add 1) = some (.int .i64 (a : Int)) ∧ w'.cell? (p4.add 0) = some (.int .i64 (l.getD 0 0)) ∧ w'.cell? (p4.add 2) = some (.int .i64 (plP xs)), ⟨f18.drew.cell 1 1 rfl rfl, f18.drew.cell 2 0 rfl rfl, f18.drew.cell 2 2 rfl rfl⟩, gNil_some (gLoadB_i (fun _ h => h.1) (gLoadB_i (fun _ h => h.2.1) (gLoadB_i (fun _ h => h.2.2) (fStore f18.drew 2 4 rfl fun w20 f20 => ⟨⟨f20.cell 1 1 rfl rfl, f20.cell 2 0 rfl rfl, f20.cell 2 2 rfl rfl⟩, fStore f20 2 3 rfl fun w21 f21 => ⟨⟨f21.cell 1 1 rfl rfl, f21.cell 2 0 rfl rfl, f21.cell 2 2 rfl rfl⟩, ?_⟩⟩))))⟩
      rw [i64_id (n := l.getD 0 0 * plP xs) (by omega) (by omega), show i64 ((a : Int) + 1) = ((a + 1 : Nat) : Int) by rw [i64_id (by omega) (by omega)]; omega] at f21
      refine fPic (pcP xs l a) f21 2 rfl (gLen_nm hb (gCall_pic (rightPc_any (a := (pcP xs l a).wd) (b := (pcP xs l a).ht) (c := (pcP xs l a).pl) (d := (pcP xs l a).st) (e := (pcP xs l a).fr) hsh.1 (by have := hsh.2; show l.getD 0 0 * plP xs * l.getD 1 0 ≤ _; omega) (by show (0 : Int) ≤ ((a + 1 : Nat) : Int); omega) (by show ((a + 1 : Nat) : Int) ≤ 1000000000000; omega)) fun w22 h22 => ?_))
      have f22 := f21.ev h22
      refine fPicEnd f22 3 rfl rfl ?_
      rw [hends]; unfold endP; rw [if_pos hc]
    · have hcf : (decide (a < xs.length) && whiteB (rd xs a)) = false := by
        rw [Bool.eq_false_iff]; intro hh; rw [Bool.and_eq_true, decide_eq_true_eq] at hh; exact hc hh
      rw [hcf]
      exact gIf_nf (bad f18 3 rfl rfl (by rw [hends]; unfold endP; rw [if_neg hc]))
end
end Go.Proofs.YtilpoinhfiajcaaGreatDoorV

/- Package picture: Bmp, and the same of valiseref16. -/
namespace Go.Proofs.YtilpoinhfiajcaaGreatDoorV
open Go Go.RowKit
def fld (xs : List Int) (at' n : Nat) : Int := leN ((xs.drop at').take n)
def hB (xs : List Int) : Int := if i32 (fld xs 22 4) < 0 then -(i32 (fld xs 22 4)) else i32 (fld xs 22 4)
def badB (xs : List Int) : Bool := decide (fld xs 10 4 < 54 ∨ fld xs 14 4 < 40 ∨ ¬ (1 ≤ fld xs 18 4 ∧ fld xs 18 4 ≤ 32768) ∨ ¬ (1 ≤ hB xs ∧ hB xs ≤ 32768) ∨ fld xs 26 2 ≠ 1 ∨ (fld xs 28 2 ≠ 24 ∧ fld xs 28 2 ≠ 8) ∨ fld xs 30 4 ≠ 0)
def pcB (xs : List Int) : Pc := ⟨fld xs 18 4, hB xs, fld xs 28 2 / 8, (fld xs 18 4 * (fld xs 28 2 / 8) + 3) / 4 * 4, fld xs 10 4⟩
def hdB (xs : List Int) : Bool := decide (54 ≤ xs.length ∧ rd xs 0 = 66 ∧ rd xs 1 = 77)
def bmpP (xs : List Int) : Pc × Bool := if hdB xs = true then (if badB xs = true then no else rightP (pcB xs) xs.length) else no
theorem fld_rng {xs : List Int} (hx : inR .u8 xs) (at' n : Nat) (hn : n ≤ 4) : 0 ≤ fld xs at' n ∧ fld xs at' n < 4294967296 := by
  have h := leN_bd ((hx.drop at').take n)
  have hp : ((2 ^ (8 * ((xs.drop at').take n).length) : Nat) : Int) ≤ ((4294967296 : Nat) : Int) :=
    Int.ofNat_le.2 (Nat.le_trans (Nat.pow_le_pow_right (by decide) (show 8 * ((xs.drop at').take n).length ≤ 32 by rw [List.length_take]; omega)) (by decide))
  exact ⟨h.1, Int.lt_of_lt_of_le h.2 hp⟩
theorem rawR_in {ys : List Int} {a n : Nat} (h : a + n ≤ ys.length) : rawR ys a 0 n = ((ys.drop a).take n, a + n, 0) := by
  unfold rawR
  by_cases h0 : n = 0
  · subst h0; simp
  · rw [if_neg (by omega), if_neg (by omega), Int.toNat_natCast]
section
variable {w0 w : World} {F : List It} {b : Value} {xs : List Int}
theorem little_any {p ad : Addr} {y : Value} {a : Nat} {er n : Int} {w : World} (hp : w.cell? (p.add 0) = some (.pointer (some ad))) (h : Rd w ad y xs a er) : Calls P n_picture_parser_little #[.pointer (some p), .int .i64 n] w (fun e w' => e = .returned (.int .i64 (i64 (leN (rawR xs a er (if 8 < n then 8 else n)).1))) ∧ RS w w' ad y xs (rawR xs a er (if 8 < n then 8 else n)).2.1 (rawR xs a er (if 8 < n then 8 else n)).2.2) :=
  of_picture_parser_little (gNil_some (gLoad_p hp (gCall_i (rLittle_any h) fun w1 h1 => ⟨rfl, h1⟩)))
theorem fLit44 {p ad t2 : Addr} {y : Value} {cs : List Value} {K : Int → World → Prop} (a n q : Nat) (hq : 10 + a = q) (hn : n ≤ 4) (hx : inR .u8 xs) (hl : 54 ≤ xs.length) (h : Fr w0 w [sIt p [.pointer (some ad)], sIt ad [y, .int .i64 a, .int .i64 0], oIt .u8 eB y ((xs.drop 10).take 44), sIt t2 cs]) (ha : a + n ≤ 44)
    (hk : ∀ w', Fr w0 w' [sIt p [.pointer (some ad)], sIt ad [y, .int .i64 ((a + n : Nat) : Int), .int .i64 0], oIt .u8 eB y ((xs.drop 10).take 44), sIt t2 cs] → K (fld xs q n) w') : gCall P n_picture_parser_little (shI .i64) #[.pointer (some p), .int .i64 (n : Int)] w K := by
  subst hq
  have hlen : ((xs.drop 10).take 44).length = 44 := by rw [List.length_take, List.length_drop]; omega
  refine gCall_i (little_any (h.cell 0 0 rfl rfl) (h.rd 1 2 rfl rfl (by decide) (by rw [hlen]; omega) (by rw [hlen]; omega))) fun w' h' => ?_
  rw [if_neg (show ¬ (8 : Int) < (n : Int) by omega), rawR_in (by rw [hlen]; omega)] at h' ⊢
  have e : (((xs.drop 10).take 44).drop a).take n = (xs.drop (10 + a)).take n := by
    rw [List.drop_take, List.take_take, List.drop_drop, Nat.min_eq_left (by omega)]
  have r := fld_rng hx (10 + a) n hn
  dsimp only
  rw [e, show leN ((xs.drop (10 + a)).take n) = fld xs (10 + a) n from rfl, i64_id (by omega) (by omega)]
  exact hk w' (h.rs 1 rfl h')
theorem side_any {n : Int} {w : World} : Calls P n_picture_side #[.int .i64 n] w (fun e w' => e = .returned (.bool (decide (1 ≤ n ∧ n ≤ 32768))) ∧ w' = w) := by
  refine of_picture_side (gIf_dec (fun h => ⟨?_, rfl⟩) (fun h => ⟨?_, rfl⟩))
  · congr 2; exact decide_eq_decide.2 ⟨fun h2 => ⟨h, h2⟩, fun h2 => h2.2⟩
  · rw [decide_eq_false (fun h2 => h h2.1)]
theorem take2 (h : 2 ≤ xs.length) {c d : Int} : xs.take 2 = [c, d] ↔ rd xs 0 = c ∧ rd xs 1 = d := by
  match xs, h with
  | a :: a2 :: r, _ => simp [rd]
theorem i32_rgP (n : Int) : -2147483648 ≤ i32 n ∧ i32 n ≤ 2147483647 := by rw [i32_def]; omega
theorem Bmp_any (hb : Nm .u8 w b xs) (hl : xs.length ≤ 1000000000) : Calls P n_picture_Bmp #[b] w (PicE w (bmpP xs)) := by
  have bad : ∀ {w1 : World} {F : List It} {ad : Addr} {cs : List Value}, Fr w w1 F → ∀ (i : Nat), F[i]? = some (sIt ad cs) → cs.length = 5 → bmpP xs = no →
      gStore P t_api_Picture (.pointer (some ad)) (.agg #[.int .i64 0, .int .i64 0, .int .i64 0, .int .i64 0, .int .i64 0]) w1 fun ww => gLoad P t_api_Picture (.part (.agg [.int .i64, .int .i64, .int .i64, .int .i64, .int .i64])) (.pointer (some ad)) ww fun (r0_0 : Int) (r0_1 : Int) (r0_2 : Int) (r0_3 : Int) (r0_4 : Int) => PicE w (bmpP xs) (.returned (.tuple #[.agg #[.int .i64 r0_0, .int .i64 r0_1, .int .i64 r0_2, .int .i64 r0_3, .int .i64 r0_4], .bool false])) ww :=
    fun f i hi hc hno => fPicEnd (r := no) f i hi hc (by rw [hno])
  have nohd : ¬ (54 ≤ xs.length ∧ rd xs 0 = 66 ∧ rd xs 1 = 77) → bmpP xs = no := fun h => by unfold bmpP hdB; rw [decide_eq_false h, if_neg (by simp)]
  refine of_picture_Bmp (fPicNew (Fr.start w) fun t2 w1 f1 => ⟨fun w' => (54 ≤ xs.length ∧ rd xs 0 = 66 ∧ rd xs 1 = 77) ∧ Fr w w' [sIt t2 Pc.z.c], gLen_nm hb (gIf_ndec (fun h54 => ?_) (fun h54 => bad f1 0 rfl rfl (nohd (by omega)))), ?_⟩)
  · refine gSlice_nm (hb.ev f1.old) 0 2 (.inl ⟨rfl, rfl⟩) (.inr ⟨_, rfl⟩) (by omega) (by omega) fun hs => gConv_bs hs ?_
    have e2 : (ByteArray.mk #[66, 77]) = bsOf [66, 77] := by decide
    have hr2 : inR .u8 [66, 77] := fun x hx => by simp at hx; rcases hx with rfl | rfl <;> decide
    rw [e2, bsOf_eq hs.2 hr2]
    simp only [List.drop_zero, Nat.sub_zero]
    refine gIf_ndec (fun hne => bad f1 0 rfl rfl (nohd fun h => hne ((take2 (by omega)).2 h.2))) (fun he => ⟨?_, f1⟩)
    have := (take2 (by omega)).1 he
    omega
  rintro _ w5 ⟨hd, f5⟩
  have h54 := hd.1
  have hdt : hdB xs = true := decide_eq_true hd
  have hx := hb.2
  refine gSlice_nm (hb.ev f5.old) 10 54 (.inr ⟨_, rfl⟩) (.inr ⟨_, rfl⟩) (by omega) (by omega) fun hs => ?_
  have hlen : ((xs.drop 10).take 44).length = 44 := by rw [List.length_take, List.length_drop]; omega
  refine fNew f5 hs (by rw [hlen]; omega) fun ad y w6 f6 => fBox f6 fun p w7 f7 => ?_
  refine fLit44 0 4 10 rfl (by omega) hx h54 f7 (by omega) fun w8 f8 => fLit44 4 4 14 rfl (by omega) hx h54 f8 (by omega) fun w9 f9 => fLit44 8 4 18 rfl (by omega) hx h54 f9 (by omega) fun w10 f10 => fLit44 12 4 22 rfl (by omega) hx h54 f10 (by omega) fun w11 f11 => fLit44 16 2 26 rfl (by omega) hx h54 f11 (by omega) fun w12 f12 => fLit44 18 2 28 rfl (by omega) hx h54 f12 (by omega) fun w13 f13 => fLit44 20 4 30 rfl (by omega) hx h54 f13 (by omega) fun w14 f14 => ?_
  have f14 := ((f14.drop 0).drop 0).drop 0
  have r10 := fld_rng hx 10 4 (by omega)
  have r14 := fld_rng hx 14 4 (by omega)
  have r18 := fld_rng hx 18 4 (by omega)
  have r28 := fld_rng hx 28 2 (by omega)
  have r22 := i32_rgP (fld xs 22 4)
  have hyes : badB xs = true → bmpP xs = no := fun h => by unfold bmpP; rw [hdt, if_pos rfl, if_pos h]
  show ∃ J1 : Int → World → Prop, _
  refine ⟨fun h w' => h = hB xs ∧ w14 = w', ?_, ?_⟩
  · show gIf (decide (i64 (i32 (fld xs 22 4)) < 0)) _ _
    rw [i64_id (n := i32 (fld xs 22 4)) (by omega) (by omega)]
    refine gIf_dec (fun h => ⟨?_, rfl⟩) (fun h => ⟨?_, rfl⟩)
    · unfold hB; rw [if_pos h, i64_id (by omega) (by omega)]; omega
    · unfold hB; rw [if_neg h]
  rintro _ _ _ ⟨rfl, rfl⟩
  refine ⟨fun w' => badB xs = false ∧ w14 = w', ⟨fun t w' => t = badB xs ∧ w14 = w', ?_, ?_⟩, ?_⟩
  · have tr : ∀ {c : Prop}, c → (c → (fld xs 10 4 < 54 ∨ fld xs 14 4 < 40 ∨ ¬ (1 ≤ fld xs 18 4 ∧ fld xs 18 4 ≤ 32768) ∨ ¬ (1 ≤ hB xs ∧ hB xs ≤ 32768) ∨ fld xs 26 2 ≠ 1 ∨ (fld xs 28 2 ≠ 24 ∧ fld xs 28 2 ≠ 8) ∨ fld xs 30 4 ≠ 0)) → true = badB xs ∧ w14 = w14 := fun hc h => ⟨(decide_eq_true (h hc)).symm, rfl⟩
    refine gIf_ndec (fun c1 => gIf_ndec (fun c2 => gCall_b0 side_any (gIf_nndec (fun c3 => gCall_b0 side_any (gIf_nndec (fun c4 => gIf_nneq (fun c5 => ?_) (fun c5 => tr c5 fun h => .inr (.inr (.inr (.inr (.inl h)))))) (fun c4 => tr c4 fun h => .inr (.inr (.inr (.inl h)))))) (fun c3 => tr c3 fun h => .inr (.inr (.inl h))))) (fun c2 => tr c2 fun h => .inr (.inl h))) (fun c1 => tr c1 fun h => .inl h)
    have fin : (fld xs 28 2 = 24 ∨ fld xs 28 2 = 8) → (fld xs 30 4 != 0) = badB xs ∧ w14 = w14 := fun h => by
      refine ⟨?_, rfl⟩
      unfold badB
      by_cases c6 : fld xs 30 4 = 0
      · rw [decide_eq_false (by omega)]; simp [c6]
      · rw [decide_eq_true (by omega)]; simp [c6]
    exact gIf_neq (fun c6 => gIf_nneq (fun c7 => fin (.inr c7)) (fun c7 => tr (And.intro c6 c7) fun h => .inr (.inr (.inr (.inr (.inr (.inl h))))))) (fun c6 => fin (.inl c6))
  · rintro _ _ _ ⟨rfl, rfl⟩
    refine gIf_b (fun h => bad f14 0 rfl rfl (hyes h)) (fun h => ⟨h, rfl⟩)
  rintro _ _ ⟨hok, rfl⟩
  have hc := of_decide_eq_false hok
  have hfin : bmpP xs = rightP (pcB xs) xs.length := by unfold bmpP; rw [hdt, if_pos rfl, if_neg (by rw [hok]; simp)]
  have e41 : i64 (Int.tdiv (fld xs 28 2) 8) = fld xs 28 2 / 8 := by rw [Int.tdiv_eq_ediv_of_nonneg (by omega), i64_id (by omega) (by omega)]
  have hpl : fld xs 28 2 / 8 = 3 ∨ fld xs 28 2 / 8 = 1 := by omega
  have hm : 1 ≤ fld xs 18 4 * (fld xs 28 2 / 8) ∧ fld xs 18 4 * (fld xs 28 2 / 8) ≤ 98304 := by rcases hpl with e | e <;> rw [e] <;> omega
  refine fPicNew f14 fun p12 w21 f21 => ?_
  show gStore P t_api_Picture (.pointer (some p12)) (.agg #[.int .i64 (fld xs 18 4), .int .i64 (hB xs), .int .i64 (i64 (Int.tdiv (fld xs 28 2) 8)), .int .i64 0, .int .i64 (fld xs 10 4)]) _ _
  rw [e41]
  refine fPicSet f21 0 rfl rfl fun w22 f22 => fLoad_i f22 0 2 rfl rfl ?_
  show gStore P t_int (.pointer (some (Addr.add p12 3))) (.int .i64 (i64 (i64 (Int.tdiv (i64 (i64 (fld xs 18 4 * (fld xs 28 2 / 8)) + 3)) 4) * 4))) _ _
  rw [i64_id (n := fld xs 18 4 * (fld xs 28 2 / 8)) (by omega) (by omega), i64_id (n := fld xs 18 4 * (fld xs 28 2 / 8) + 3) (by omega) (by omega), Int.tdiv_eq_ediv_of_nonneg (by omega), i64_id (n := (fld xs 18 4 * (fld xs 28 2 / 8) + 3) / 4) (by omega) (by omega), i64_id (n := (fld xs 18 4 * (fld xs 28 2 / 8) + 3) / 4 * 4) (by omega) (by omega)]
  refine fStore f22 0 3 rfl fun w23 f23 => fPic (pcB xs) f23 0 rfl (gLen_nm hb ?_)
  have hsh : 0 ≤ (pcB xs).st * (pcB xs).ht ∧ (pcB xs).st * (pcB xs).ht ≤ 100000 * 32768 := ⟨Int.mul_nonneg (by unfold pcB; dsimp only; omega) (by unfold pcB; dsimp only; omega), Int.mul_le_mul (by unfold pcB; dsimp only; omega) (by unfold pcB; dsimp only; omega) (by unfold pcB; dsimp only; omega) (by omega)⟩
  refine gCall_pic (rightPc_any hsh.1 (by omega) (by unfold pcB; dsimp only; omega) (by unfold pcB; dsimp only; omega)) fun w24 h24 => ?_
  exact fPicEnd (f23.ev h24) 1 rfl rfl (by rw [hfin])
end
end Go.Proofs.YtilpoinhfiajcaaGreatDoorV

/- Package valiseref16: Bmp; Parse of both; awake of valiselaw16. -/
namespace Go.Proofs.YtilpoinhfiajcaaGreatDoorV
open Go Go.RowKit
section
variable {b : Value} {xs : List Int} {w : World}
def parseP (xs : List Int) : Pc × Bool := if (bmpP xs).2 = true then ((bmpP xs).1, true) else pnmP xs
theorem Parse_any (hb : Nm .u8 w b xs) (hl : xs.length ≤ 1000000000) : Calls P n_picture_Parse #[b] w (PicE w (parseP xs)) := by
  refine of_picture_Parse (fPicNew (Fr.start w) fun t2 w1 f1 => gCall_pic (Bmp_any (hb.ev f1.old) hl) fun w2 h2 => fPicNew (f1.ev h2) fun p4 w3 f3 => fPicSet f3 0 rfl rfl fun w4 f4 => gIf_b (fun h => fPic (bmpP xs).1 f4 0 rfl (fPicEnd (r := ((bmpP xs).1, true)) f4 1 rfl rfl ?_)) (fun h => gCall_pic (Pnm_any (hb.ev f4.old) hl) fun w6 h6 => fPicEnd (f4.ev h6) 1 rfl rfl ?_))
  · unfold parseP; rw [if_pos h]
  · unfold parseP; rw [if_neg (by rw [h]; simp)]
end
end Go.Proofs.YtilpoinhfiajcaaGreatDoorV

/- The laws PictureParses, PictureWithin. -/
namespace Go.Proofs.YtilpoinhfiajcaaGreatDoorV
open Go Go.RowKit
/-- What is told lies within. -/
def InP (p : Pc) (n : Int) : Prop := 1 ≤ p.wd ∧ p.wd ≤ 32768 ∧ 1 ≤ p.ht ∧ p.ht ≤ 32768 ∧ (p.pl = 1 ∨ p.pl = 3) ∧ p.wd * p.pl ≤ p.st ∧ p.st < p.wd * p.pl + 4 ∧ 2 ≤ p.fr ∧ p.fr + p.st * p.ht ≤ n
theorem right_in {p : Pc} {n : Int} (h : (rightP p n).2 = true) : rightP p n = (p, true) ∧ p.fr + p.st * p.ht ≤ n := by
  unfold rightP at h ⊢
  split
  · rename_i hc; rw [if_pos hc] at h; cases h
  · exact ⟨rfl, by omega⟩
theorem right_out {p : Pc} {n : Int} (h : (rightP p n).2 = false) : rightP p n = no := by
  unfold rightP at h ⊢
  split
  · rfl
  · rename_i hc; rw [if_neg hc] at h; cases h
theorem bmp_in {xs : List Int} (hx : inR .u8 xs) : ((bmpP xs).2 = true → InP (bmpP xs).1 xs.length) ∧ ((bmpP xs).2 = false → (bmpP xs).1 = Pc.z) := by
  unfold bmpP
  split
  · split
    · exact ⟨fun h => (by cases h), fun _ => rfl⟩
    · rename_i hd hbad
      refine ⟨fun h => ?_, fun h => by rw [right_out h]; rfl⟩
      obtain ⟨h1, h2⟩ := right_in h
      rw [h1]
      have hc : ¬ _ := fun hh => hbad (decide_eq_true hh)
      have r28 := fld_rng hx 28 2 (by omega)
      unfold InP
      have hpl : fld xs 28 2 / 8 = 3 ∨ fld xs 28 2 / 8 = 1 := by omega
      have hm : 1 ≤ fld xs 18 4 * (fld xs 28 2 / 8) ∧ fld xs 18 4 * (fld xs 28 2 / 8) ≤ 98304 := by rcases hpl with e | e <;> rw [e] <;> omega
      refine ⟨?_, ?_, ?_, ?_, ?_, ?_, ?_, ?_, h2⟩ <;> unfold pcB <;> dsimp only <;> omega
  · exact ⟨fun h => (by cases h), fun _ => rfl⟩
theorem pnm_in {xs : List Int} : ((pnmP xs).2 = true → InP (pnmP xs).1 xs.length) ∧ ((pnmP xs).2 = false → (pnmP xs).1 = Pc.z) := by
  unfold pnmP
  split
  · split
    · rename_i l a ht
      have tb := (toks_iff.1 ht).2
      have b0 : 1 ≤ l.getD 0 0 ∧ l.getD 0 0 ≤ 32768 := tb 0 (by omega)
      have b1 : 1 ≤ l.getD 1 0 ∧ l.getD 1 0 ≤ 32768 := tb 1 (by omega)
      have ha : 2 ≤ a := by
        have mono : ∀ {j : Nat} {l : List Int} {a : Nat}, toks (tkP xs) j = some (l, a) → 1 ≤ a := by
          intro j
          cases j with
          | zero => intro l a h; simp [toks] at h; omega
          | succ j =>
            intro l a h
            simp only [toks, Option.bind_eq_some_iff, Option.map_eq_some_iff, Prod.mk.injEq] at h
            obtain ⟨⟨l1, a1⟩, h1, ⟨v, q⟩, h2', _, rfl⟩ := h
            dsimp only at *
            have h2' : tokP xs (moP j) a1 = some (v, q) := h2'
            unfold tokP at h2'
            split at h2'
            · rename_i hc
              injection h2' with h2'
              have : (numPI xs (blankI xs a1).2 (moP j)).2 ≥ (blankI xs a1).2 := by
                unfold numPI; split
                · dsimp only; omega
                · split <;> dsimp only <;> omega
              rw [h2'] at this; dsimp only at this; omega
            · cases h2'
        -- the third step starts behind the second
        rw [show toks (tkP xs) 3 = (toks (tkP xs) 2).bind fun p => (tkP xs 2 p.2).map fun q => (p.1 ++ [q.1], q.2) from rfl] at ht
        simp only [Option.bind_eq_some_iff, Option.map_eq_some_iff, Prod.mk.injEq] at ht
        obtain ⟨⟨l2, a2⟩, h2, ⟨v, q⟩, h2', _, rfl⟩ := ht
        dsimp only at *
        have := mono h2
        have h2' : tokP xs (moP 2) a2 = some (v, q) := h2'
        unfold tokP at h2'
        split at h2'
        · rename_i hc
          injection h2' with h2'
          have : (numPI xs (blankI xs a2).2 (moP 2)).2 ≥ (blankI xs a2).2 := by
            unfold numPI; split
            · dsimp only; omega
            · split <;> dsimp only <;> omega
          rw [h2'] at this; dsimp only at this; omega
        · cases h2'
      unfold endP
      split
      · refine ⟨fun h => ?_, fun h => by rw [right_out h]; rfl⟩
        obtain ⟨h1, h2⟩ := right_in h
        rw [h1]
        unfold InP
        have hpl := plP_rng xs
        refine ⟨b0.1, b0.2, b1.1, b1.2, hpl, ?_, ?_, ?_, h2⟩ <;> unfold pcP <;> dsimp only <;> omega
      · exact ⟨fun h => (by cases h), fun _ => rfl⟩
    · exact ⟨fun h => (by cases h), fun _ => rfl⟩
  · exact ⟨fun h => (by cases h), fun _ => rfl⟩
theorem parse_in {xs : List Int} (hx : inR .u8 xs) : ((parseP xs).2 = true → InP (parseP xs).1 xs.length) ∧ ((parseP xs).2 = false → (parseP xs).1 = Pc.z) := by
  unfold parseP
  split
  · rename_i h; exact ⟨fun _ => (bmp_in hx).1 h, fun h => (by cases h)⟩
  · exact pnm_in
end Go.Proofs.YtilpoinhfiajcaaGreatDoorV

/- Packages colour and image, plain. -/
namespace Go.Proofs.YtilpoinhfiajcaaGreatDoorV
open Go Go.RowKit
/-! ### Colours -/
def turnAt (xs : List Int) (q : Nat) : Int := if q / 3 * 3 + 3 ≤ xs.length then (if q % 3 = 1 then rd xs q else u8 (rd xs q - rd xs ((q / 3 * 3 + 1 : Nat) : Int))) else rd xs q
def turnL (xs : List Int) : List Int := tab xs.length (turnAt xs)
theorem turnL_len (xs : List Int) : (turnL xs).length = xs.length := tab_len _ _
theorem u8_rg (n : Int) : 0 ≤ u8 n ∧ u8 n < 256 := by rw [u8_def]; omega
def turnP (L : Nat) (xs : List Int) : List Int := if L = 3 then turnL xs else xs
theorem turnP_len (L : Nat) (xs : List Int) : (turnP L xs).length = xs.length := by unfold turnP; split <;> simp [turnL_len]
/-! ### Rows -/
def rowX (xs : List Int) (F S W i : Nat) : List Int := (xs.drop (F + i * S)).take W
def gapX (xs : List Int) (F S W i : Nat) : List Int := (xs.drop (F + i * S + W)).take (S - W)
def pixN (xs : List Int) (F S W L : Nat) : Nat → List Int
  | 0 => []
  | i + 1 => pixN xs F S W L i ++ turnP L (rowX xs F S W i)
def besN (xs : List Int) (F S W : Nat) : Nat → List Int
  | 0 => []
  | i + 1 => besN xs F S W i ++ gapX xs F S W i
section
variable {xs : List Int} {F S W L H : Nat}
theorem row_bd (h : F + S * H ≤ xs.length) {i : Nat} (hi : i < H) : F + i * S + S ≤ xs.length := by
  have : (i + 1) * S ≤ H * S := Nat.mul_le_mul_right _ hi
  rw [Nat.add_mul, Nat.one_mul, Nat.mul_comm H S] at this; omega
theorem rowX_len (h : F + S * H ≤ xs.length) (hw : W ≤ S) {i : Nat} (hi : i < H) : (rowX xs F S W i).length = W := by
  have := row_bd h hi
  unfold rowX; rw [List.length_take, List.length_drop]; omega
theorem gapX_len (h : F + S * H ≤ xs.length) (hw : W ≤ S) {i : Nat} (hi : i < H) : (gapX xs F S W i).length = S - W := by
  have := row_bd h hi
  unfold gapX; rw [List.length_take, List.length_drop]; omega
theorem pixN_len (h : F + S * H ≤ xs.length) (hw : W ≤ S) : ∀ {i}, i ≤ H → (pixN xs F S W L i).length = i * W
  | 0, _ => by simp [pixN]
  | i + 1, hi => by rw [pixN, List.length_append, pixN_len h hw (show i ≤ H by omega), turnP_len, rowX_len h hw (show i < H by omega), Nat.add_mul, Nat.one_mul]
theorem besN_len (h : F + S * H ≤ xs.length) (hw : W ≤ S) : ∀ {i}, i ≤ H → (besN xs F S W i).length = i * (S - W)
  | 0, _ => by simp [besN]
  | i + 1, hi => by rw [besN, List.length_append, besN_len h hw (show i ≤ H by omega), gapX_len h hw (show i < H by omega), Nat.add_mul, Nat.one_mul]
end
/-! ### The pack -/
def packN (xs : List Int) (F Wd H L S : Nat) : List Int :=
  (numB xs.length ++ numB F ++ numB Wd ++ numB H ++ numB L ++ numB S) ++ (xs.take F ++ applyN (pixN xs F S (Wd * L) L H) (Wd * L) L H ++ besN xs F S (Wd * L) H ++ xs.drop (F + S * H))
def packP (xs : List Int) (p : Pc) : List Int := packN xs p.fr.toNat p.wd.toNat p.ht.toNat p.pl.toNat p.st.toNat
def packI (xs : List Int) : List Int × Bool := if (parseP xs).2 = true ∧ xs.length ≤ 1048576 then (packP xs (parseP xs).1, true) else ([], false)
end Go.Proofs.YtilpoinhfiajcaaGreatDoorV

/- Package colour: Turn, Back. -/
namespace Go.Proofs.YtilpoinhfiajcaaGreatDoorV
open Go Go.RowKit
section
variable {w0 w w' : World} {F : List It}
/-- The first i are turned. -/
def turnTo (g : List Int → Nat → Int) (xs : List Int) (i : Nat) : List Int := tab xs.length (fun q => if q < i then g xs q else rd xs q)
theorem turnTo_0 (g : List Int → Nat → Int) (xs : List Int) : turnTo g xs 0 = xs := by
  unfold turnTo
  rw [tab_ext (g := fun i => rd xs (i : Int)) (fun i _ => by rw [if_neg (by omega)])]
  exact tab_rd xs
theorem turnTo_len (g : List Int → Nat → Int) (xs : List Int) (i : Nat) : (turnTo g xs i).length = xs.length := tab_len _ _
theorem rd_turnTo {g : List Int → Nat → Int} {xs : List Int} {i q : Nat} (hq : q < xs.length) (h : i ≤ q) : rd (turnTo g xs i) (q : Int) = rd xs q := by
  unfold turnTo; rw [rd_tab hq, if_neg (by omega)]
theorem turnTo_end {g : List Int → Nat → Int} {xs : List Int} {i : Nat} (hi : i % 3 = 0) (h : xs.length < i + 3) (hg : ∀ q, ¬ q / 3 * 3 + 3 ≤ xs.length → g xs q = rd xs q) : turnTo g xs i = tab xs.length (g xs) :=
  tab_ext fun q hq => by
    split
    · rfl
    · rw [hg q (by omega)]
theorem turnTo_step {g : List Int → Nat → Int} {xs : List Int} {i : Nat} (hi : i % 3 = 0) (h : i + 3 ≤ xs.length) {a c : Int} (ha : g xs i = a) (hb : g xs (i + 1) = rd xs ((i + 1 : Nat) : Int)) (hc : g xs (i + 2) = c) : ((turnTo g xs i).set i a).set (i + 2) c = turnTo g xs (i + 3) := by
  unfold turnTo
  rw [tab_set (by omega), tab_set (by omega)]
  refine tab_ext fun q hq => ?_
  by_cases h2 : q = i + 2
  · subst h2; rw [if_pos rfl, if_pos (by omega), hc]
  · rw [if_neg h2]
    by_cases h0 : q = i
    · subst h0; rw [if_pos rfl, if_pos (by omega), ha]
    · rw [if_neg h0]
      by_cases h1 : q = i + 1
      · subst h1; rw [if_neg (by omega), if_pos (by omega), hb]
      · by_cases hlt : q < i
        · rw [if_pos hlt, if_pos (by omega)]
        · rw [if_neg hlt, if_neg (by omega)]
theorem Turn_any {b : Value} {xs : List Int} (hb : Nm .u8 w b xs) (hl : xs.length ≤ 1000000000) : Calls P n_colour_Turn #[b] w (NewB w (turnL xs)) := by
  refine of_colour_Turn (fApp0 (Fr.start w) hb (by omega) fun t9 w1 f1 => ?_)
  refine ⟨fun i w' => ∃ j : Nat, i = (j : Int) ∧ j % 3 = 0 ∧ j ≤ xs.length ∧ Fr w w' [oIt .u8 eB t9 (turnTo turnAt xs j)], fun i _ => (xs.length - i).toNat, ⟨0, rfl, rfl, Nat.zero_le _, by rw [turnTo_0]; exact f1⟩, ?_⟩
  rintro _ i w2 ⟨j, rfl, hj3, hjl, f2⟩
  have hn := f2.nm 0 rfl
  have hln := turnTo_len turnAt xs j
  refine gLen_nm hn ?_
  rw [hln, i64_id (n := (j : Int) + 3) (by omega) (by omega), i64_id (n := (j : Int) + 1) (by omega) (by omega), i64_id (n := (j : Int) + 2) (by omega) (by omega)]
  refine gIf_dec (fun hle => ?_) (fun hgt => ?_)
  · have hle' : j + 3 ≤ xs.length := by omega
    refine gGetB hn (by omega) (by omega) (fun _ => evDrew) (gGetB hn (by omega) (by omega) (fun _ => evDrew) (gGetB hn (by omega) (by omega) (fun _ => evDrew) ?_))
    rw [show (j : Int) + 1 = ((j + 1 : Nat) : Int) by omega, show (j : Int) + 2 = ((j + 2 : Nat) : Int) by omega, rd_turnTo (by omega) (Nat.le_refl _), rd_turnTo (by omega) (by omega), rd_turnTo (by omega) (by omega)]
    have r0 := rd_u8 hb.2 (j : Int)
    have r1 := rd_u8 hb.2 ((j + 1 : Nat) : Int)
    have r2 := rd_u8 hb.2 ((j + 2 : Nat) : Int)
    rw [i64_id (n := rd xs (j : Int)) (by omega) (by omega), i64_id (n := rd xs ((j + 1 : Nat) : Int)) (by omega) (by omega), i64_id (n := rd xs ((j + 2 : Nat) : Int)) (by omega) (by omega), i64_id (n := rd xs (j : Int) - rd xs ((j + 1 : Nat) : Int)) (by omega) (by omega), i64_id (n := rd xs ((j + 2 : Nat) : Int) - rd xs ((j + 1 : Nat) : Int)) (by omega) (by omega)]
    refine fSetO (j := j) f2.drew 0 rfl rfl (by omega) (u8i (u8_rg _)) fun w3 f3 => fSetO (j := j + 2) f3 0 rfl rfl (by rw [List.length_set]; omega) (u8i (u8_rg _)) fun w4 f4 => ?_
    have ha : turnAt xs j = u8 (rd xs (j : Int) - rd xs ((j + 1 : Nat) : Int)) := by unfold turnAt; rw [if_pos (by omega), if_neg (by omega), show j / 3 * 3 + 1 = j + 1 by omega]
    have hb' : turnAt xs (j + 1) = rd xs ((j + 1 : Nat) : Int) := by unfold turnAt; rw [if_pos (by omega), if_pos (by omega)]
    have hc : turnAt xs (j + 2) = u8 (rd xs ((j + 2 : Nat) : Int) - rd xs ((j + 1 : Nat) : Int)) := by unfold turnAt; rw [if_pos (by omega), if_neg (by omega), show (j + 2) / 3 * 3 + 1 = j + 1 by omega]
    have hst := turnTo_step hj3 hle' ha hb' hc
    have f4 : Fr w w4 [oIt .u8 eB t9 (((turnTo turnAt xs j).set j (u8 (rd xs (j : Int) - rd xs ((j + 1 : Nat) : Int)))).set (j + 2) (u8 (rd xs ((j + 2 : Nat) : Int) - rd xs ((j + 1 : Nat) : Int))))] := f4
    rw [hst] at f4
    exact ⟨⟨j + 3, by omega, by omega, hle', f4⟩, by dsimp only; omega⟩
  · rw [turnTo_end hj3 (by omega) (fun q hq => by unfold turnAt; rw [if_neg hq])] at f2
    exact ⟨t9, rfl, f2.old, f2.on 0 rfl⟩
end
end Go.Proofs.YtilpoinhfiajcaaGreatDoorV

/- What is packed is unpacked: no program in sight. -/
namespace Go.Proofs.YtilpoinhfiajcaaGreatDoorV
open Go Go.RowKit
section
variable {xs : List Int} {F Wd H L S : Nat}
theorem packN_eq : packN xs F Wd H L S = numsB [xs.length, F, Wd, H, L, S] ++ (xs.take F ++ (applyN (pixN xs F S (Wd * L) L H) (Wd * L) L H ++ (besN xs F S (Wd * L) H ++ xs.drop (F + S * H)))) := by
  unfold packN numsB; simp
end
/-- The picture's measures, as they are. -/
theorem inP_nat {p : Pc} {n : Nat} (h : InP p n) : ∃ F Wd H L S : Nat, p = ⟨Wd, H, L, S, F⟩ ∧ 1 ≤ Wd ∧ Wd ≤ 32768 ∧ 1 ≤ H ∧ H ≤ 32768 ∧ (L = 1 ∨ L = 3) ∧ Wd * L ≤ S ∧ F + S * H ≤ n := by
  obtain ⟨a1, a2, a3, a4, a5, a6, a7, a8, a9⟩ := h
  obtain ⟨wd, ht, pl, st, fr⟩ := p
  simp only at *
  have hst : 0 ≤ st := Int.le_trans (Int.mul_nonneg (by omega) (by omega)) a6
  refine ⟨fr.toNat, wd.toNat, ht.toNat, pl.toNat, st.toNat, ?_, by omega, by omega, by omega, by omega, by omega, ?_, ?_⟩
  · congr 1 <;> omega
  · have : ((wd.toNat * pl.toNat : Nat) : Int) = wd * pl := by rw [Int.natCast_mul, Int.toNat_of_nonneg (by omega), Int.toNat_of_nonneg (by omega)]
    omega
  · have : ((st.toNat * ht.toNat : Nat) : Int) = st * ht := by rw [Int.natCast_mul, Int.toNat_of_nonneg (by omega), Int.toNat_of_nonneg (by omega)]
    omega
theorem pack_len {xs : List Int} {F Wd H L S : Nat} (hl : xs.length ≤ 1048576) (h2 : Wd ≤ 32768) (h4 : H ≤ 32768) (h6 : L ≤ 3) (h7 : Wd * L ≤ S) (h8 : F + S * H ≤ xs.length) (hs : S ≤ xs.length) : (packN xs F Wd H L S).length ≤ xs.length + H + 60 := by
  have hb : ∀ q : Nat, q ≤ 1048576 → (numB q).length ≤ 10 := fun q hq => numB_len64 (by omega)
  have b1 := hb xs.length hl
  have b2 := hb F (by omega)
  have b3 := hb Wd (by omega)
  have b4 := hb H (by omega)
  have b5 := hb L (by omega)
  have b6 := hb S (by omega)
  have hpl := pixN_len (L := L) h8 h7 (Nat.le_refl H)
  unfold packN
  simp only [List.length_append, applyN_len hpl (Nat.le_refl H), besN_len h8 h7 (Nat.le_refl H), List.length_take, List.length_drop]
  have e : H * (Wd * L + 1) + H * (S - Wd * L) = S * H + H := by
    rw [← Nat.mul_add, Nat.mul_comm S H, ← Nat.mul_succ]; congr 1; omega
  omega
end Go.Proofs.YtilpoinhfiajcaaGreatDoorV

/- Package image: the packer's measures; Pack. -/
namespace Go.Proofs.YtilpoinhfiajcaaGreatDoorV
open Go Go.RowKit
/-- A packer's five numbers. -/
def pkC (F Wd H L S : Nat) : List Value := [.int .i64 Wd, .int .i64 H, .int .i64 L, .int .i64 S, .int .i64 F]
section
variable {w0 w w' : World} {G : List It} {F Wd H L S : Nat} {ad : Addr}
theorem add0 (ad : Addr) (n : Nat) : Addr.add (Addr.add ad 0) n = ad.add n := by rw [Addr.add_zero']
theorem wide_any (h : St w ad (pkC F Wd H L S)) (hb : Wd * L ≤ 1000000000000) : Calls P n_image_packer_wide #[.pointer (some ad)] w (fun e w' => e = .returned (.int .i64 ((Wd * L : Nat) : Int)) ∧ Ev w w') := by
  refine of_image_packer_wide (gNil_some ?_)
  rw [add0]
  refine gLoadB_i (at1 (h.cell (j := 0) rfl)) (gNil_some ?_)
  rw [add0]
  refine gLoadB_i (at1 (h.cell (j := 2) rfl)) ⟨?_, Ev.drew0 w⟩
  rw [← Int.natCast_mul, i64_id (by omega) (by omega)]
theorem end_any (h : St w ad (pkC F Wd H L S)) (hb : F + S * H ≤ 4000000000000000000) : Calls P n_image_packer_end #[.pointer (some ad)] w (fun e w' => e = .returned (.int .i64 ((F + S * H : Nat) : Int)) ∧ Ev w w') := by
  refine of_image_packer_end (gNil_some ?_)
  rw [add0]
  refine gLoadB_i (at1 (h.cell (j := 4) rfl)) (gNil_some ?_)
  rw [add0]
  refine gLoadB_i (at1 (h.cell (j := 3) rfl)) (gNil_some ?_)
  rw [add0]
  refine gLoadB_i (at1 (h.cell (j := 1) rfl)) ⟨?_, Ev.drew0 w⟩
  rw [← Int.natCast_mul, i64_id (n := ((S * H : Nat) : Int)) (by omega) (by omega), ← Int.natCast_add, i64_id (by omega) (by omega)]
theorem turn_any {b : Value} {xs : List Int} (h : St w ad (pkC F Wd H L S)) (hb : Nm .u8 w b xs) (hl : xs.length ≤ 1000000000) : Calls P n_image_packer_turn #[.pointer (some ad), b] w (fun e w' => ∃ v, e = .returned v ∧ Ev w w' ∧ Nm .u8 w' v (turnP L xs)) := by
  refine of_image_packer_turn (gNil_some ?_)
  rw [add0]
  refine gLoad_i (h.cell (j := 2) rfl) (gIf_eq (fun h3 => ?_) (fun h3 => ?_))
  · have : L = 3 := by omega
    subst this
    exact gCall_v (Q := fun v w' => Ev w w' ∧ ON .u8 eB w' w.heap.size v (turnL xs)) (Turn_any hb hl) fun v w' ⟨h1, h2⟩ => ⟨v, rfl, h1, h2.nm⟩
  · refine ⟨b, rfl, Ch.refl _ w, ?_⟩
    unfold turnP; rw [if_neg (by omega)]; exact hb
theorem applyOk_of {n W L : Nat} (h1 : 1 ≤ W) (h2 : W ≤ 1048576) (h3 : 1 ≤ L) (h4 : L ≤ 4) (h5 : n * W ≤ 1048576) : applyOk (n * W) W L = true := by
  have e1 : ((n * W : Nat) : Int) % (W : Int) = 0 := by
    have : ((n * W : Nat) : Int) % (W : Int) = ((n * W % W : Nat) : Int) := by rw [Int.natCast_emod]
    rw [Nat.mul_mod_left] at this; exact this
  simp only [applyOk, rightI, Bool.and_eq_true, decide_eq_true_eq]
  refine ⟨⟨⟨⟨⟨?_, ?_⟩, ?_⟩, ?_⟩, e1⟩, h5⟩ <;> omega
theorem Pack_any {b : Value} {xs : List Int} (hb : Nm .u8 w b xs) (hl : xs.length ≤ 1000000000) : Calls P n_image_Pack #[b] w (TupB w (packI xs)) := by
  refine of_image_Pack (gCall_pic (Parse_any hb hl) fun w1 h1 => fPicNew ((Fr.start w).ev h1) fun x4 w2 f2 => fPicSet f2 0 rfl rfl fun w3 f3 => ?_)
  have f3 : Fr w w3 [sIt x4 (parseP xs).1.c] := f3
  have hin := (parse_in hb.2).1
  have nope : ∀ {w'}, Ev w w' → ¬ ((parseP xs).2 = true ∧ xs.length ≤ 1048576) → TupB w (packI xs) (.returned (.tuple #[.slice none 0 0, .bool false])) w' := fun he hn => by
    unfold packI; rw [if_neg hn]
    exact ⟨_, rfl, he, ON.nil _ _ _ _⟩
  refine ⟨fun w' => ((parseP xs).2 = true ∧ xs.length ≤ 1048576) ∧ Fr w w' [sIt x4 (parseP xs).1.c], gIf_nnb (fun ht => gLen_nm (hb.ev f3.old) (gIf_dec (fun hgt => nope f3.old (by omega)) (fun hle => ⟨⟨ht, by omega⟩, f3⟩))) (fun hf => nope f3.old (by rw [hf]; simp)), ?_⟩
  rintro _ w4 ⟨⟨ht, hle⟩, f4⟩
  obtain ⟨F, Wd, H, L, S, hp, a1, a2, a3, a4, a5, a6, a7⟩ := inP_nat (hin ht)
  have hpk : packI xs = (packN xs F Wd H L S, true) := by
    unfold packI packP; rw [if_pos ⟨ht, hle⟩, hp]; simp
  rw [hp] at f4
  have hS : S ≤ S * H := Nat.le_mul_of_pos_right _ (by omega)
  have hW : Wd ≤ Wd * L := Nat.le_mul_of_pos_right _ (by omega)
  have hWL : Wd * L ≤ 32768 * 3 := Nat.mul_le_mul a2 (by omega)
  have hH : H ≤ S * H := Nat.le_mul_of_pos_left _ (by omega)
  refine fPic ⟨Wd, H, L, S, F⟩ f4 0 rfl (fBox f4 fun t29 w5 f5 => fNewW f5 fun o7 v7 w6 f6 => ?_)
  have f6 : Fr w w6 [wIt eB o7 v7 [], sIt t29 (pkC F Wd H L S), sIt x4 (Pc.mk Wd H L S F).c] := f6
  have hB : ∀ {w' : World} {F' : List It} (i : Nat), Fr w w' F' → F'[i]? = some (sIt t29 (pkC F Wd H L S)) → ∀ (j : Nat) (u : Value), (pkC F Wd H L S)[j]? = some u → w'.cell? (t29.add j) = some u := fun i f hi j u hj => f.cell i j hi hj
  have hSt : ∀ {w' : World} {F' : List It} (i : Nat), Fr w w' F' → F'[i]? = some (sIt t29 (pkC F Wd H L S)) → St w' t29 (pkC F Wd H L S) := fun i f hi => f.get i hi
  refine ⟨fun w' => ∀ (j : Nat) (u : Value), (pkC F Wd H L S)[j]? = some u → w'.cell? (t29.add j) = some u, hB 1 f6.drew rfl, gLen_nm (hb.ev f6.old) (gNil_some ?_)⟩
  rw [add0]
  refine gLoadB_i (fun w' hw => hw 4 _ rfl) (gNil_some ?_)
  rw [add0]
  refine gLoadB_i (fun w' hw => hw 0 _ rfl) (gNil_some ?_)
  rw [add0]
  refine gLoadB_i (fun w' hw => hw 1 _ rfl) (gNil_some ?_)
  rw [add0]
  refine gLoadB_i (fun w' hw => hw 2 _ rfl) (gNil_some ?_)
  rw [add0]
  refine gLoadB_i (fun w' hw => hw 3 _ rfl) ?_
  obtain ⟨qs, hqs⟩ : ∃ qs : List Nat, qs = [xs.length, F, Wd, H, L, S] := ⟨_, rfl⟩
  have hqb : ∀ q ∈ qs, q ≤ 1048576 := fun q hq => by
    rw [hqs] at hq
    simp only [List.mem_cons, List.not_mem_nil, or_false] at hq
    rcases hq with rfl | rfl | rfl | rfl | rfl | rfl <;> omega
  have hqi : inR .i64 (qs.map (fun (q : Nat) => (q : Int))) := fun x hx => by
    obtain ⟨q, hq, rfl⟩ := List.mem_map.1 hx
    have := hqb q hq
    simp [IntKind.min, IntKind.max, IntKind.signed, IntKind.bits]; omega
  have hql : qs.length = 6 := by rw [hqs]; rfl
  refine fLit_n (qs.map (fun (q : Nat) => (q : Int))) f6.drew (by rw [hqs]; rfl) (by rw [List.length_map]; exact hql) hqi fun t57 w7 f7 => ⟨hB 2 f7 rfl, gLen_nm (f7.nm 0 rfl) ?_⟩
  rw [List.length_map, hql]
  refine ⟨fun i w' => ∃ (k : Nat) (v' : Value), i = (k : Int) ∧ k ≤ 6 ∧ Fr w w' [oIt .i64 (elOf P t_sl_int) t57 (qs.map (fun (q : Nat) => (q : Int))), wIt eB o7 v' (numsB (qs.take k)), sIt t29 (pkC F Wd H L S), sIt x4 (Pc.mk Wd H L S F).c], fun i _ => (6 - i).toNat, ⟨0, v7, rfl, by omega, f7⟩, ?_⟩
  rintro _ i w8 ⟨k, v8, rfl, hk, f8⟩
  have hnl : ∀ k, k ≤ 6 → (numsB (qs.take k)).length ≤ 100 := fun k hk => by
    have : ∀ l : List Nat, (∀ q ∈ l, q ≤ 1048576) → (numsB l).length ≤ 10 * l.length := fun l => by
      induction l with
      | nil => intro _; simp [numsB]
      | cons q l ih =>
        intro h
        have h1 := ih fun r hr => h r (by simp [hr])
        have h2 := numB_len64 (n := q) (by have := h q (by simp); omega)
        have e : numsB (q :: l) = numB q ++ numsB l := by simp [numsB]
        rw [e, List.length_append, List.length_cons]; omega
    have h1 := this (qs.take k) fun q hq => hqb q (List.mem_of_mem_take hq)
    rw [List.length_take, hql] at h1
    omega
  refine gIf_dec (fun hlt => ?_) (fun hge => ?_)
  · have hk6 : k < qs.length := by omega
    have hqk := hqb qs[k] (List.getElem_mem hk6)
    refine gGet (f8.nm 0 rfl) (by omega) (by rw [List.length_map]; omega) ?_
    have hrd : rd (qs.map (fun (q : Nat) => (q : Int))) (k : Int) = ((qs[k] : Nat) : Int) := by rw [rd_nat _ k (by rw [List.length_map]; exact hk6), List.getElem_map]
    rw [hrd, show u64 ((qs[k] : Nat) : Int) = ((qs[k] : Nat) : Int) by rw [u64_def]; omega]
    refine fNum f8 1 rfl (by omega) (by have := hnl k hk; omega) fun v9 w9 f9 => ?_
    rw [Int.toNat_natCast, ← numsB_snoc, ← List.take_succ_eq_append_getElem hk6] at f9
    exact ⟨⟨k + 1, v9, by rw [i64_id (by omega) (by omega)]; omega, by omega, f9⟩, by dsimp only; rw [i64_id (by omega) (by omega)]; omega⟩
  have hk6 : k = 6 := by omega
  subst hk6
  rw [List.take_of_length_le (by omega)] at f8
  have hnl6 := hnl 6 (Nat.le_refl _)
  rw [List.take_of_length_le (by omega)] at hnl6
  have f8 : Fr w w8 [wIt eB o7 v8 (numsB qs), sIt t29 (pkC F Wd H L S)] := f8.picks [1, 2] (by decide)
  refine gNil_some ?_
  rw [add0]
  refine gLoad_i (hB 1 f8 rfl 4 _ rfl) ?_
  obtain ⟨W, hWe⟩ : ∃ W, W = Wd * L := ⟨_, rfl⟩
  rw [← hWe] at hWL hW a6
  refine ⟨fun px bs at' w' => ∃ i : Nat, at' = ((F + i * S : Nat) : Int) ∧ i ≤ H ∧ Fr w w' [oIt .u8 eB px (pixN xs F S W L i), oIt .u8 eB bs (besN xs F S W i), wIt eB o7 v8 (numsB qs), sIt t29 (pkC F Wd H L S)], fun _ _ at' _ => (F + S * H - at').toNat, ⟨0, by simp, Nat.zero_le _, (f8.nil0 .u8 eB).nil0 .u8 eB⟩, ?_⟩
  rintro _ px bs _ w10 ⟨i, rfl, hi, f10⟩
  refine gCall_i (end_any (hSt 3 f10 rfl) (by omega)) fun w11 h11 => ?_
  have f11 := f10.ev h11
  have hpl := pixN_len (L := L) a7 a6 hi
  have hbl := besN_len a7 a6 hi
  have hiS : i * S ≤ S * H := by rw [Nat.mul_comm S H]; exact Nat.mul_le_mul_right _ hi
  have hiW : i * W ≤ i * S := Nat.mul_le_mul_left _ a6
  have hiG : i * (S - W) ≤ i * S := Nat.mul_le_mul_left _ (Nat.sub_le _ _)
  refine gIf_dec (fun hlt => ?_) (fun hge => ?_)
  · have hiH : i < H := by
      refine Decidable.byContradiction fun hn => ?_
      have : i = H := by omega
      subst this
      rw [Nat.mul_comm] at hlt; omega
    have hrb := row_bd a7 hiH
    have hsucc : (i + 1) * S = i * S + S := by rw [Nat.add_mul, Nat.one_mul]
    refine gCall_i (wide_any (hSt 3 f11 rfl) (by omega)) fun w12 h12 => ?_
    have f12 := f11.ev h12
    rw [← hWe, ← Int.natCast_add, i64_id (n := ((F + i * S + W : Nat) : Int)) (by omega) (by omega)]
    refine gSlice_nm (hb.ev f12.old) (F + i * S) (F + i * S + W) (.inr ⟨_, rfl⟩) (.inr ⟨_, rfl⟩) (by omega) (by omega) fun hs => ?_
    rw [Nat.add_sub_cancel_left] at hs
    refine gCall_v (turn_any (hSt 3 f12 rfl) hs (by rw [List.length_take, List.length_drop]; omega)) fun t92 w13 ⟨h13, hn13⟩ => ?_
    have f13 := f12.ev h13
    have hrl := rowX_len a7 a6 hiH
    refine fApp f13 0 rfl hn13 (by rw [turnP_len, hpl]; show (_ + (rowX xs F S W i).length) * 8 ≤ _; omega) fun t93 w14 f14 => ?_
    have f14 : Fr w w14 [oIt .u8 eB t93 (pixN xs F S W L (i + 1)), oIt .u8 eB bs (besN xs F S W i), wIt eB o7 v8 (numsB qs), sIt t29 (pkC F Wd H L S)] := f14
    refine ⟨fun w' => ∀ (j : Nat) (u : Value), (pkC F Wd H L S)[j]? = some u → w'.cell? (t29.add j) = some u, hB 3 f14.drew rfl, gNil_some ?_⟩
    rw [add0]
    refine gLoadB_i (fun w' hw => hw 3 _ rfl) (gCall_i (wide_any (hSt 3 f14.drew rfl) (by omega)) fun w15 h15 => ?_)
    have f15 := f14.drew.ev h15
    rw [← hWe, ← Int.natCast_add, ← Int.natCast_add, i64_id (n := ((F + i * S + W : Nat) : Int)) (by omega) (by omega), i64_id (n := ((F + i * S + S : Nat) : Int)) (by omega) (by omega)]
    refine ⟨hB 3 f15 rfl, gSlice_nm (hb.ev f15.old) (F + i * S + W) (F + i * S + S) (.inr ⟨_, rfl⟩) (.inr ⟨_, rfl⟩) (by omega) (by omega) fun hs2 => ?_⟩
    rw [show F + i * S + S - (F + i * S + W) = S - W by omega] at hs2
    have hgl := gapX_len a7 a6 hiH
    refine fApp f15 1 rfl hs2 (by rw [hbl]; show (_ + (gapX xs F S W i).length) * 8 ≤ _; omega) fun t108 w16 f16 => ⟨hB 3 f16 rfl, gNil_some ?_⟩
    rw [add0]
    refine gLoad_i (hB 3 f16 rfl 3 _ rfl) ?_
    refine ⟨⟨i + 1, ?_, hiH, f16⟩, ?_⟩
    · rw [← Int.natCast_add, i64_id (by omega) (by omega), hsucc]; congr 1; omega
    · dsimp only
      rw [← Int.natCast_add, i64_id (by omega) (by omega)]; omega
  have hiH : i = H := by
    refine Decidable.byContradiction fun hn => hge ?_
    have := row_bd a7 (show i < H by omega)
    have hsh : F + (i + 1) * S ≤ F + S * H := by rw [Nat.mul_comm S H]; exact Nat.add_le_add_left (Nat.mul_le_mul_right _ (by omega)) _
    rw [Nat.add_mul, Nat.one_mul] at hsh
    omega
  subst hiH
  have hswh : i * W ≤ S * i := by rw [Nat.mul_comm S i]; exact hiW
  refine ⟨fun w' => ∀ (j : Nat) (u : Value), (pkC F Wd i L S)[j]? = some u → w'.cell? (t29.add j) = some u, hB 3 f11.drew rfl, gNil_some ?_⟩
  rw [add0]
  refine gLoadB_i (fun w' hw => hw 2 _ rfl) (gCall_i (wide_any (hSt 3 f11.drew rfl) (by omega)) fun w17 h17 => ⟨hB 3 (f11.drew.ev h17) rfl, ?_⟩)
  have f17 := f11.drew.ev h17
  rw [← hWe]
  have hok : applyOk (pixN xs F S W L i).length W L = true := by rw [hpl]; exact applyOk_of (by omega) (by omega) (by omega) (by omega) (by omega)
  refine gCall_of (Apply_any (f17.nm 0 rfl) (by rw [hpl]; omega) (by omega)) ?_
  rintro _ w18 ⟨h18, hr⟩
  rw [hok, if_pos rfl, Int.toNat_natCast, hpl, Nat.mul_div_cancel _ (by omega)] at hr
  obtain ⟨v118, rfl, hon⟩ := hr
  have f18 := f17.newO h18 hon
  refine ⟨_, _, rfl, hB 4 f18 rfl, gIf_neq (fun h => (h rfl).elim) (fun _ => ⟨fun w' => ∀ (j : Nat) (u : Value), (pkC F Wd i L S)[j]? = some u → w'.cell? (t29.add j) = some u, hB 4 f18.drew rfl, gNil_some ?_⟩)⟩
  rw [add0]
  refine gLoadB_i (fun w' hw => hw 4 _ rfl) (gSlice_nm (hb.ev f18.drew.old) 0 F (.inl ⟨rfl, rfl⟩) (.inr ⟨_, rfl⟩) (Nat.zero_le _) (by omega) fun hs1 => gCall_i (end_any (hSt 4 f18.drew rfl) (by omega)) fun w19 h19 => ⟨hB 4 (f18.drew.ev h19) rfl, ?_⟩)
  have f19 := f18.drew.ev h19
  rw [Nat.sub_zero, List.drop_zero] at hs1
  refine gSlice_nm (hb.ev f19.old) (F + S * i) xs.length (.inr ⟨_, rfl⟩) (.inl ⟨rfl, rfl⟩) a7 (Nat.le_refl _) fun hs2 => ?_
  rw [List.take_of_length_le (by rw [List.length_drop]; exact Nat.le_refl _)] at hs2
  have hs1' := hs1.ev h19
  have hA := f19.nm 0 rfl
  have hBs := f19.nm 2 rfl
  refine fLitV [_, v118, bs, _] f19 rfl rfl (fun v hv => ?_) fun t136 w20 f20 => ⟨hB 5 f20 rfl, ?_⟩
  · simp only [List.mem_cons, List.not_mem_nil, or_false] at hv
    rcases hv with rfl | rfl | rfl | rfl
    · exact hs1.one
    · exact hA.one
    · exact hBs.one
    · exact hs2.one
  have hal := applyN_len (p := (L : Int)) hpl (Nat.le_refl i)
  have hfl : [xs.take F, applyN (pixN xs F S W L i) W L i, besN xs F S W i, xs.drop (F + S * i)].flatten.length ≤ 10000000 := by
    simp only [List.flatten_cons, List.flatten_nil, List.length_append, List.append_nil, hal, hbl, List.length_take, List.length_drop]
    have : i * (W + 1) = i * W + i := Nat.mul_succ i W
    omega
  refine fRawW (yss := [xs.take F, applyN (pixN xs F S W L i) W L i, besN xs F S W i, xs.drop (F + S * i)]) f20 4 rfl (fun w' f' => NL.of (f'.sl 0 rfl) rfl fun j u ys hu hy => ?_) (by omega) (by simp) fun v21 w21 f21 => ⟨hB 5 f21 rfl, ?_⟩
  · have ho : Ev w w' := f'.old
    rcases j with _ | _ | _ | _ | j
    · simp at hu hy; subst hu; subst hy
      have := (hb.ev ho).sub 0 F (Nat.zero_le _) (by omega)
      rw [Nat.sub_zero, List.drop_zero] at this; exact this
    · simp at hu hy; subst hu; subst hy; exact f'.nm 1 rfl
    · simp at hu hy; subst hu; subst hy; exact f'.nm 3 rfl
    · simp at hu hy; subst hu; subst hy
      have := (hb.ev ho).sub (F + S * i) xs.length a7 (Nat.le_refl _)
      rw [List.take_of_length_le (by rw [List.length_drop]; exact Nat.le_refl _)] at this; exact this
    · simp at hu
  refine fBytesW f21 4 rfl (by rw [List.length_append]; omega) fun t138 w22 f22 => ?_
  refine ⟨t138, ?_, f22.old, ?_⟩
  · rw [hpk]
  · rw [hpk]
    have := f22.on 0 rfl
    rw [show packN xs F Wd i L S = numsB qs ++ [xs.take F, applyN (pixN xs F S W L i) W L i, besN xs F S W i, xs.drop (F + S * i)].flatten by rw [packN_eq, ← hqs, ← hWe]; simp]
    exact this
end
end Go.Proofs.YtilpoinhfiajcaaGreatDoorV

/- Package image: Unpack. -/
namespace Go.Proofs.YtilpoinhfiajcaaGreatDoorV
open Go Go.RowKit
section
variable {w0 w w' : World} {G : List It}
end
end Go.Proofs.YtilpoinhfiajcaaGreatDoorV
