/- Package picture: Pnm, the plain part. -/
import Derived.Test.YtflchmhhmkkooaaVPictC
import Derived.Test.YtflchmhhmkkooaaVNodes6
namespace Go.Proofs.YtflchmhhmkkooaaV
open Go Go.RowKit
structure Pc where
  wd : Int
  ht : Int
  pl : Int
  st : Int
  fr : Int
deriving DecidableEq
def Pc.c (p : Pc) : List Value := [.int .i64 p.wd, .int .i64 p.ht, .int .i64 p.pl, .int .i64 p.st, .int .i64 p.fr]
def Pc.z : Pc := ⟨0, 0, 0, 0, 0⟩
def no : Pc × Bool := (Pc.z, false)
def rightP (p : Pc) (n : Int) : Pc × Bool := if p.fr + p.st * p.ht > n then no else (p, true)
def fitsP (p : Pc) (n : Int) : Bool := decide (1 ≤ p.wd ∧ p.wd ≤ 32768 ∧ 1 ≤ p.ht ∧ p.ht ≤ 32768 ∧ p.fr ≤ n ∧ p.st * p.ht ≤ n - p.fr)
def tokP (xs : List Int) (most : Int) (a : Nat) : Option (Int × Nat) :=
  if (blankI xs a).1 = true ∧ (blankI xs a).2 > a ∧ (numPI xs (blankI xs a).2 most).1 ≠ 0 then some (numPI xs (blankI xs a).2 most) else none
def whiteR (xs : List Int) (a : Nat) : Int := if (blankI xs a).1 = true ∧ (blankI xs a).2 < xs.length ∧ (blankI xs a).2 > a then ((blankI xs a).2 : Int) else -1
def numRR (xs : List Int) (a : Nat) : Int × Int := if (runL xs 6 a 0).1 < 1 ∨ (runL xs 6 a 0).1 > 5 then (-1, -1) else ((runL xs 6 a 0).2, ((a + (runL xs 6 a 0).1 : Nat) : Int))
def tokR (xs : List Int) (a : Nat) : Option (Int × Nat) :=
  if whiteR xs a < 0 then none else if (numRR xs (blankI xs a).2).2 < 0 then none else some ((numRR xs (blankI xs a).2).1, (numRR xs (blankI xs a).2).2.toNat)
theorem runL_nn {xs : List Int} : ∀ {f a : Nat} {v : Int}, 0 ≤ v → 0 ≤ (runL xs f a v).2
  | 0, _, _, h => h
  | f + 1, a, v, h => by
    rw [runL]; split
    · rename_i hh
      have hd := digB_iff.1 hh.2
      exact runL_nn (f := f) (a := a + 1) (by omega)
    · exact h
theorem runL_0 {xs : List Int} {f a : Nat} {v : Int} (h : (runL xs f a v).1 < 1) : (runL xs f a v).2 = v := by
  cases f with
  | zero => rfl
  | succ f =>
    rw [runL] at h ⊢; split
    · rename_i hh; rw [if_pos hh] at h; dsimp only at h; omega
    · rfl
theorem tok_iff {xs : List Int} {most : Int} {a b : Nat} {v : Int} : tokP xs most a = some (v, b) ↔ tokR xs a = some (v, b) ∧ 1 ≤ v ∧ v ≤ most := by
  have hn := runL_nn (xs := xs) (f := 6) (a := (blankI xs a).2) (v := 0) (by omega)
  by_cases h0 : (blankI xs a).1 = true ∧ (blankI xs a).2 > a
  · by_cases h1 : (blankI xs a).2 < xs.length
    · have hw : whiteR xs a = ((blankI xs a).2 : Int) := by unfold whiteR; rw [if_pos ⟨h0.1, h1, h0.2⟩]
      unfold tokP tokR
      rw [hw, if_neg (show ¬ (((blankI xs a).2 : Int) < 0) by omega)]
      unfold numPI numRR
      have hz := runL_0 (xs := xs) (f := 6) (a := (blankI xs a).2) (v := 0)
      generalize runL xs 6 (blankI xs a).2 0 = r at *
      generalize (blankI xs a).2 = k at *
      obtain ⟨r1, r2⟩ := r
      dsimp only at *
      by_cases c1 : r1 ≥ 6
      · rw [if_pos c1, if_pos (show r1 < 1 ∨ r1 > 5 by omega), if_neg (by simp), if_pos (by simp)]; simp
      · rw [if_neg c1]
        by_cases c0 : r1 < 1
        · have hr2 : r2 = 0 := hz c0
          subst hr2
          rw [if_pos (Or.inl c0), if_pos (show (-1 : Int) < 0 by omega), if_neg (by split <;> simp)]
          simp
        · rw [if_neg (show ¬ (r1 < 1 ∨ r1 > 5) by omega)]
          dsimp only
          rw [if_neg (show ¬ (((k + r1 : Nat) : Int) < 0) by omega), Int.toNat_natCast]
          by_cases c2 : r2 > most
          · rw [if_pos c2, if_neg (by simp)]
            constructor
            · intro h; cases h
            · rintro ⟨h, _, h3⟩
              simp only [Option.some.injEq, Prod.mk.injEq] at h
              omega
          · rw [if_neg c2]
            by_cases c3 : r2 = 0
            · rw [if_neg (by simp [c3])]
              constructor
              · intro h; cases h
              · rintro ⟨h, h2, _⟩
                simp only [Option.some.injEq, Prod.mk.injEq] at h
                omega
            · rw [if_pos ⟨h0.1, h0.2, c3⟩]
              simp only [Option.some.injEq, Prod.mk.injEq]
              constructor
              · rintro ⟨h1, h2⟩; subst h1; exact ⟨⟨rfl, h2⟩, by omega, by omega⟩
              · rintro ⟨h, _⟩; exact h
    · have hw : whiteR xs a = -1 := by unfold whiteR; rw [if_neg (by omega)]
      have hr : runL xs 6 (blankI xs a).2 0 = (0, 0) := by rw [runL, if_neg (by omega)]
      have hp : (numPI xs (blankI xs a).2 most).1 = 0 := by unfold numPI; rw [hr]; dsimp only; split; rfl; split <;> rfl
      unfold tokP tokR
      rw [hw, if_neg (by rw [hp]; simp), if_pos (by omega)]; simp
  · have hw : whiteR xs a = -1 := by unfold whiteR; rw [if_neg (fun h => h0 ⟨h.1, h.2.2⟩)]
    unfold tokP tokR
    rw [hw, if_neg (fun h => h0 ⟨h.1, h.2.1⟩), if_pos (by omega)]; simp
/-- Token by token. -/
def toks (tk : Nat → Nat → Option (Int × Nat)) : Nat → Option (List Int × Nat)
  | 0 => some ([], 2)
  | j + 1 => (toks tk j).bind fun p => (tk j p.2).map fun q => (p.1 ++ [q.1], q.2)
theorem toks_len {tk : Nat → Nat → Option (Int × Nat)} : ∀ {j : Nat} {l : List Int} {a : Nat}, toks tk j = some (l, a) → l.length = j
  | 0, l, a, h => by simp [toks] at h; rw [h.1]; rfl
  | j + 1, l, a, h => by
    simp only [toks, Option.bind_eq_some_iff, Option.map_eq_some_iff, Prod.mk.injEq] at h
    obtain ⟨p, h1, q, h2, rfl, rfl⟩ := h
    have := toks_len (tk := tk) (j := j) (l := p.1) (a := p.2) h1
    simp [this]
theorem toks_up {tk : Nat → Nat → Option (Int × Nat)} {j : Nat} (h : toks tk j = none) : ∀ k, toks tk (j + k) = none
  | 0 => h
  | k + 1 => by rw [← Nat.add_assoc, toks, toks_up h k]; rfl
def moP (j : Nat) : Int := if j < 2 then 32768 else 255
def tkP (xs : List Int) (j a : Nat) : Option (Int × Nat) := tokP xs (moP j) a
def tkR (xs : List Int) (_ a : Nat) : Option (Int × Nat) := tokR xs a
theorem toks_iff {xs : List Int} : ∀ {j : Nat} {l : List Int} {a : Nat}, toks (tkP xs) j = some (l, a) ↔ toks (tkR xs) j = some (l, a) ∧ ∀ i, i < j → 1 ≤ l.getD i 0 ∧ l.getD i 0 ≤ moP i
  | 0, l, a => by simp [toks]
  | j + 1, l, a => by
    simp only [toks, Option.bind_eq_some_iff, Option.map_eq_some_iff, Prod.mk.injEq]
    constructor
    · rintro ⟨⟨l1, a1⟩, h1, ⟨v, b⟩, h2, rfl, rfl⟩
      obtain ⟨k1, k2⟩ := toks_iff.1 h1
      have hl := toks_len h1
      obtain ⟨m1, m2, m3⟩ := tok_iff.1 h2
      refine ⟨⟨(l1, a1), k1, (v, b), m1, rfl, rfl⟩, fun i hi => ?_⟩
      dsimp only at *
      by_cases e : i < j
      · rw [getD_app_l (by omega)]; exact k2 i e
      · obtain rfl : i = j := by omega
        rw [getD_app_r (by omega), hl, Nat.sub_self]
        exact ⟨m2, m3⟩
    · rintro ⟨⟨⟨l1, a1⟩, h1, ⟨v, b⟩, h2, rfl, rfl⟩, h3⟩
      have hl := toks_len h1
      dsimp only at *
      refine ⟨(l1, a1), toks_iff.2 ⟨h1, fun i hi => ?_⟩, (v, b), tok_iff.2 ⟨h2, ?_⟩, rfl, rfl⟩
      · have := h3 i (by omega)
        rwa [getD_app_l (by omega)] at this
      · have := h3 j (by omega)
        rw [getD_app_r (by omega), hl, Nat.sub_self] at this
        exact this
def hdP (xs : List Int) : Bool := decide (2 ≤ xs.length ∧ rd xs 0 = 80 ∧ (rd xs 1 = 53 ∨ rd xs 1 = 54))
def plP (xs : List Int) : Int := if rd xs 1 = 54 then 3 else 1
def pcP (xs : List Int) (l : List Int) (a : Nat) : Pc := ⟨l.getD 0 0, l.getD 1 0, plP xs, l.getD 0 0 * plP xs, ((a + 1 : Nat) : Int)⟩
def endP (xs : List Int) (l : List Int) (a : Nat) : Pc × Bool := if a < xs.length ∧ whiteB (rd xs a) = true then rightP (pcP xs l a) xs.length else no
def endPR (xs : List Int) (l : List Int) (a : Nat) : Pc × Bool := if a < xs.length ∧ whiteB (rd xs a) = true ∧ 1 ≤ l.getD 2 0 ∧ l.getD 2 0 ≤ 255 then (if fitsP (pcP xs l a) xs.length then (pcP xs l a, true) else no) else no
def pnmP (xs : List Int) : Pc × Bool := if hdP xs = true then (match toks (tkP xs) 3 with | some (l, a) => endP xs l a | none => no) else no
def pnmR (xs : List Int) : Pc × Bool := if hdP xs = true then (match toks (tkR xs) 3 with | some (l, a) => endPR xs l a | none => no) else no
theorem plP_rng (xs : List Int) : plP xs = 1 ∨ plP xs = 3 := by unfold plP; split <;> simp
theorem fits_right {p : Pc} {n : Int} (h1 : 1 ≤ p.wd ∧ p.wd ≤ 32768) (h2 : 1 ≤ p.ht ∧ p.ht ≤ 32768) (h3 : 0 ≤ p.st) : (if fitsP p n then (p, true) else no) = rightP p n := by
  have : 0 ≤ p.st * p.ht := Int.mul_nonneg h3 (by omega)
  unfold fitsP rightP
  by_cases c : p.fr + p.st * p.ht > n
  · rw [if_pos c, if_neg]; simp only [decide_eq_true_eq]; omega
  · rw [if_neg c, if_pos]; simp only [decide_eq_true_eq]; omega
theorem pnm_eq (xs : List Int) : pnmR xs = pnmP xs := by
  unfold pnmR pnmP
  split
  · cases hr : toks (tkR xs) 3 with
    | none =>
      cases hp : toks (tkP xs) 3 with
      | none => rfl
      | some q => obtain ⟨l, a⟩ := q; have := (toks_iff.1 hp).1; rw [hr] at this; cases this
    | some q =>
      obtain ⟨l, a⟩ := q
      by_cases hb : ∀ i, i < 3 → 1 ≤ l.getD i 0 ∧ l.getD i 0 ≤ moP i
      · rw [toks_iff.2 ⟨hr, hb⟩]
        have b0 := hb 0 (by omega)
        have b1 := hb 1 (by omega)
        have b2 := hb 2 (by omega)
        unfold moP at b0 b1 b2
        simp only [show (0 : Nat) < 2 by omega, show (1 : Nat) < 2 by omega, show ¬ ((2 : Nat) < 2) by omega, if_true, if_false] at b0 b1 b2
        show endPR xs l a = endP xs l a
        unfold endPR endP
        by_cases c : a < xs.length ∧ whiteB (rd xs a) = true
        · rw [if_pos ⟨c.1, c.2, b2⟩, if_pos c]
          refine fits_right b0 b1 ?_
          show 0 ≤ l.getD 0 0 * plP xs
          rcases plP_rng xs with e | e <;> rw [e] <;> omega
        · rw [if_neg (fun h => c ⟨h.1, h.2.1⟩), if_neg c]
      · have hp : toks (tkP xs) 3 = none := by
          cases hp : toks (tkP xs) 3 with
          | none => rfl
          | some q =>
            obtain ⟨l2, a2⟩ := q
            obtain ⟨k1, k2⟩ := toks_iff.1 hp
            rw [hr] at k1
            injection k1 with k1; injection k1 with k1 _; subst k1
            exact absurd k2 hb
        rw [hp]
        show endPR xs l a = no
        unfold endPR
        split
        · rename_i c
          rw [if_neg]
          intro hf
          unfold fitsP at hf
          have hf := of_decide_eq_true hf
          unfold pcP at hf
          dsimp only at hf
          refine hb fun i hi => ?_
          have : i = 0 ∨ i = 1 ∨ i = 2 := by omega
          unfold moP
          rcases this with rfl | rfl | rfl
          · exact ⟨hf.1, hf.2.1⟩
          · exact ⟨hf.2.2.1, hf.2.2.2.1⟩
          · exact c.2.2
        · rfl
  · rfl
end Go.Proofs.YtflchmhhmkkooaaV
