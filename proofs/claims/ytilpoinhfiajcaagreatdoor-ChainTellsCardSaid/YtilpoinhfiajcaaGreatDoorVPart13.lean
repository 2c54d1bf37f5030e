import Derived.Test.YtilpoinhfiajcaaGreatDoorVPart12
set_option linter.unusedVariables false
set_option linter.unusedSimpArgs false
/- Package picture: Pnm, the plain part. -/
namespace Go.Proofs.YtilpoinhfiajcaaGreatDoorV
open Go Go.RowKit
structure Pc where
  wd : Int
  ht : Int
  pl : Int
  st : Int
  fr : Int
deriving DecidableEq
def Pc.c (p : Pc) : List Value := [.int .i64 p.wd, .int .i64 p.ht, .int .i64 p.pl, .int .i64 p.st, .int .i64 p.fr]
def Pc.z : Pc := ⟨0, 0, 0, 0, 0⟩
def no : Pc × Bool := (Pc.z, false)
def rightP (p : Pc) (n : Int) : Pc × Bool := if p.fr + p.st * p.ht > n then no else (p, true)
def fitsP (p : Pc) (n : Int) : Bool := decide (1 ≤ p.wd ∧ p.wd ≤ 32768 ∧ 1 ≤ p.ht ∧ p.ht ≤ 32768 ∧ p.fr ≤ n ∧ p.st * p.ht ≤ n - p.fr)
def tokP (xs : List Int) (most : Int) (a : Nat) : Option (Int × Nat) :=
  if (blankI xs a).1 = true ∧ (blankI xs a).2 > a ∧ (numPI xs (blankI xs a).2 most).1 ≠ 0 then some (numPI xs (blankI xs a).2 most) else none
def whiteR (xs : List Int) (a : Nat) : Int := if (blankI xs a).1 = true ∧ (blankI xs a).2 < xs.length ∧ (blankI xs a).2 > a then ((blankI xs a).2 : Int) else -1
def numRR (xs : List Int) (a : Nat) : Int × Int := if (runL xs 6 a 0).1 < 1 ∨ (runL xs 6 a 0).1 > 5 then (-1, -1) else ((runL xs 6 a 0).2, ((a + (runL xs 6 a 0).1 : Nat) : Int))
def tokR (xs : List Int) (a : Nat) : Option (Int × Nat) :=
  if whiteR xs a < 0 then none else if (numRR xs (blankI xs a).2).2 < 0 then none else some ((numRR xs (blankI xs a).2).1, (numRR xs (blankI xs a).2).2.toNat)
theorem runL_nn {xs : List Int} : ∀ {f a : Nat} {v : Int}, 0 ≤ v → 0 ≤ (runL xs f a v).2
  | 0, _, _, h => h
  | f + 1, a, v, h => by
    rw [runL]; split
    · rename_i hh
      have hd := digB_iff.1 hh.2
      exact runL_nn (f := f) (a := a + 1) (by omega)
    · exact h
theorem runL_0 {xs : List Int} {f a : Nat} {v : Int} (h : (runL xs f a v).1 < 1) : (runL xs f a v).2 = v := by
  cases f with
  | zero => rfl
  | succ f =>
    rw [runL] at h ⊢; split
    · rename_i hh; rw [if_pos hh] at h; dsimp only at h; omega
    · rfl
theorem tok_iff {xs : List Int} {most : Int} {a b : Nat} {v : Int} : tokP xs most a = some (v, b) ↔ tokR xs a = some (v, b) ∧ 1 ≤ v ∧ v ≤ most := by
  have hn := runL_nn (xs := xs) (f := 6) (a := (blankI xs a).2) (v := 0) (by omega)
  by_cases h0 : (blankI xs a).1 = true ∧ (blankI xs a).2 > a
  · by_cases h1 : (blankI xs a).2 < xs.length
    · have hw : whiteR xs a = ((blankI xs a).2 : Int) := by unfold whiteR; rw [if_pos ⟨h0.1, h1, h0.2⟩]
      unfold tokP tokR
      rw [hw, if_neg (show ¬ (((blankI xs a).2 : Int) < 0) by omega)]
      unfold numPI numRR
      have hz := runL_0 (xs := xs) (f := 6) (a := (blankI xs a).2) (v := 0)
      generalize runL xs 6 (blankI xs a).2 0 = r at *
      generalize (blankI xs a).2 = k at *
      obtain ⟨r1, r2⟩ := r
      dsimp only at *
      by_cases c1 : r1 ≥ 6
      · rw [if_pos c1, if_pos (show r1 < 1 ∨ r1 > 5 by omega), if_neg (by simp), if_pos (by simp)]; simp
      · rw [if_neg c1]
        by_cases c0 : r1 < 1
        · have hr2 : r2 = 0 := hz c0
          subst hr2
          rw [if_pos (Or.inl c0), if_pos (show (-1 : Int) < 0 by omega), if_neg (by split <;> simp)]
          simp
        · rw [if_neg (show ¬ (r1 < 1 ∨ r1 > 5) by omega)]
          dsimp only
          rw [if_neg (show ¬ (((k + r1 : Nat) : Int) < 0) by omega), Int.toNat_natCast]
          by_cases c2 : r2 > most
          · rw [if_pos c2, if_neg (by simp)]
            constructor
            · intro h; cases h
            · rintro ⟨h, _, h3⟩
              simp only [Option.some.injEq, Prod.mk.injEq] at h
              omega
          · rw [if_neg c2]
            by_cases c3 : r2 = 0
            · rw [if_neg (by simp [c3])]
              constructor
              · intro h; cases h
              · rintro ⟨h, h2, _⟩
                simp only [Option.some.injEq, Prod.mk.injEq] at h
                omega
            · rw [if_pos ⟨h0.1, h0.2, c3⟩]
              simp only [Option.some.injEq, Prod.mk.injEq]
              constructor
              · rintro ⟨h1, h2⟩; subst h1; exact ⟨⟨rfl, h2⟩, by omega, by omega⟩
              · rintro ⟨h, _⟩; exact h
    · have hw : whiteR xs a = -1 := by unfold whiteR; rw [if_neg (by omega)]
      have hr : runL xs 6 (blankI xs a).2 0 = (0, 0) := by rw [runL, if_neg (by omega)]
      have hp : (numPI xs (blankI xs a).2 most).1 = 0 := by unfold numPI; rw [hr]; dsimp only; split; rfl; split <;> rfl
      unfold tokP tokR
      rw [hw, if_neg (by rw [hp]; simp), if_pos (by omega)]; simp
  · have hw : whiteR xs a = -1 := by unfold whiteR; rw [if_neg (fun h => h0 ⟨h.1, h.2.2⟩)]
    unfold tokP tokR
    rw [hw, if_neg (fun h => h0 ⟨h.1, h.2.1⟩), if_pos (by omega)]; simp
/-- Token by token. -/
def toks (tk : Nat → Nat → Option (Int × Nat)) : Nat → Option (List Int × Nat)
  | 0 => some ([], 2)
  | j + 1 => (toks tk j).bind fun p => (tk j p.2).map fun q => (p.1 ++ [q.1], q.2)
theorem toks_len {tk : Nat → Nat → Option (Int × Nat)} : ∀ {j : Nat} {l : List Int} {a : Nat}, toks tk j = some (l, a) → l.length = j
  | 0, l, a, h => by simp [toks] at h; rw [h.1]; rfl
  | j + 1, l, a, h => by
    simp only [toks, Option.bind_eq_some_iff, Option.map_eq_some_iff, Prod.mk.injEq] at h
    obtain ⟨p, h1, q, h2, rfl, rfl⟩ := h
    have := toks_len (tk := tk) (j := j) (l := p.1) (a := p.2) h1
    simp [this]
theorem toks_up {tk : Nat → Nat → Option (Int × Nat)} {j : Nat} (h : toks tk j = none) : ∀ k, toks tk (j + k) = none
  | 0 => h
  | k + 1 => by rw [← Nat.add_assoc, toks, toks_up h k]; rfl
def moP (j : Nat) : Int := if j < 2 then 32768 else 255
def tkP (xs : List Int) (j a : Nat) : Option (Int × Nat) := tokP xs (moP j) a
def tkR (xs : List Int) (_ a : Nat) : Option (Int × Nat) := tokR xs a
theorem toks_iff {xs : List Int} : ∀ {j : Nat} {l : List Int} {a : Nat}, toks (tkP xs) j = some (l, a) ↔ toks (tkR xs) j = some (l, a) ∧ ∀ i, i < j → 1 ≤ l.getD i 0 ∧ l.getD i 0 ≤ moP i
  | 0, l, a => by simp [toks]
  | j + 1, l, a => by
    simp only [toks, Option.bind_eq_some_iff, Option.map_eq_some_iff, Prod.mk.injEq]
    constructor
    · rintro ⟨⟨l1, a1⟩, h1, ⟨v, b⟩, h2, rfl, rfl⟩
      obtain ⟨k1, k2⟩ := toks_iff.1 h1
      have hl := toks_len h1
      obtain ⟨m1, m2, m3⟩ := tok_iff.1 h2
      refine ⟨⟨(l1, a1), k1, (v, b), m1, rfl, rfl⟩, fun i hi => ?_⟩
      dsimp only at *
      by_cases e : i < j
      · rw [getD_app_l (by omega)]; exact k2 i e
      · obtain rfl : i = j := by omega
        rw [getD_app_r (by omega), hl, Nat.sub_self]
        exact ⟨m2, m3⟩
    · rintro ⟨⟨⟨l1, a1⟩, h1, ⟨v, b⟩, h2, rfl, rfl⟩, h3⟩
      have hl := toks_len h1
      dsimp only at *
      refine ⟨(l1, a1), toks_iff.2 ⟨h1, fun i hi => ?_⟩, (v, b), tok_iff.2 ⟨h2, ?_⟩, rfl, rfl⟩
      · have := h3 i (by omega)
        rwa [getD_app_l (by omega)] at this
      · have := h3 j (by omega)
        rw [getD_app_r (by omega), hl, Nat.sub_self] at this
        exact this
def hdP (xs : List Int) : Bool := decide (2 ≤ xs.length ∧ rd xs 0 = 80 ∧ (rd xs 1 = 53 ∨ rd xs 1 = 54))
def plP (xs : List Int) : Int := if rd xs 1 = 54 then 3 else 1
def pcP (xs : List Int) (l : List Int) (a : Nat) : Pc := ⟨l.getD 0 0, l.getD 1 0, plP xs, l.getD 0 0 * plP xs, ((a + 1 : Nat) : Int)⟩
def endP (xs : List Int) (l : List Int) (a : Nat) : Pc × Bool := if a < xs.length ∧ whiteB (rd xs a) = true then rightP (pcP xs l a) xs.length else no
def endPR (xs : List Int) (l : List Int) (a : Nat) : Pc × Bool := if a < xs.length ∧ whiteB (rd xs a) = true ∧ 1 ≤ l.getD 2 0 ∧ l.getD 2 0 ≤ 255 then (if fitsP (pcP xs l a) xs.length then (pcP xs l a, true) else no) else no
def pnmP (xs : List Int) : Pc × Bool := if hdP xs = true then (match toks (tkP xs) 3 with | some (l, a) => endP xs l a | none => no) else no
def pnmR (xs : List Int) : Pc × Bool := if hdP xs = true then (match toks (tkR xs) 3 with | some (l, a) => endPR xs l a | none => no) else no
theorem plP_rng (xs : List Int) : plP xs = 1 ∨ plP xs = 3 := by unfold plP; split <;> simp
theorem fits_right {p : Pc} {n : Int} (h1 : 1 ≤ p.wd ∧ p.wd ≤ 32768) (h2 : 1 ≤ p.ht ∧ p.ht ≤ 32768) (h3 : 0 ≤ p.st) : (if fitsP p n then (p, true) else no) = rightP p n := by
  have : 0 ≤ p.st * p.ht := Int.mul_nonneg h3 (by omega)
  unfold fitsP rightP
  by_cases c : p.fr + p.st * p.ht > n
  · rw [if_pos c, if_neg]; simp only [decide_eq_true_eq]; omega
  · rw [if_neg c, if_pos]; simp only [decide_eq_true_eq]; omega
theorem pnm_eq (xs : List Int) : pnmR xs = pnmP xs := by
  unfold pnmR pnmP
  split
  · cases hr : toks (tkR xs) 3 with
    | none =>
      cases hp : toks (tkP xs) 3 with
      | none => rfl
      | some q => obtain ⟨l, a⟩ := q; have := (toks_iff.1 hp).1; rw [hr] at this; cases this
    | some q =>
      obtain ⟨l, a⟩ := q
      by_cases hb : ∀ i, i < 3 → 1 ≤ l.getD i 0 ∧ l.getD i 0 ≤ moP i
      · rw [toks_iff.2 ⟨hr, hb⟩]
        have b0 := hb 0 (by omega)
        have b1 := hb 1 (by omega)
        have b2 := hb 2 (by omega)
        unfold moP at b0 b1 b2
        simp only [show (0 : Nat) < 2 by omega, show (1 : Nat) < 2 by omega, show ¬ ((2 : Nat) < 2) by omega, if_true, if_false] at b0 b1 b2
        show endPR xs l a = endP xs l a
        unfold endPR endP
        by_cases c : a < xs.length ∧ whiteB (rd xs a) = true
        · rw [if_pos ⟨c.1, c.2, b2⟩, if_pos c]
          refine fits_right b0 b1 ?_
          show 0 ≤ l.getD 0 0 * plP xs
          rcases plP_rng xs with e | e <;> rw [e] <;> omega
        · rw [if_neg (fun h => c ⟨h.1, h.2.1⟩), if_neg c]
      · have hp : toks (tkP xs) 3 = none := by
          cases hp : toks (tkP xs) 3 with
          | none => rfl
          | some q =>
            obtain ⟨l2, a2⟩ := q
            obtain ⟨k1, k2⟩ := toks_iff.1 hp
            rw [hr] at k1
            injection k1 with k1; injection k1 with k1 _; subst k1
            exact absurd k2 hb
        rw [hp]
        show endPR xs l a = no
        unfold endPR
        split
        · rename_i c
          rw [if_neg]
          intro hf
          unfold fitsP at hf
          have hf := of_decide_eq_true hf
          unfold pcP at hf
          dsimp only at hf
          refine hb fun i hi => ?_
          have : i = 0 ∨ i = 1 ∨ i = 2 := by omega
          unfold moP
          rcases this with rfl | rfl | rfl
          · exact ⟨hf.1, hf.2.1⟩
          · exact ⟨hf.2.2.1, hf.2.2.2.1⟩
          · exact c.2.2
        · rfl
  · rfl
end Go.Proofs.YtilpoinhfiajcaaGreatDoorV

/- Package picture: Pnm, and the same of valiseref16. -/
namespace Go.Proofs.YtilpoinhfiajcaaGreatDoorV
open Go Go.RowKit
def PicE (w : World) (r : Pc × Bool) (e : Ending) (w' : World) : Prop := e = .returned (.tuple #[.agg r.1.c.toArray, .bool r.2]) ∧ Ev w w'
theorem gCall_pic {f : FuncId} {args : Array Value} {w : World} {r : Pc × Bool} {K : Int → Int → Int → Int → Int → Bool → World → Prop} (h : Calls P f args w (PicE w r)) (hk : ∀ w', Ev w w' → K r.1.wd r.1.ht r.1.pl r.1.st r.1.fr r.2 w') :
    gCall P f (.tup [.agg [.int .i64, .int .i64, .int .i64, .int .i64, .int .i64], .one .bool]) args w K :=
  gCall_of h fun _ w' ⟨h1, h2⟩ => ⟨_, _, _, _, _, _, h1, hk w' h2⟩
section
variable {w0 w : World} {F : List It}
theorem fPic {ad : Addr} {K : Int → Int → Int → Int → Int → Prop} (p : Pc) (h : Fr w0 w F) (i : Nat) (hi : F[i]? = some (sIt ad p.c)) (hk : K p.wd p.ht p.pl p.st p.fr) : gLoad P t_api_Picture (.part (.agg [.int .i64, .int .i64, .int .i64, .int .i64, .int .i64])) (.pointer (some ad)) w K :=
  fLoadA h i hi hk rfl (by kernel_rfl)
theorem fPicNew {K : Addr → World → Prop} (h : Fr w0 w F) (hk : ∀ ad w', Fr w0 w' (sIt ad Pc.z.c :: F) → K ad w') : gAlloc P t_api_Picture w K :=
  fAlloc (z := .agg #[.int .i64 0, .int .i64 0, .int .i64 0, .int .i64 0, .int .i64 0]) h (by kernel_rfl) hk
theorem fPicSet {ad : Addr} {a b c d e : Int} {cs : List Value} {K : World → Prop} (h : Fr w0 w F) (i : Nat) (hi : F[i]? = some (sIt ad cs)) (hl : cs.length = 5) (hk : ∀ w', Fr w0 w' (F.set i (sIt ad (Pc.mk a b c d e).c)) → K w') : gStore P t_api_Picture (.pointer (some ad)) (.agg #[.int .i64 a, .int .i64 b, .int .i64 c, .int .i64 d, .int .i64 e]) w K :=
  fStoreA h i hi hk (by rw [hl]; rfl)
/-- The result of a function of two: stored, and read again. -/
theorem fPicEnd {ad : Addr} {r : Pc × Bool} {cs : List Value} (h : Fr w0 w F) (i : Nat) (hi : F[i]? = some (sIt ad cs)) (hl : cs.length = 5) {R : Ending → World → Prop} (hR : R = PicE w0 r) :
    gStore P t_api_Picture (.pointer (some ad)) (.agg #[.int .i64 r.1.wd, .int .i64 r.1.ht, .int .i64 r.1.pl, .int .i64 r.1.st, .int .i64 r.1.fr]) w fun ww => gLoad P t_api_Picture (.part (.agg [.int .i64, .int .i64, .int .i64, .int .i64, .int .i64])) (.pointer (some ad)) ww fun (r0_0 : Int) (r0_1 : Int) (r0_2 : Int) (r0_3 : Int) (r0_4 : Int) => R (.returned (.tuple #[.agg #[.int .i64 r0_0, .int .i64 r0_1, .int .i64 r0_2, .int .i64 r0_3, .int .i64 r0_4], .bool r.2])) ww := by
  subst hR
  refine fPicSet h i hi hl fun w3 f3 => fPic r.1 f3 i ?_ ⟨rfl, f3.old⟩
  have hlt := (List.getElem?_eq_some_iff.1 hi).1
  rw [List.getElem?_set_self hlt]
end
theorem rightPc_any {a b c d e n : Int} {w : World} (h1 : 0 ≤ d * b) (h2 : d * b ≤ 1000000000000) (h3 : 0 ≤ e) (h4 : e ≤ 1000000000000) : Calls P n_picture_right #[.agg #[.int .i64 a, .int .i64 b, .int .i64 c, .int .i64 d, .int .i64 e], .int .i64 n] w (PicE w (rightP ⟨a, b, c, d, e⟩ n)) := by
  refine of_picture_right (fBox (Fr.start w) fun p w1 f1 => fPicNew f1 fun t w2 f2 => fLoad_i f2 1 4 rfl rfl (fLoad_i f2 1 3 rfl rfl (fLoad_i f2 1 1 rfl rfl ?_)))
  rw [i64_id (n := d * b) (by omega) (by omega), i64_id (n := e + d * b) (by omega) (by omega)]
  unfold rightP
  refine gIf_dec (fun h => ?_) (fun h => ?_)
  · rw [if_pos h]; exact fPicEnd (r := no) f2 0 rfl rfl rfl
  · rw [if_neg h]; exact fPic ⟨a, b, c, d, e⟩ f2 1 rfl (fPicEnd (r := (⟨a, b, c, d, e⟩, true)) f2 0 rfl rfl rfl)
theorem rfits_any {a b c d e n : Int} {w : World} (h1 : 0 ≤ d ∧ d ≤ 100000000000) (h3 : 0 ≤ e ∧ e ≤ 1000000000000) (hn : 0 ≤ n ∧ n ≤ 1000000000000) : Calls P n_valiseref16_fits #[.agg #[.int .i64 a, .int .i64 b, .int .i64 c, .int .i64 d, .int .i64 e], .int .i64 n] w (fun r w' => r = .returned (.bool (fitsP ⟨a, b, c, d, e⟩ n)) ∧ Ev w w') := by
  have hno : ∀ {w1 : World}, Ev w w1 → ¬ (1 ≤ a ∧ a ≤ 32768 ∧ 1 ≤ b ∧ b ≤ 32768 ∧ e ≤ n ∧ d * b ≤ n - e) → (fun (r : Ending) w' => r = .returned (.bool (fitsP ⟨a, b, c, d, e⟩ n)) ∧ Ev w w') (.returned (.bool false)) w1 := fun he h => ⟨by unfold fitsP; rw [decide_eq_false h], he⟩
  refine of_valiseref16_fits (fBox (Fr.start w) fun p w1 f1 => fLoad_i f1 0 0 rfl rfl (gIf_dec (fun h1 => fLoad_i f1 0 0 rfl rfl (gIf_dec (fun h2 => fLoad_i f1 0 1 rfl rfl (gIf_dec (fun h3 => fLoad_i f1 0 1 rfl rfl (gIf_dec (fun h4 => fLoad_i f1 0 4 rfl rfl (gIf_dec (fun h5 => fLoad_i f1 0 3 rfl rfl (fLoad_i f1 0 1 rfl rfl (fLoad_i f1 0 4 rfl rfl ?_))) (fun _ => hno f1.old (by omega)))) (fun _ => hno f1.old (by omega)))) (fun _ => hno f1.old (by omega)))) (fun _ => hno f1.old (by omega)))) (fun _ => hno f1.old (by omega))))
  have p1 : 0 ≤ d * b := Int.mul_nonneg (by omega) (by omega)
  have p2 : d * b ≤ 100000000000 * 32768 := Int.mul_le_mul (by omega) (by omega) (by omega) (by omega)
  rw [i64_id (n := d * b) (by omega) (by omega), i64_id (n := n - e) (by omega) (by omega)]
  refine ⟨?_, f1.old⟩
  unfold fitsP
  congr 2
  exact decide_eq_decide.2 ⟨fun h => ⟨h1, h2, h3, h4, h5, h⟩, fun h => h.2.2.2.2.2⟩
section
variable {b : Value} {xs : List Int} {w : World}
theorem rwhite_any {a : Nat} (hb : Nm .u8 w b xs) (hl : xs.length ≤ 1000000000) (ha : a ≤ xs.length) : Calls P n_valiseref16_white #[b, .int .i64 (a : Int)] w (fun e w' => e = .returned (.int .i64 (whiteR xs a)) ∧ w' = w) := by
  refine of_valiseref16_white ⟨fun i w' => ∃ j f : Nat, i = j ∧ a ≤ j ∧ j ≤ xs.length ∧ xs.length < f + j ∧ blankL xs f j = blankI xs a ∧ w = w', fun i _ => xs.length - i.toNat, ⟨a, xs.length + 1 - a, rfl, Nat.le_refl _, ha, by omega, rfl, rfl⟩, ?_⟩
  rintro _ i _ ⟨j, f, rfl, haj, hj, hf, hbl, rfl⟩
  obtain ⟨f, rfl⟩ : ∃ g, f = g + 1 := ⟨f - 1, by omega⟩
  rw [blankL] at hbl
  refine gLen_nm hb (gIf_dec (fun hlt => ?_) (fun hge => ?_))
  · rw [if_pos (show j < xs.length by omega)] at hbl
    refine gIdx_nm hb (by omega) hlt fun a1 c1 _ => gLoad_i c1 (gCall_b0 rblank_any ?_)
    rw [i64_id (n := (j : Int) + 1) (by omega) (by omega)]
    cases hw : whiteB (rd xs j) with
    | true =>
      rw [hw, if_pos rfl] at hbl
      exact gIf_t ⟨⟨j + 1, f, rfl, by omega, by omega, by omega, hbl, rfl⟩, by dsimp only; omega⟩
    | false =>
      rw [hw, if_neg (by simp)] at hbl
      refine gIf_f (gIdx_nm hb (by omega) hlt fun a2 c2 _ => gLoad_i c2 (gIf_eq (fun e35 => ?_) (fun n35 => ?_)))
      · rw [if_pos e35] at hbl
        refine ⟨fun i w' => ∃ j2 : Nat, i = j2 ∧ j ≤ j2 ∧ j2 ≤ xs.length ∧ nlI xs j2 = nlI xs j ∧ w = w', fun i _ => xs.length - i.toNat, ⟨j, rfl, by omega, hj, rfl, rfl⟩, ?_⟩
        rintro _ i2 _ ⟨j2, rfl, hjj, hj2, hn, rfl⟩
        rw [← hn] at hbl
        refine gLen_nm hb (gIf_dec (fun hlt2 => ?_) (fun hge2 => ?_))
        · refine gIdx_nm hb (by omega) hlt2 fun a3 c3 _ => gLoad_i c3 (gIf_neq (fun n10 => ?_) (fun e10 => ?_))
          · rw [i64_id (n := (j2 : Int) + 1) (by omega) (by omega)]
            rw [nlI_step (by omega), if_neg n10] at hn
            exact ⟨⟨j2 + 1, rfl, by omega, by omega, hn, rfl⟩, by dsimp only; omega⟩
          · rw [nlI_step (by omega), if_pos e10] at hbl
            refine gLen_nm hb (gIf_eq (fun e => by omega) (fun _ => ?_))
            rw [i64_id (n := (j2 : Int) + 1) (by omega) (by omega)]
            exact ⟨⟨j2 + 1, f, rfl, by omega, by omega, by omega, hbl, rfl⟩, by dsimp only; omega⟩
        · have hnn : nlI xs j2 = none := by unfold nlI; rw [show xs.length - j2 = 0 by omega]; rfl
          rw [hnn] at hbl
          refine gLen_nm hb (gIf_eq (fun e => ?_) (fun e => by omega))
          unfold whiteR; rw [← hbl, if_neg (by simp)]; exact ⟨rfl, rfl⟩
      · rw [if_neg n35] at hbl
        unfold whiteR
        rw [← hbl]
        refine gIf_eq (fun e => ?_) (fun e => ?_)
        · rw [if_neg (by dsimp only; omega)]; exact ⟨rfl, rfl⟩
        · rw [if_pos ⟨rfl, by dsimp only; omega, by dsimp only; omega⟩]; exact ⟨rfl, rfl⟩
  · rw [if_neg (show ¬ j < xs.length by omega)] at hbl
    unfold whiteR; rw [← hbl, if_neg (by dsimp only; omega)]; exact ⟨rfl, rfl⟩
theorem rnumber_any {a : Nat} (hb : Nm .u8 w b xs) (hl : xs.length ≤ 1000000000) (ha : a ≤ xs.length) : Calls P n_valiseref16_number #[b, .int .i64 (a : Int)] w (fun e w' => e = .returned (.tuple #[.int .i64 (numRR xs a).1, .int .i64 (numRR xs a).2]) ∧ w' = w) := by
  refine of_valiseref16_number ⟨fun at1 v n w' => ∃ k : Nat, at1 = ((a + k : Nat) : Int) ∧ n = k ∧ runL xs 6 a 0 = (k, v) ∧ w = w', ⟨fun at1 v n w' => ∃ k : Nat, at1 = ((a + k : Nat) : Int) ∧ n = k ∧ k ≤ 6 ∧ 0 ≤ v ∧ v < ((10 ^ k : Nat) : Int) ∧ a + k ≤ xs.length ∧ runL xs 6 a 0 = (k + (runL xs (6 - k) (a + k) v).1, (runL xs (6 - k) (a + k) v).2) ∧ w = w', fun at1 _ _ _ => xs.length - at1.toNat, ⟨0, rfl, rfl, by omega, by omega, by decide, ha, by simp, rfl⟩, ?_⟩, ?_⟩
  · rintro _ at1 v n _ ⟨k, rfl, rfl, hk, hv0, hv1, hak, hr, rfl⟩
    have stop : ¬ (k < 6 ∧ a + k < xs.length ∧ digB (rd xs ((a + k : Nat) : Int)) = true) → runL xs 6 a 0 = (k, v) := fun hn => by
      rw [hr]
      by_cases h6 : k < 6
      · rw [show 6 - k = (5 - k) + 1 by omega, runL, if_neg (fun h => hn ⟨h6, h.1, h.2⟩)]; rfl
      · rw [show 6 - k = 0 by omega]; rfl
    refine ⟨fun w' => (k < 6 ∧ a + k < xs.length ∧ digB (rd xs ((a + k : Nat) : Int)) = true) ∧ w = w', gLen_nm hb (gIf_dec (fun hlt => gIdx_nm hb (by omega) hlt fun a1 c1 _ => gLoad_i c1 (gIf_dec (fun h48 => gIdx_nm hb (by omega) hlt fun a2 c2 _ => gLoad_i c2 (gIf_dec (fun h57 => gIf_dec (fun h6 => ⟨⟨by omega, by omega, digB_iff.2 ⟨h48, h57⟩⟩, rfl⟩) (fun h6 => ⟨k, rfl, rfl, stop (by omega), rfl⟩)) (fun h57 => ⟨k, rfl, rfl, stop (fun h => h57 (digB_iff.1 h.2.2).2), rfl⟩))) (fun h48 => ⟨k, rfl, rfl, stop (fun h => h48 (digB_iff.1 h.2.2).1), rfl⟩))) (fun hge => ⟨k, rfl, rfl, stop (by omega), rfl⟩)), ?_⟩
    rintro _ _ ⟨⟨h6, hlt, hd⟩, rfl⟩
    refine gIdx_nm hb (by omega) (by omega) fun a1 c1 _ => gLoad_i c1 ?_
    have hd' := digB_iff.1 hd
    have hp : ((10 ^ (k + 1) : Nat) : Int) = ((10 ^ k : Nat) : Int) * 10 := by rw [Nat.pow_succ, Int.natCast_mul]; rfl
    have hq : ((10 ^ k : Nat) : Int) ≤ ((100000 : Nat) : Int) := Int.ofNat_le.2 (Nat.le_trans (Nat.pow_le_pow_right (by decide) (show k ≤ 5 by omega)) (by decide))
    rw [u8_id (n := rd xs ((a + k : Nat) : Int) - 48) (by omega) (by omega), i64_id (n := rd xs ((a + k : Nat) : Int) - 48) (by omega) (by omega), i64_id (n := 10 * v) (by omega) (by omega), i64_id (n := 10 * v + _) (by omega) (by omega), i64_id (n := (k : Int) + 1) (by omega) (by omega),
      show i64 (((a + k : Nat) : Int) + 1) = ((a + (k + 1) : Nat) : Int) by rw [i64_id (by omega) (by omega)]; omega]
    refine ⟨⟨k + 1, rfl, by omega, by omega, by omega, by rw [hp]; omega, by omega, ?_, rfl⟩, by dsimp only; omega⟩
    rw [hr, show 6 - k = (5 - k) + 1 by omega, runL, if_pos ⟨hlt, hd⟩, show 6 - (k + 1) = 5 - k by omega, show a + (k + 1) = a + k + 1 by omega]
    dsimp only
    congr 1; omega
  · rintro _ at1 v n _ ⟨k, rfl, rfl, hr, rfl⟩
    unfold numRR
    rw [hr]
    refine gIf_ndec (fun h1 => gIf_dec (fun h5 => ?_) (fun h5 => ?_)) (fun h1 => ?_)
    · rw [if_pos (by dsimp only; omega)]; exact ⟨rfl, rfl⟩
    · rw [if_neg (by dsimp only; omega)]; exact ⟨rfl, rfl⟩
    · rw [if_pos (by dsimp only; omega)]; exact ⟨rfl, rfl⟩
end
end Go.Proofs.YtilpoinhfiajcaaGreatDoorV

/- Package picture: Pnm, and the same of valiseref16, as a whole. -/
namespace Go.Proofs.YtilpoinhfiajcaaGreatDoorV
open Go Go.RowKit
section
variable {b : Value} {xs : List Int} {w : World}
theorem toks_at {tk : Nat → Nat → Option (Int × Nat)} (hb : ∀ {j a v b}, a ≤ xs.length → tk j a = some (v, b) → b ≤ xs.length) (h2 : 2 ≤ xs.length) : ∀ {j : Nat} {l : List Int} {a : Nat}, toks tk j = some (l, a) → a ≤ xs.length
  | 0, l, a, h => by simp [toks] at h; omega
  | j + 1, l, a, h => by
    simp only [toks, Option.bind_eq_some_iff, Option.map_eq_some_iff, Prod.mk.injEq] at h
    obtain ⟨⟨l1, a1⟩, h1, ⟨v, q⟩, h2', rfl, rfl⟩ := h
    exact hb (toks_at hb h2 h1) h2'
theorem tokR_at {a b : Nat} {v : Int} (ha : a ≤ xs.length) (h : tokR xs a = some (v, b)) : b ≤ xs.length ∧ 0 ≤ v ∧ v < 1000000 := by
  unfold tokR at h
  split at h
  · cases h
  · split at h
    · cases h
    · rename_i h1 h2
      injection h with h; injection h with e1 e2
      have hk := (blankL_bd (xs := xs) (f := xs.length + 1 - a) ha).2
      have hk' : (blankI xs a).2 ≤ xs.length := hk
      have hr := runL_bd (xs := xs) (f := 6) (v := 0) hk'
      have hv := runL_rng (xs := xs) (f := 6) (a := (blankI xs a).2) (v := 0) (m := 1) (by omega) (by omega)
      unfold numRR at h2 e1 e2
      split at h2
      · exact absurd (show (-1 : Int) < 0 by omega) h2
      · rename_i hc
        rw [if_neg hc] at e1 e2
        dsimp only at e1 e2
        rw [Int.toNat_natCast] at e2
        subst e1; subst e2
        have e6 : (1 : Int) * ((10 ^ 6 : Nat) : Int) = 1000000 := by decide
        omega
theorem tokP_at {a b : Nat} {v m : Int} (ha : a ≤ xs.length) (h : tokP xs m a = some (v, b)) : b ≤ xs.length ∧ 1 ≤ v ∧ v ≤ m := ⟨(tokR_at ha (tok_iff.1 h).1).1, (tok_iff.1 h).2⟩
/-- The cells of three numbers, told so far. -/
def arP (l : List Int) : List Value := [.int .i64 (l.getD 0 0), .int .i64 (l.getD 1 0), .int .i64 (l.getD 2 0)]
theorem arP_set {l : List Int} {j : Nat} {v : Int} (hl : l.length = j) (hj : j < 3) : (arP l).set j (.int .i64 v) = arP (l ++ [v]) := by
  have : j = 0 ∨ j = 1 ∨ j = 2 := by omega
  unfold arP
  rcases this with rfl | rfl | rfl
  · obtain rfl : l = [] := List.eq_nil_of_length_eq_zero hl
    rfl
  · obtain ⟨a, rfl⟩ := List.length_eq_one_iff.1 hl
    rfl
  · obtain ⟨a, b, rfl⟩ : ∃ a b, l = [a, b] := by
      match l, hl with
      | [a, b], _ => exact ⟨a, b, rfl⟩
    rfl
theorem toks_step {tk : Nat → Nat → Option (Int × Nat)} {j : Nat} {l : List Int} {a : Nat} (h : toks tk j = some (l, a)) : toks tk (j + 1) = (tk j a).map fun q => (l ++ [q.1], q.2) := by rw [toks, h]; rfl
theorem toks_no {tk : Nat → Nat → Option (Int × Nat)} {j : Nat} {l : List Int} {a : Nat} (h : toks tk j = some (l, a)) (hj : j < 3) (hn : tk j a = none) : toks tk 3 = none := by
  have h1 : toks tk (j + 1) = none := by rw [toks_step h, hn]; rfl
  have := toks_up h1 (2 - j)
  rwa [show j + 1 + (2 - j) = 3 by omega] at this
theorem toks_yes {tk : Nat → Nat → Option (Int × Nat)} {j : Nat} {l : List Int} {a c : Nat} {v : Int} (h : toks tk j = some (l, a)) (hn : tk j a = some (v, c)) : toks tk (j + 1) = some (l ++ [v], c) := by rw [toks_step h, hn]; rfl
theorem hdP_t (h : hdP xs = true) : 2 ≤ xs.length ∧ rd xs 0 = 80 ∧ (rd xs 1 = 53 ∨ rd xs 1 = 54) := of_decide_eq_true h
theorem rPnm_any (hb : Nm .u8 w b xs) (hl : xs.length ≤ 1000000000) : Calls P n_valiseref16_Pnm #[b] w (PicE w (pnmR xs)) := by
  have bad : ∀ {w1 : World} {F : List It} {ad : Addr} {cs : List Value}, Fr w w1 F → ∀ (i : Nat), F[i]? = some (sIt ad cs) → cs.length = 5 → pnmR xs = no →
      gStore P t_api_Picture (.pointer (some ad)) (.agg #[.int .i64 0, .int .i64 0, .int .i64 0, .int .i64 0, .int .i64 0]) w1 fun ww => gLoad P t_api_Picture (.part (.agg [.int .i64, .int .i64, .int .i64, .int .i64, .int .i64])) (.pointer (some ad)) ww fun (r0_0 : Int) (r0_1 : Int) (r0_2 : Int) (r0_3 : Int) (r0_4 : Int) => PicE w (pnmR xs) (.returned (.tuple #[.agg #[.int .i64 r0_0, .int .i64 r0_1, .int .i64 r0_2, .int .i64 r0_3, .int .i64 r0_4], .bool false])) ww :=
    fun f i hi hc hno => fPicEnd (r := no) f i hi hc (by rw [hno])
  have nohd : hdP xs = false → pnmR xs = no := fun h => by unfold pnmR; rw [h, if_neg (by simp)]
  refine of_valiseref16_Pnm (fPicNew (Fr.start w) fun t2 w1 f1 => ⟨fun w' => hdP xs = true ∧ Fr w w' [sIt t2 Pc.z.c], ?_, ?_⟩)
  · have hbw := hb.ev f1.old
    refine gLen_nm hb (gIf_ndec (fun h2 => gIdx_nm hbw (by omega) (by omega) fun a1 c1 _ => gLoad_i c1 (gIf_nneq (fun e80 => gIdx_nm hbw (by omega) (by omega) fun a2 c2 _ => gLoad_i c2 (gIf_neq (fun n53 => gIdx_nm hbw (by omega) (by omega) fun a3 c3 _ => gLoad_i c3 (gIf_neq (fun n54 => bad f1 0 rfl rfl (nohd (decide_eq_false (by omega)))) (fun e54 => ⟨decide_eq_true (by omega), f1⟩))) (fun e53 => ⟨decide_eq_true (by omega), f1⟩))) (fun n80 => bad f1 0 rfl rfl (nohd (decide_eq_false (by omega)))))) (fun h2 => bad f1 0 rfl rfl (nohd (decide_eq_false (by omega)))))
  rintro _ w5 ⟨hd, f5⟩
  obtain ⟨h2, e80, e5⟩ := hdP_t hd
  have hpl := plP_rng xs
  refine fPicNew f5 fun p4 w6 f6 => fPicSet f6 0 rfl rfl fun w7 f7 => ⟨fun w' => Fr w w' [sIt p4 (Pc.mk 0 0 (plP xs) 0 0).c, sIt t2 Pc.z.c], ?_, ?_⟩
  · have hbw := hb.ev f7.old
    refine gIdx_nm hbw (by omega) (by omega) fun a1 c1 _ => gLoad_i c1 (gIf_eq (fun e54 => fStore f7 0 2 rfl fun w8 f8 => ?_) (fun n54 => ?_))
    · have : plP xs = 3 := by unfold plP; rw [if_pos e54]
      rw [this]; exact f8
    · have : plP xs = 1 := by unfold plP; rw [if_neg n54]
      rw [this]; exact f7
  rintro _ w9 f9
  refine fAlloc (z := .agg #[.int .i64 0, .int .i64 0, .int .i64 0]) f9 (by kernel_rfl) fun v5 w10 f10 => ⟨fun at1 i w' => ∃ (j : Nat) (l : List Int) (a : Nat), at1 = a ∧ i = j ∧ j ≤ 3 ∧ toks (tkR xs) j = some (l, a) ∧ Fr w w' [sIt v5 (arP l), sIt p4 (Pc.mk 0 0 (plP xs) 0 0).c, sIt t2 Pc.z.c], fun _ i _ => 3 - i.toNat, ⟨0, [], 2, rfl, rfl, by omega, rfl, f10⟩, ?_⟩
  rintro _ at1 i w11 ⟨j, l, a, rfl, rfl, hj, ht, f11⟩
  have hbw := hb.ev f11.old
  have hal : a ≤ xs.length := toks_at (fun ha h => (tokR_at ha h).1) h2 ht
  have hll := toks_len ht
  have nott : toks (tkR xs) 3 = none → pnmR xs = no := fun h => by unfold pnmR; rw [hd, if_pos rfl, h]
  refine gIf_dec (fun hlt => ?_) (fun hge => ?_)
  · refine gCall_i0 (rwhite_any hbw hl hal) (gIf_dec (fun hneg => ?_) (fun hneg => ?_))
    · exact bad f11 2 rfl rfl (nott (toks_no ht (by omega) (by show tokR xs a = none; unfold tokR; rw [if_pos hneg])))
    · have hw : whiteR xs a = ((blankI xs a).2 : Int) := by
        unfold whiteR at hneg ⊢
        split at hneg
        · rename_i hc; rw [if_pos hc]
        · omega
      have hk : (blankI xs a).2 ≤ xs.length := (blankL_bd (xs := xs) (f := xs.length + 1 - a) hal).2
      rw [hw]
      refine gCall_of (rnumber_any hbw hl hk) ?_
      rintro _ _ ⟨rfl, rfl⟩
      refine ⟨_, _, rfl, ?_⟩
      refine gIdx_ar1 3 j rfl (by omega) ?_
      refine fStore f11 0 j rfl (hj := by show j < 3; omega) fun w15 f15 => gIf_dec (fun hn2 => ?_) (fun hn2 => ?_)
      · exact bad f15 2 rfl rfl (nott (toks_no ht (by omega) (by show tokR xs a = none; unfold tokR; rw [if_neg hneg, if_pos hn2])))
      · have htk : tkR xs j a = some ((numRR xs (blankI xs a).2).1, (numRR xs (blankI xs a).2).2.toNat) := by show tokR xs a = _; unfold tokR; rw [if_neg hneg, if_neg hn2]
        rw [i64_id (n := (j : Int) + 1) (by omega) (by omega)]
        refine ⟨⟨j + 1, _, _, by omega, rfl, by omega, toks_yes ht htk, ?_⟩, by dsimp only; omega⟩
        rw [← arP_set hll (by omega)]
        exact f15
  · obtain rfl : j = 3 := by omega
    have hends : pnmR xs = endPR xs l a := by unfold pnmR; rw [hd, if_pos rfl, ht]
    have nend : ¬ (a < xs.length ∧ whiteB (rd xs a) = true ∧ 1 ≤ l.getD 2 0 ∧ l.getD 2 0 ≤ 255) → pnmR xs = no := fun h => by rw [hends]; unfold endPR; rw [if_neg h]
    refine ⟨fun w' => (a < xs.length ∧ whiteB (rd xs a) = true ∧ 1 ≤ l.getD 2 0 ∧ l.getD 2 0 ≤ 255) ∧ Fr w w' [sIt v5 (arP l), sIt p4 (Pc.mk 0 0 (plP xs) 0 0).c, sIt t2 Pc.z.c], ?_, ?_⟩
    · refine gLen_nm hb (gIf_ndec (fun hlt => gIdx_nm hbw (by omega) (by omega) fun a1 c1 _ => gLoad_i c1 (gCall_b0 rblank_any ?_)) (fun hge => bad f11 2 rfl rfl (nend (by omega))))
      cases hw : whiteB (rd xs a) with
      | false => exact gIf_nnf (bad f11 2 rfl rfl (nend (by rw [hw]; simp)))
      | true =>
        refine gIf_nn (gIdx_ar1 3 2 rfl (by omega) (fLoad_i f11 0 2 rfl rfl (gIf_ndec (fun g1 => gIdx_ar1 3 2 rfl (by omega) (fLoad_i f11 0 2 rfl rfl (gIf_dec (fun g2 => bad f11 2 rfl rfl (nend (by omega))) (fun g2 => ⟨⟨by omega, rfl, by omega, by omega⟩, f11⟩)))) (fun g1 => bad f11 2 rfl rfl (nend (by omega))))))
    · rintro _ w22 ⟨hc, f22⟩
      have hends2 : pnmR xs = if fitsP (pcP xs l a) xs.length then (pcP xs l a, true) else no := by rw [hends]; unfold endPR; rw [if_pos hc]
      have hv : ∀ i, i < 3 → 0 ≤ l.getD i 0 ∧ l.getD i 0 < 1000000 := by
        have : ∀ {j : Nat} {l : List Int} {a : Nat}, toks (tkR xs) j = some (l, a) → ∀ i, i < j → 0 ≤ l.getD i 0 ∧ l.getD i 0 < 1000000 := by
          intro j
          induction j with
          | zero => intro l a _ i hi; omega
          | succ j ih =>
            intro l a h i hi
            simp only [toks, Option.bind_eq_some_iff, Option.map_eq_some_iff, Prod.mk.injEq] at h
            obtain ⟨⟨l1, a1⟩, h1, ⟨v, q⟩, h2', rfl, rfl⟩ := h
            have hl1 := toks_len h1
            dsimp only at *
            by_cases e : i < j
            · rw [getD_app_l (by omega)]; exact ih h1 i e
            · obtain rfl : i = j := by omega
              rw [getD_app_r (by omega), hl1, Nat.sub_self]
              exact (tokR_at (toks_at (fun ha h => (tokR_at ha h).1) h2 h1) h2').2
        exact this ht
      have v0 := hv 0 (by omega)
      have hst : 0 ≤ l.getD 0 0 * plP xs ∧ l.getD 0 0 * plP xs ≤ 3000000 := by rcases hpl with e | e <;> rw [e] <;> omega
      refine ⟨fun w' => w'.cell? (v5.add 0) = some (.int .i64 (l.getD 0 0)) ∧ w'.cell? (v5.add 1) = some (.int .i64 (l.getD 1 0)), ⟨f22.drew.cell 0 0 rfl rfl, f22.drew.cell 0 1 rfl rfl⟩, gIdx_ar1 3 0 rfl (by omega) (gLoadB_i (fun _ h => h.1) (gIdx_ar1 3 1 rfl (by omega) (gLoadB_i (fun _ h => h.2) (fStore f22.drew 1 0 rfl fun w23 f23 => ⟨⟨f23.cell 0 0 rfl rfl, f23.cell 0 1 rfl rfl⟩, fStore f23 1 1 rfl fun w24 f24 => ⟨⟨f24.cell 0 0 rfl rfl, f24.cell 0 1 rfl rfl⟩, fStore f24 1 4 rfl fun w25 f25 => ⟨⟨f25.cell 0 0 rfl rfl, f25.cell 0 1 rfl rfl⟩, ?_⟩⟩⟩))))⟩
      refine fLoad_i f25 1 0 rfl rfl (fLoad_i f25 1 2 rfl rfl (fStore f25 1 3 rfl fun w26 f26 => ?_))
      rw [i64_id (n := l.getD 0 0 * plP xs) (by omega) (by omega), show i64 ((a : Int) + 1) = ((a + 1 : Nat) : Int) by rw [i64_id (by omega) (by omega)]; omega] at f26
      refine fPic (pcP xs l a) f26 1 rfl (gLen_nm hb ?_)
      refine gCall_b (rfits_any (by exact ⟨hst.1, by have := hst.2; show l.getD 0 0 * plP xs ≤ _; omega⟩) (by show (0 : Int) ≤ ((a + 1 : Nat) : Int) ∧ ((a + 1 : Nat) : Int) ≤ 1000000000000; omega) (by omega)) fun w27 h27 => ?_
      have f27 := f26.ev h27
      change gIf (!(fitsP (pcP xs l a) xs.length)) _ _
      cases hf : fitsP (pcP xs l a) xs.length with
      | false => exact gIf_nf (bad f27 2 rfl rfl (by rw [hends2, hf]; rfl))
      | true =>
        refine gIf_nt (fPic (pcP xs l a) f27 1 rfl (fPicEnd (r := (pcP xs l a, true)) f27 2 rfl rfl ?_))
        rw [hends2, hf]; rfl
end
end Go.Proofs.YtilpoinhfiajcaaGreatDoorV

/- Package picture: Pnm. -/
namespace Go.Proofs.YtilpoinhfiajcaaGreatDoorV
open Go Go.RowKit
section
variable {b : Value} {xs : List Int} {w : World}
theorem Fr.sg {w0 w : World} {F : List It} {ad : Addr} {a : Nat} (h : Fr w0 w F) (i : Nat) (hi : F[i]? = some (sIt ad [b, .int .i64 a])) (hb : Nm .u8 w0 b xs) (ha : a ≤ xs.length) (hl : xs.length ≤ 1000000000) : SG w ad b xs a :=
  ⟨h.get i hi, hb.ev h.old, fun hx hg => by
    have h1 := (h.ft i hi (k := ad.block) rfl).1
    have h2 := hb.old hx hg
    omega, ha, hl⟩
theorem Fr.gs {w0 w w' : World} {F : List It} {ad : Addr} {a a2 : Nat} (h : Fr w0 w F) (i : Nat) (hi : F[i]? = some (sIt ad [b, .int .i64 a])) (g : GS w w' ad b xs a2) : Fr w0 w' (F.set i (sIt ad [b, .int .i64 a2])) :=
  h.upd i hi g.2 (fun k _ hh => .inl hh.1) g.1.1 fun k hk => .inl hk
theorem numPI_at {a : Nat} {m : Int} (ha : a ≤ xs.length) : (numPI xs a m).2 ≤ xs.length ∧ 0 ≤ (numPI xs a m).1 := by
  have hr := runL_bd (xs := xs) (f := 6) (v := 0) ha
  have hn := runL_nn (xs := xs) (f := 6) (a := a) (v := 0) (by omega)
  unfold numPI
  split
  · exact ⟨by dsimp only; omega, by dsimp only; omega⟩
  · split
    · exact ⟨by dsimp only; omega, by dsimp only; omega⟩
    · exact ⟨by dsimp only; omega, hn⟩
def qP (j : Nat) : Nat := if j < 2 then j else 4
theorem qP_rng (j : Nat) : qP j < 5 := by unfold qP; split <;> omega
/-- The picture's cells, told so far. -/
def pcsP (pl : Int) (l : List Int) : List Value := (Pc.mk (l.getD 0 0) (l.getD 1 0) pl 0 (l.getD 2 0)).c
theorem pcsP_set {l : List Int} {j : Nat} {pl v : Int} (hl : l.length = j) (hj : j < 3) : (pcsP pl l).set (qP j) (.int .i64 v) = pcsP pl (l ++ [v]) := by
  have : j = 0 ∨ j = 1 ∨ j = 2 := by omega
  unfold pcsP
  rcases this with rfl | rfl | rfl
  · obtain rfl : l = [] := List.eq_nil_of_length_eq_zero hl
    rfl
  · obtain ⟨a, rfl⟩ := List.length_eq_one_iff.1 hl
    rfl
  · obtain ⟨a, b, rfl⟩ : ∃ a b, l = [a, b] := by
      match l, hl with
      | [a, b], _ => exact ⟨a, b, rfl⟩
    rfl
/-- What is asked for, three times. -/
def litP (p4 : Addr) : List Value := [.pointer (some (p4.add 0)), .int .i64 32768, .pointer (some (p4.add 1)), .int .i64 32768, .pointer (some (p4.add 4)), .int .i64 255]
theorem litP_at {p4 : Addr} {j : Nat} (hj : j < 3) : (litP p4)[j * 2 + 0]? = some (.pointer (some (p4.add (qP j)))) ∧ (litP p4)[j * 2 + 1]? = some (.int .i64 (moP j)) := by
  have : j = 0 ∨ j = 1 ∨ j = 2 := by omega
  rcases this with rfl | rfl | rfl <;> exact ⟨rfl, rfl⟩
theorem Pnm_any (hb : Nm .u8 w b xs) (hl : xs.length ≤ 1000000000) : Calls P n_picture_Pnm #[b] w (PicE w (pnmP xs)) := by
  have bad : ∀ {w1 : World} {F : List It} {ad : Addr} {cs : List Value}, Fr w w1 F → ∀ (i : Nat), F[i]? = some (sIt ad cs) → cs.length = 5 → pnmP xs = no →
      gStore P t_api_Picture (.pointer (some ad)) (.agg #[.int .i64 0, .int .i64 0, .int .i64 0, .int .i64 0, .int .i64 0]) w1 fun ww => gLoad P t_api_Picture (.part (.agg [.int .i64, .int .i64, .int .i64, .int .i64, .int .i64])) (.pointer (some ad)) ww fun (r0_0 : Int) (r0_1 : Int) (r0_2 : Int) (r0_3 : Int) (r0_4 : Int) => PicE w (pnmP xs) (.returned (.tuple #[.agg #[.int .i64 r0_0, .int .i64 r0_1, .int .i64 r0_2, .int .i64 r0_3, .int .i64 r0_4], .bool false])) ww :=
    fun f i hi hc hno => fPicEnd (r := no) f i hi hc (by rw [hno])
  have nohd : hdP xs = false → pnmP xs = no := fun h => by unfold pnmP; rw [h, if_neg (by simp)]
  refine of_picture_Pnm (fPicNew (Fr.start w) fun t2 w1 f1 => fPicNew f1 fun p4 w2 f2 => fPicSet f2 0 rfl rfl fun w3 f3 => ⟨fun w' => hdP xs = true ∧ Fr w w' [sIt p4 (Pc.mk 0 0 (plP xs) 0 0).c, sIt t2 Pc.z.c], ⟨fun t w' => t = !hdP xs ∧ w3 = w', ?_, ?_⟩, ?_⟩)
  · have hbw := hb.ev f3.old
    have n1 : ∀ {t : Bool}, t = true → ¬ (2 ≤ xs.length ∧ rd xs 0 = 80 ∧ (rd xs 1 = 53 ∨ rd xs 1 = 54)) → t = !hdP xs := fun ht h => by rw [ht, hdP, decide_eq_false h]; rfl
    have n2 : ∀ {t : Bool}, t = false → (2 ≤ xs.length ∧ rd xs 0 = 80 ∧ (rd xs 1 = 53 ∨ rd xs 1 = 54)) → t = !hdP xs := fun ht h => by rw [ht, hdP, decide_eq_true h]; rfl
    refine gLen_nm hb (gIf_ndec (fun h2 => gIdx_nm hbw (by omega) (by omega) fun a1 c1 _ => gLoad_i c1 (gIf_nneq (fun e80 => gIdx_nm hbw (by omega) (by omega) fun a2 c2 _ => gLoad_i c2 (gIf_neq (fun n53 => gIdx_nm hbw (by omega) (by omega) fun a3 c3 _ => gLoad_i c3 ⟨?_, rfl⟩) (fun e53 => ⟨n2 rfl (by omega), rfl⟩))) (fun n80 => ⟨n1 rfl (by omega), rfl⟩))) (fun h2 => ⟨n1 rfl (by omega), rfl⟩))
    by_cases e54 : rd xs 1 = 54
    · exact n2 (by simp [e54]) (by omega)
    · exact n1 (by simp [e54]) (by omega)
  · rintro _ _ _ ⟨rfl, rfl⟩
    have hbw := hb.ev f3.old
    cases hd : hdP xs with
    | false => exact gIf_nf (bad f3 1 rfl rfl (nohd hd))
    | true =>
      obtain ⟨h2, e80, e5⟩ := hdP_t hd
      refine gIf_nt (gIdx_nm hbw (by omega) (by omega) fun a1 c1 _ => gLoad_i c1 (gIf_eq (fun e54 => fStore f3 0 2 rfl fun w8 f8 => ⟨rfl, ?_⟩) (fun n54 => ⟨rfl, ?_⟩)))
      · have : plP xs = 3 := by unfold plP; rw [if_pos e54]
        rw [this]; exact f8
      · have : plP xs = 1 := by unfold plP; rw [if_neg n54]
        rw [this]; exact f3
  rintro _ w7 ⟨hd, f7⟩
  obtain ⟨h2, e80, e5⟩ := hdP_t hd
  have hpl := plP_rng xs
  refine ⟨hb.one, fBox f7 fun t40 w8 f8 => fLit_sz 2 [[.pointer (some (p4.add 0)), .int .i64 32768], [.pointer (some (p4.add 1)), .int .i64 32768], [.pointer (some (p4.add 4)), .int .i64 255]] f8 rfl rfl (by simp) (fun lt w9 f9 => gLen_sl ⟨fun t49 w' => ∃ (j : Nat) (l : List Int) (a : Nat), t49 = j ∧ j ≤ 3 ∧ toks (tkP xs) j = some (l, a) ∧ Fr w w' [sIt lt (litP p4), sIt t40 [b, .int .i64 a], sIt p4 (pcsP (plP xs) l), sIt t2 Pc.z.c], fun i _ => 3 - i.toNat, ⟨0, [], 2, rfl, by omega, rfl, f9⟩, ?_⟩) (hz := by decide +kernel)⟩
  rintro _ i w10 ⟨j, l, a, rfl, hj, ht, f10⟩
  have hbw := hb.ev f10.old
  have hal : a ≤ xs.length := toks_at (fun ha h => (tokP_at ha h).1) h2 ht
  have hll := toks_len ht
  have nott : toks (tkP xs) 3 = none → pnmP xs = no := fun h => by unfold pnmP; rw [hd, if_pos rfl, h]
  refine gIf_dec (fun hlt => ?_) (fun hge => ?_)
  · have hj3 : j < 3 := by omega
    have hlj := litP_at (p4 := p4) hj3
    refine gIdx_lit (sz := 2) j rfl hj3 (gLoad_agg [.pointer (some (p4.add (qP j))), .int .i64 (moP j)] (fun q u hq => ?_) ?_ rfl (by kernel_rfl))
    · rw [Addr.add2']
      match q, hq with
      | 0, hq => injection hq with hq; subst hq; exact f10.cell 0 _ rfl hlj.1
      | 1, hq => injection hq with hq; subst hq; exact f10.cell 0 _ rfl hlj.2
      | q + 2, hq => simp at hq
    show gAlloc _ _ _ _
    refine fAlloc (z := .agg #[.pointer none, .int .i64 0]) f10 (by kernel_rfl) fun x7 w11 f11 => fStoreA f11 0 rfl fun w12 f12 => ?_
    have hk : (blankI xs a).2 ≤ xs.length := (blankL_bd (xs := xs) (f := xs.length + 1 - a) hal).2
    refine gCall_b (blank_any (f12.sg 2 rfl hb hal hl)) fun w13 h13 => ?_
    have f13 := f12.gs 2 rfl h13
    refine gIf_of (fun hbt => ?_) (fun hbt => ?_)
    · refine bad f13 4 rfl rfl (nott (toks_no ht hj3 ?_))
      show tokP xs (moP j) a = none
      unfold tokP
      rw [if_neg]
      rintro ⟨q1, q2, _⟩
      rw [q1, decide_eq_true q2] at hbt; cases hbt
    have hbt2 : (blankI xs a).1 = true ∧ (blankI xs a).2 > a := by simpa using hbt
    have n13 := numPI_at (m := moP j) hk
    refine ⟨fun w' => w'.cell? (x7.add 0) = some (.pointer (some (p4.add (qP j)))) ∧ w'.cell? (x7.add 1) = some (.int .i64 (moP j)), ⟨f13.drew.cell 0 0 rfl rfl, f13.drew.cell 0 1 rfl rfl⟩, gLoadB_p (fun _ h => h.1) (gLoadB_i (fun _ h => h.2) (gCall_i (number_any (f13.drew.sg 2 rfl hb hk hl)) fun w15 h15 => ?_))⟩
    have f15 := f13.drew.gs 2 rfl h15
    refine ⟨⟨f15.cell 0 0 rfl rfl, f15.cell 0 1 rfl rfl⟩, gNil_some (fStore f15 3 (qP j) rfl (hj := by show qP j < 5; exact qP_rng j) fun w16 f16 => ⟨⟨f16.cell 0 0 rfl rfl, f16.cell 0 1 rfl rfl⟩, fLoad_p f16 0 0 rfl rfl (gNil_some ?_)⟩)⟩
    have hset : (pcsP (plP xs) l).set (qP j) (.int .i64 (numPI xs (blankI xs a).2 (moP j)).1) = pcsP (plP xs) (l ++ [(numPI xs (blankI xs a).2 (moP j)).1]) := pcsP_set hll hj3
    have hat : ((pcsP (plP xs) l).set (qP j) (.int .i64 (numPI xs (blankI xs a).2 (moP j)).1))[qP j]? = some (.int .i64 (numPI xs (blankI xs a).2 (moP j)).1) := List.getElem?_set_self (by show qP j < 5; exact qP_rng j)
    refine fLoad_i f16 3 (qP j) rfl hat (gIf_eq (fun e0 => ?_) (fun n0 => ?_))
    · refine bad f16 4 rfl rfl (nott (toks_no ht hj3 ?_))
      show tokP xs (moP j) a = none
      unfold tokP
      rw [if_neg]
      rintro ⟨_, _, q3⟩; exact q3 e0
    · rw [i64_id (n := (j : Int) + 1) (by omega) (by omega)]
      refine ⟨⟨j + 1, _, _, rfl, hj3, toks_yes ht (v := (numPI xs (blankI xs a).2 (moP j)).1) (c := (numPI xs (blankI xs a).2 (moP j)).2) ?_, ?_⟩, by dsimp only; omega⟩
      · show tokP xs (moP j) a = _
        unfold tokP
        rw [if_pos ⟨hbt2.1, hbt2.2, n0⟩]
      · rw [← hset]
        exact f16.drop 0
  · obtain rfl : j = 3 := by omega
    have hends : pnmP xs = endP xs l a := by unfold pnmP; rw [hd, if_pos rfl, ht]
    have tb := (toks_iff.1 ht).2
    have b0 : 1 ≤ l.getD 0 0 ∧ l.getD 0 0 ≤ 32768 := tb 0 (by omega)
    have b1 : 1 ≤ l.getD 1 0 ∧ l.getD 1 0 ≤ 32768 := tb 1 (by omega)
    refine gCall_b (is_any (pf := whiteB) (by kernel_rfl) white_any (f10.sg 1 rfl hb hal hl)) fun w18 h18 => ?_
    have f18 := f10.ev h18
    by_cases hc : a < xs.length ∧ whiteB (rd xs a) = true
    · rw [decide_eq_true hc.1, hc.2]
      have hst : 0 ≤ l.getD 0 0 * plP xs ∧ l.getD 0 0 * plP xs ≤ 98304 := by rcases hpl with e | e <;> rw [e] <;> omega
      have hsh : 0 ≤ l.getD 0 0 * plP xs * l.getD 1 0 ∧ l.getD 0 0 * plP xs * l.getD 1 0 ≤ 98304 * 32768 := ⟨Int.mul_nonneg hst.1 (by omega), Int.mul_le_mul hst.2 b1.2 (by omega) (by omega)⟩
      refine gIf_nt ⟨fun w' => w'.cell? (t40.add 1) = some (.int .i64 (a : Int)) ∧ w'.cell? (p4.add 0) = some (.int .i64 (l.getD 0 0)) ∧ w'.cell? (p4.add 2) = some (.int .i64 (plP xs)), ⟨f18.drew.cell 1 1 rfl rfl, f18.drew.cell 2 0 rfl rfl, f18.drew.cell 2 2 rfl rfl⟩, gNil_some (gLoadB_i (fun _ h => h.1) (gLoadB_i (fun _ h => h.2.1) (gLoadB_i (fun _ h => h.2.2) (fStore f18.drew 2 4 rfl fun w20 f20 => ⟨⟨f20.cell 1 1 rfl rfl, f20.cell 2 0 rfl rfl, f20.cell 2 2 rfl rfl⟩, fStore f20 2 3 rfl fun w21 f21 => ⟨⟨f21.cell 1 1 rfl rfl, f21.cell 2 0 rfl rfl, f21.cell 2 2 rfl rfl⟩, ?_⟩⟩))))⟩
      rw [i64_id (n := l.getD 0 0 * plP xs) (by omega) (by omega), show i64 ((a : Int) + 1) = ((a + 1 : Nat) : Int) by rw [i64_id (by omega) (by omega)]; omega] at f21
      refine fPic (pcP xs l a) f21 2 rfl (gLen_nm hb (gCall_pic (rightPc_any (a := (pcP xs l a).wd) (b := (pcP xs l a).ht) (c := (pcP xs l a).pl) (d := (pcP xs l a).st) (e := (pcP xs l a).fr) hsh.1 (by have := hsh.2; show l.getD 0 0 * plP xs * l.getD 1 0 ≤ _; omega) (by show (0 : Int) ≤ ((a + 1 : Nat) : Int); omega) (by show ((a + 1 : Nat) : Int) ≤ 1000000000000; omega)) fun w22 h22 => ?_))
      have f22 := f21.ev h22
      refine fPicEnd f22 3 rfl rfl ?_
      rw [hends]; unfold endP; rw [if_pos hc]
    · have hcf : (decide (a < xs.length) && whiteB (rd xs a)) = false := by
        rw [Bool.eq_false_iff]; intro hh; rw [Bool.and_eq_true, decide_eq_true_eq] at hh; exact hc hh
      rw [hcf]
      exact gIf_nf (bad f18 3 rfl rfl (by rw [hends]; unfold endP; rw [if_neg hc]))
end
end Go.Proofs.YtilpoinhfiajcaaGreatDoorV

/- Package picture: Bmp, and the same of valiseref16. -/
namespace Go.Proofs.YtilpoinhfiajcaaGreatDoorV
open Go Go.RowKit
def fld (xs : List Int) (at' n : Nat) : Int := leN ((xs.drop at').take n)
def hB (xs : List Int) : Int := if i32 (fld xs 22 4) < 0 then -(i32 (fld xs 22 4)) else i32 (fld xs 22 4)
def badB (xs : List Int) : Bool := decide (fld xs 10 4 < 54 ∨ fld xs 14 4 < 40 ∨ ¬ (1 ≤ fld xs 18 4 ∧ fld xs 18 4 ≤ 32768) ∨ ¬ (1 ≤ hB xs ∧ hB xs ≤ 32768) ∨ fld xs 26 2 ≠ 1 ∨ (fld xs 28 2 ≠ 24 ∧ fld xs 28 2 ≠ 8) ∨ fld xs 30 4 ≠ 0)
def pcB (xs : List Int) : Pc := ⟨fld xs 18 4, hB xs, fld xs 28 2 / 8, (fld xs 18 4 * (fld xs 28 2 / 8) + 3) / 4 * 4, fld xs 10 4⟩
def hdB (xs : List Int) : Bool := decide (54 ≤ xs.length ∧ rd xs 0 = 66 ∧ rd xs 1 = 77)
def bmpP (xs : List Int) : Pc × Bool := if hdB xs = true then (if badB xs = true then no else rightP (pcB xs) xs.length) else no
theorem fld_rng {xs : List Int} (hx : inR .u8 xs) (at' n : Nat) (hn : n ≤ 4) : 0 ≤ fld xs at' n ∧ fld xs at' n < 4294967296 := by
  have h := leN_bd ((hx.drop at').take n)
  have hp : ((2 ^ (8 * ((xs.drop at').take n).length) : Nat) : Int) ≤ ((4294967296 : Nat) : Int) :=
    Int.ofNat_le.2 (Nat.le_trans (Nat.pow_le_pow_right (by decide) (show 8 * ((xs.drop at').take n).length ≤ 32 by rw [List.length_take]; omega)) (by decide))
  exact ⟨h.1, Int.lt_of_lt_of_le h.2 hp⟩
theorem rawR_in {ys : List Int} {a n : Nat} (h : a + n ≤ ys.length) : rawR ys a 0 n = ((ys.drop a).take n, a + n, 0) := by
  unfold rawR
  by_cases h0 : n = 0
  · subst h0; simp
  · rw [if_neg (by omega), if_neg (by omega), Int.toNat_natCast]
section
variable {w0 w : World} {F : List It} {b : Value} {xs : List Int}
theorem little_any {p ad : Addr} {y : Value} {a : Nat} {er n : Int} {w : World} (hp : w.cell? (p.add 0) = some (.pointer (some ad))) (h : Rd w ad y xs a er) : Calls P n_picture_parser_little #[.pointer (some p), .int .i64 n] w (fun e w' => e = .returned (.int .i64 (i64 (leN (rawR xs a er (if 8 < n then 8 else n)).1))) ∧ RS w w' ad y xs (rawR xs a er (if 8 < n then 8 else n)).2.1 (rawR xs a er (if 8 < n then 8 else n)).2.2) :=
  of_picture_parser_little (gNil_some (gLoad_p hp (gCall_i (rLittle_any h) fun w1 h1 => ⟨rfl, h1⟩)))
theorem fLit44 {p ad t2 : Addr} {y : Value} {cs : List Value} {K : Int → World → Prop} (a n q : Nat) (hq : 10 + a = q) (hn : n ≤ 4) (hx : inR .u8 xs) (hl : 54 ≤ xs.length) (h : Fr w0 w [sIt p [.pointer (some ad)], sIt ad [y, .int .i64 a, .int .i64 0], oIt .u8 eB y ((xs.drop 10).take 44), sIt t2 cs]) (ha : a + n ≤ 44)
    (hk : ∀ w', Fr w0 w' [sIt p [.pointer (some ad)], sIt ad [y, .int .i64 ((a + n : Nat) : Int), .int .i64 0], oIt .u8 eB y ((xs.drop 10).take 44), sIt t2 cs] → K (fld xs q n) w') : gCall P n_picture_parser_little (shI .i64) #[.pointer (some p), .int .i64 (n : Int)] w K := by
  subst hq
  have hlen : ((xs.drop 10).take 44).length = 44 := by rw [List.length_take, List.length_drop]; omega
  refine gCall_i (little_any (h.cell 0 0 rfl rfl) (h.rd 1 2 rfl rfl (by decide) (by rw [hlen]; omega) (by rw [hlen]; omega))) fun w' h' => ?_
  rw [if_neg (show ¬ (8 : Int) < (n : Int) by omega), rawR_in (by rw [hlen]; omega)] at h' ⊢
  have e : (((xs.drop 10).take 44).drop a).take n = (xs.drop (10 + a)).take n := by
    rw [List.drop_take, List.take_take, List.drop_drop, Nat.min_eq_left (by omega)]
  have r := fld_rng hx (10 + a) n hn
  dsimp only
  rw [e, show leN ((xs.drop (10 + a)).take n) = fld xs (10 + a) n from rfl, i64_id (by omega) (by omega)]
  exact hk w' (h.rs 1 rfl h')
theorem side_any {n : Int} {w : World} : Calls P n_picture_side #[.int .i64 n] w (fun e w' => e = .returned (.bool (decide (1 ≤ n ∧ n ≤ 32768))) ∧ w' = w) := by
  refine of_picture_side (gIf_dec (fun h => ⟨?_, rfl⟩) (fun h => ⟨?_, rfl⟩))
  · congr 2; exact decide_eq_decide.2 ⟨fun h2 => ⟨h, h2⟩, fun h2 => h2.2⟩
  · rw [decide_eq_false (fun h2 => h h2.1)]
theorem take2 (h : 2 ≤ xs.length) {c d : Int} : xs.take 2 = [c, d] ↔ rd xs 0 = c ∧ rd xs 1 = d := by
  match xs, h with
  | a :: a2 :: r, _ => simp [rd]
theorem i32_rgP (n : Int) : -2147483648 ≤ i32 n ∧ i32 n ≤ 2147483647 := by rw [i32_def]; omega
theorem Bmp_any (hb : Nm .u8 w b xs) (hl : xs.length ≤ 1000000000) : Calls P n_picture_Bmp #[b] w (PicE w (bmpP xs)) := by
  have bad : ∀ {w1 : World} {F : List It} {ad : Addr} {cs : List Value}, Fr w w1 F → ∀ (i : Nat), F[i]? = some (sIt ad cs) → cs.length = 5 → bmpP xs = no →
      gStore P t_api_Picture (.pointer (some ad)) (.agg #[.int .i64 0, .int .i64 0, .int .i64 0, .int .i64 0, .int .i64 0]) w1 fun ww => gLoad P t_api_Picture (.part (.agg [.int .i64, .int .i64, .int .i64, .int .i64, .int .i64])) (.pointer (some ad)) ww fun (r0_0 : Int) (r0_1 : Int) (r0_2 : Int) (r0_3 : Int) (r0_4 : Int) => PicE w (bmpP xs) (.returned (.tuple #[.agg #[.int .i64 r0_0, .int .i64 r0_1, .int .i64 r0_2, .int .i64 r0_3, .int .i64 r0_4], .bool false])) ww :=
    fun f i hi hc hno => fPicEnd (r := no) f i hi hc (by rw [hno])
  have nohd : ¬ (54 ≤ xs.length ∧ rd xs 0 = 66 ∧ rd xs 1 = 77) → bmpP xs = no := fun h => by unfold bmpP hdB; rw [decide_eq_false h, if_neg (by simp)]
  refine of_picture_Bmp (fPicNew (Fr.start w) fun t2 w1 f1 => ⟨fun w' => (54 ≤ xs.length ∧ rd xs 0 = 66 ∧ rd xs 1 = 77) ∧ Fr w w' [sIt t2 Pc.z.c], gLen_nm hb (gIf_ndec (fun h54 => ?_) (fun h54 => bad f1 0 rfl rfl (nohd (by omega)))), ?_⟩)
  · refine gSlice_nm (hb.ev f1.old) 0 2 (.inl ⟨rfl, rfl⟩) (.inr ⟨_, rfl⟩) (by omega) (by omega) fun hs => gConv_bs hs ?_
    have e2 : (ByteArray.mk #[66, 77]) = bsOf [66, 77] := by decide
    have hr2 : inR .u8 [66, 77] := fun x hx => by simp at hx; rcases hx with rfl | rfl <;> decide
    rw [e2, bsOf_eq hs.2 hr2]
    simp only [List.drop_zero, Nat.sub_zero]
    refine gIf_ndec (fun hne => bad f1 0 rfl rfl (nohd fun h => hne ((take2 (by omega)).2 h.2))) (fun he => ⟨?_, f1⟩)
    have := (take2 (by omega)).1 he
    omega
  rintro _ w5 ⟨hd, f5⟩
  have h54 := hd.1
  have hdt : hdB xs = true := decide_eq_true hd
  have hx := hb.2
  refine gSlice_nm (hb.ev f5.old) 10 54 (.inr ⟨_, rfl⟩) (.inr ⟨_, rfl⟩) (by omega) (by omega) fun hs => ?_
  have hlen : ((xs.drop 10).take 44).length = 44 := by rw [List.length_take, List.length_drop]; omega
  refine fNew f5 hs (by rw [hlen]; omega) fun ad y w6 f6 => fBox f6 fun p w7 f7 => ?_
  refine fLit44 0 4 10 rfl (by omega) hx h54 f7 (by omega) fun w8 f8 => fLit44 4 4 14 rfl (by omega) hx h54 f8 (by omega) fun w9 f9 => fLit44 8 4 18 rfl (by omega) hx h54 f9 (by omega) fun w10 f10 => fLit44 12 4 22 rfl (by omega) hx h54 f10 (by omega) fun w11 f11 => fLit44 16 2 26 rfl (by omega) hx h54 f11 (by omega) fun w12 f12 => fLit44 18 2 28 rfl (by omega) hx h54 f12 (by omega) fun w13 f13 => fLit44 20 4 30 rfl (by omega) hx h54 f13 (by omega) fun w14 f14 => ?_
  have f14 := ((f14.drop 0).drop 0).drop 0
  have r10 := fld_rng hx 10 4 (by omega)
  have r14 := fld_rng hx 14 4 (by omega)
  have r18 := fld_rng hx 18 4 (by omega)
  have r28 := fld_rng hx 28 2 (by omega)
  have r22 := i32_rgP (fld xs 22 4)
  have hyes : badB xs = true → bmpP xs = no := fun h => by unfold bmpP; rw [hdt, if_pos rfl, if_pos h]
  show ∃ J1 : Int → World → Prop, _
  refine ⟨fun h w' => h = hB xs ∧ w14 = w', ?_, ?_⟩
  · show gIf (decide (i64 (i32 (fld xs 22 4)) < 0)) _ _
    rw [i64_id (n := i32 (fld xs 22 4)) (by omega) (by omega)]
    refine gIf_dec (fun h => ⟨?_, rfl⟩) (fun h => ⟨?_, rfl⟩)
    · unfold hB; rw [if_pos h, i64_id (by omega) (by omega)]; omega
    · unfold hB; rw [if_neg h]
  rintro _ _ _ ⟨rfl, rfl⟩
  refine ⟨fun w' => badB xs = false ∧ w14 = w', ⟨fun t w' => t = badB xs ∧ w14 = w', ?_, ?_⟩, ?_⟩
  · have tr : ∀ {c : Prop}, c → (c → (fld xs 10 4 < 54 ∨ fld xs 14 4 < 40 ∨ ¬ (1 ≤ fld xs 18 4 ∧ fld xs 18 4 ≤ 32768) ∨ ¬ (1 ≤ hB xs ∧ hB xs ≤ 32768) ∨ fld xs 26 2 ≠ 1 ∨ (fld xs 28 2 ≠ 24 ∧ fld xs 28 2 ≠ 8) ∨ fld xs 30 4 ≠ 0)) → true = badB xs ∧ w14 = w14 := fun hc h => ⟨(decide_eq_true (h hc)).symm, rfl⟩
    refine gIf_ndec (fun c1 => gIf_ndec (fun c2 => gCall_b0 side_any (gIf_nndec (fun c3 => gCall_b0 side_any (gIf_nndec (fun c4 => gIf_nneq (fun c5 => ?_) (fun c5 => tr c5 fun h => .inr (.inr (.inr (.inr (.inl h)))))) (fun c4 => tr c4 fun h => .inr (.inr (.inr (.inl h)))))) (fun c3 => tr c3 fun h => .inr (.inr (.inl h))))) (fun c2 => tr c2 fun h => .inr (.inl h))) (fun c1 => tr c1 fun h => .inl h)
    have fin : (fld xs 28 2 = 24 ∨ fld xs 28 2 = 8) → (fld xs 30 4 != 0) = badB xs ∧ w14 = w14 := fun h => by
      refine ⟨?_, rfl⟩
      unfold badB
      by_cases c6 : fld xs 30 4 = 0
      · rw [decide_eq_false (by omega)]; simp [c6]
      · rw [decide_eq_true (by omega)]; simp [c6]
    exact gIf_neq (fun c6 => gIf_nneq (fun c7 => fin (.inr c7)) (fun c7 => tr (And.intro c6 c7) fun h => .inr (.inr (.inr (.inr (.inr (.inl h))))))) (fun c6 => fin (.inl c6))
  · rintro _ _ _ ⟨rfl, rfl⟩
    refine gIf_b (fun h => bad f14 0 rfl rfl (hyes h)) (fun h => ⟨h, rfl⟩)
  rintro _ _ ⟨hok, rfl⟩
  have hc := of_decide_eq_false hok
  have hfin : bmpP xs = rightP (pcB xs) xs.length := by unfold bmpP; rw [hdt, if_pos rfl, if_neg (by rw [hok]; simp)]
  have e41 : i64 (Int.tdiv (fld xs 28 2) 8) = fld xs 28 2 / 8 := by rw [Int.tdiv_eq_ediv_of_nonneg (by omega), i64_id (by omega) (by omega)]
  have hpl : fld xs 28 2 / 8 = 3 ∨ fld xs 28 2 / 8 = 1 := by omega
  have hm : 1 ≤ fld xs 18 4 * (fld xs 28 2 / 8) ∧ fld xs 18 4 * (fld xs 28 2 / 8) ≤ 98304 := by rcases hpl with e | e <;> rw [e] <;> omega
  refine fPicNew f14 fun p12 w21 f21 => ?_
  show gStore P t_api_Picture (.pointer (some p12)) (.agg #[.int .i64 (fld xs 18 4), .int .i64 (hB xs), .int .i64 (i64 (Int.tdiv (fld xs 28 2) 8)), .int .i64 0, .int .i64 (fld xs 10 4)]) _ _
  rw [e41]
  refine fPicSet f21 0 rfl rfl fun w22 f22 => fLoad_i f22 0 2 rfl rfl ?_
  show gStore P t_int (.pointer (some (Addr.add p12 3))) (.int .i64 (i64 (i64 (Int.tdiv (i64 (i64 (fld xs 18 4 * (fld xs 28 2 / 8)) + 3)) 4) * 4))) _ _
  rw [i64_id (n := fld xs 18 4 * (fld xs 28 2 / 8)) (by omega) (by omega), i64_id (n := fld xs 18 4 * (fld xs 28 2 / 8) + 3) (by omega) (by omega), Int.tdiv_eq_ediv_of_nonneg (by omega), i64_id (n := (fld xs 18 4 * (fld xs 28 2 / 8) + 3) / 4) (by omega) (by omega), i64_id (n := (fld xs 18 4 * (fld xs 28 2 / 8) + 3) / 4 * 4) (by omega) (by omega)]
  refine fStore f22 0 3 rfl fun w23 f23 => fPic (pcB xs) f23 0 rfl (gLen_nm hb ?_)
  have hsh : 0 ≤ (pcB xs).st * (pcB xs).ht ∧ (pcB xs).st * (pcB xs).ht ≤ 100000 * 32768 := ⟨Int.mul_nonneg (by unfold pcB; dsimp only; omega) (by unfold pcB; dsimp only; omega), Int.mul_le_mul (by unfold pcB; dsimp only; omega) (by unfold pcB; dsimp only; omega) (by unfold pcB; dsimp only; omega) (by omega)⟩
  refine gCall_pic (rightPc_any hsh.1 (by omega) (by unfold pcB; dsimp only; omega) (by unfold pcB; dsimp only; omega)) fun w24 h24 => ?_
  exact fPicEnd (f23.ev h24) 1 rfl rfl (by rw [hfin])
end
end Go.Proofs.YtilpoinhfiajcaaGreatDoorV

/- Package valiseref16: Bmp; Parse of both; awake of valiselaw16. -/
namespace Go.Proofs.YtilpoinhfiajcaaGreatDoorV
open Go Go.RowKit
section
variable {b : Value} {xs : List Int} {w : World}
theorem rlittle_any (at' n : Nat) (hb : Nm .u8 w b xs) (hl : xs.length ≤ 1000000000) (h : at' + n ≤ xs.length) (hn : n ≤ 4) : Calls P n_valiseref16_little #[b, .int .i64 (at' : Int), .int .i64 (n : Int)] w (fun e w' => e = .returned (.int .i64 (fld xs at' n)) ∧ Ev w w') := by
  refine of_valiseref16_little ?_
  rw [show i64 ((at' : Int) + (n : Int)) = ((at' + n : Nat) : Int) by rw [i64_id (by omega) (by omega)]; omega]
  refine gSlice_nm hb at' (at' + n) (.inr ⟨_, rfl⟩) (.inr ⟨_, rfl⟩) (by omega) h fun hs => ?_
  rw [Nat.add_sub_cancel_left] at hs
  have hlen : ((xs.drop at').take n).length = n := by rw [List.length_take, List.length_drop]; omega
  refine frNew (Fr.start w) hs (by omega) fun ad y w1 f1 => gCall_i (rrLittle_any (f1.rd (a := 0) (er := 0) 0 1 rfl rfl (by decide) (by omega) (by omega))) fun w2 h2 => ?_
  have hr : rawR ((xs.drop at').take n) 0 0 (if 8 < (n : Int) then 8 else n) = ((xs.drop at').take n, n, 0) := by
    rw [if_neg (show ¬ (8 : Int) < (n : Int) by omega), rawR_in (by omega), List.drop_zero, List.take_take, Nat.min_self, Nat.zero_add]
  rw [hr] at h2 ⊢
  have r := fld_rng hb.2 at' n hn
  dsimp only
  rw [show leN ((xs.drop at').take n) = fld xs at' n from rfl, i64_id (by omega) (by omega)]
  exact ⟨rfl, (f1.rs 0 rfl h2).old⟩
def badR (xs : List Int) : Bool := decide (fld xs 10 4 < 54 ∨ fld xs 14 4 < 40 ∨ fld xs 26 2 ≠ 1 ∨ (fld xs 28 2 ≠ 24 ∧ fld xs 28 2 ≠ 8) ∨ fld xs 30 4 ≠ 0)
theorem rBmp_any (hb : Nm .u8 w b xs) (hl : xs.length ≤ 1000000000) : Calls P n_valiseref16_Bmp #[b] w (PicE w (bmpP xs)) := by
  have bad : ∀ {w1 : World} {F : List It} {ad : Addr} {cs : List Value}, Fr w w1 F → ∀ (i : Nat), F[i]? = some (sIt ad cs) → cs.length = 5 → bmpP xs = no →
      gStore P t_api_Picture (.pointer (some ad)) (.agg #[.int .i64 0, .int .i64 0, .int .i64 0, .int .i64 0, .int .i64 0]) w1 fun ww => gLoad P t_api_Picture (.part (.agg [.int .i64, .int .i64, .int .i64, .int .i64, .int .i64])) (.pointer (some ad)) ww fun (r0_0 : Int) (r0_1 : Int) (r0_2 : Int) (r0_3 : Int) (r0_4 : Int) => PicE w (bmpP xs) (.returned (.tuple #[.agg #[.int .i64 r0_0, .int .i64 r0_1, .int .i64 r0_2, .int .i64 r0_3, .int .i64 r0_4], .bool false])) ww :=
    fun f i hi hc hno => fPicEnd (r := no) f i hi hc (by rw [hno])
  have nohd : ¬ (54 ≤ xs.length ∧ rd xs 0 = 66 ∧ rd xs 1 = 77) → bmpP xs = no := fun h => by unfold bmpP hdB; rw [decide_eq_false h, if_neg (by simp)]
  refine of_valiseref16_Bmp (fPicNew (Fr.start w) fun t2 w1 f1 => ⟨fun w' => (54 ≤ xs.length ∧ rd xs 0 = 66 ∧ rd xs 1 = 77) ∧ Fr w w' [sIt t2 Pc.z.c], gLen_nm hb (gIf_ndec (fun h54 => gIdx_nm (hb.ev f1.old) (by omega) (by omega) fun a1 c1 _ => gLoad_i c1 (gIf_nneq (fun e66 => gIdx_nm (hb.ev f1.old) (by omega) (by omega) fun a2 c2 _ => gLoad_i c2 (gIf_neq (fun n77 => bad f1 0 rfl rfl (nohd (by omega))) (fun e77 => ⟨⟨by omega, e66, e77⟩, f1⟩))) (fun n66 => bad f1 0 rfl rfl (nohd (by omega))))) (fun h54 => bad f1 0 rfl rfl (nohd (by omega)))), ?_⟩)
  rintro _ w5 ⟨hd, f5⟩
  have h54 := hd.1
  have hdt : hdB xs = true := decide_eq_true hd
  have hx := hb.2
  have r10 := fld_rng hx 10 4 (by omega)
  have r14 := fld_rng hx 14 4 (by omega)
  have r18 := fld_rng hx 18 4 (by omega)
  have r22' := fld_rng hx 22 4 (by omega)
  have r28 := fld_rng hx 28 2 (by omega)
  have r22 := i32_rgP (fld xs 22 4)
  refine gCall_i (rlittle_any 10 4 (hb.ev f5.old) hl (by omega) (by omega)) fun w6 h6 => ?_
  have f6 := f5.ev h6
  refine gCall_i (rlittle_any 18 4 (hb.ev f6.old) hl (by omega) (by omega)) fun w7 h7 => ?_
  have f7 := f6.ev h7
  refine gCall_i (rlittle_any 22 4 (hb.ev f7.old) hl (by omega) (by omega)) fun w8 h8 => ?_
  have f8 := f7.ev h8
  have eh : (if i64 (0 - i64 (i32 (u32 (fld xs 22 4)))) > i64 (i32 (u32 (fld xs 22 4))) then i64 (0 - i64 (i32 (u32 (fld xs 22 4)))) else i64 (i32 (u32 (fld xs 22 4)))) = hB xs := by
    rw [show u32 (fld xs 22 4) = fld xs 22 4 by rw [u32_def]; omega, i64_id (n := i32 (fld xs 22 4)) (by omega) (by omega), i64_id (n := 0 - i32 (fld xs 22 4)) (by omega) (by omega)]
    unfold hB
    split <;> split <;> omega
  refine fPicNew f8 fun p4 w9 f9 => fPicSet f9 0 rfl rfl fun w10 f10 => fLoad_i f10 0 1 rfl rfl (fLoad_i f10 0 1 rfl rfl ?_)
  rw [eh]
  refine fStore f10 0 1 rfl fun w11 f11 => ?_
  refine gCall_i (rlittle_any 28 2 (hb.ev f11.old) hl (by omega) (by omega)) fun w12 h12 => ?_
  have f12 := f11.ev h12
  have hpl : ∃ pl : Int, pl = if fld xs 28 2 = 8 then 1 else 3 := ⟨_, rfl⟩
  obtain ⟨pl, hpl⟩ := hpl
  refine ⟨fun w' => Fr w w' [sIt p4 (Pc.mk (fld xs 18 4) (hB xs) pl 0 (fld xs 10 4)).c, sIt t2 Pc.z.c], gIf_eq (fun e8 => fStore f12 0 2 rfl fun w13 f13 => ?_) (fun n8 => ?_), ?_⟩
  · rw [if_pos e8] at hpl; subst hpl; exact f13
  · rw [if_neg n8] at hpl; subst hpl; exact f12
  rintro _ w14 f14
  refine ⟨fun w' => badR xs = false ∧ Fr w w' [sIt p4 (Pc.mk (fld xs 18 4) (hB xs) pl 0 (fld xs 10 4)).c, sIt t2 Pc.z.c], ⟨fun t w' => t = badR xs ∧ Fr w w' [sIt p4 (Pc.mk (fld xs 18 4) (hB xs) pl 0 (fld xs 10 4)).c, sIt t2 Pc.z.c], ?_, ?_⟩, ?_⟩
  · have tr : ∀ {c : Prop} {w' : World}, Fr w w' [sIt p4 (Pc.mk (fld xs 18 4) (hB xs) pl 0 (fld xs 10 4)).c, sIt t2 Pc.z.c] → c → (c → (fld xs 10 4 < 54 ∨ fld xs 14 4 < 40 ∨ fld xs 26 2 ≠ 1 ∨ (fld xs 28 2 ≠ 24 ∧ fld xs 28 2 ≠ 8) ∨ fld xs 30 4 ≠ 0)) → true = badR xs ∧ Fr w w' [sIt p4 (Pc.mk (fld xs 18 4) (hB xs) pl 0 (fld xs 10 4)).c, sIt t2 Pc.z.c] := fun f hc h => ⟨(decide_eq_true (h hc)).symm, f⟩
    refine fLoad_i (n := fld xs 10 4) f14 0 4 rfl rfl (gIf_ndec (fun c1 => gCall_i (rlittle_any 14 4 (hb.ev f14.old) hl (by omega) (by omega)) fun w15 h15 => gIf_ndec (fun c2 => ?_) (fun c2 => tr (f14.ev h15) c2 fun h => .inr (.inl h))) (fun c1 => tr f14 c1 fun h => .inl h))
    have f15 := f14.ev h15
    refine gCall_i (rlittle_any 26 2 (hb.ev f15.old) hl (by omega) (by omega)) fun w16 h16 => gIf_nneq (fun c5 => ?_) (fun c5 => tr (f15.ev h16) c5 fun h => .inr (.inr (.inl h)))
    have f16 := f15.ev h16
    have fin : (fld xs 28 2 = 24 ∨ fld xs 28 2 = 8) → ∀ w', Ev w16 w' → (fld xs 30 4 != 0) = badR xs ∧ Fr w w' [sIt p4 (Pc.mk (fld xs 18 4) (hB xs) pl 0 (fld xs 10 4)).c, sIt t2 Pc.z.c] := fun h w' he => by
      refine ⟨?_, f16.ev he⟩
      unfold badR
      by_cases c6 : fld xs 30 4 = 0
      · rw [decide_eq_false (by omega)]; simp [c6]
      · rw [decide_eq_true (by omega)]; simp [c6]
    exact gIf_neq (fun c6 => gIf_nneq (fun c7 => gCall_i (rlittle_any 30 4 (hb.ev f16.old) hl (by omega) (by omega)) fun w17 h17 => fin (.inr c7) _ h17) (fun c7 => tr f16 (And.intro c6 c7) fun h => .inr (.inr (.inr (.inl h))))) (fun c6 => gCall_i (rlittle_any 30 4 (hb.ev f16.old) hl (by omega) (by omega)) fun w17 h17 => fin (.inl c6) _ h17)
  · rintro _ _ w19 ⟨rfl, f19⟩
    refine gIf_b (fun h => bad f19 1 rfl rfl ?_) (fun h => ⟨h, f19⟩)
    have hc := of_decide_eq_true h
    unfold bmpP; rw [hdt, if_pos rfl, if_pos (by unfold badB; rw [decide_eq_true]; omega)]
  rintro _ w21 ⟨hok, f21⟩
  have hc := of_decide_eq_false hok
  have hpd : pl = fld xs 28 2 / 8 := by rw [hpl]; split <;> omega
  have hm : 0 ≤ fld xs 18 4 * (fld xs 28 2 / 8) ∧ fld xs 18 4 * (fld xs 28 2 / 8) ≤ 13000000000 := by
    have : fld xs 28 2 / 8 = 3 ∨ fld xs 28 2 / 8 = 1 := by omega
    rcases this with e | e <;> rw [e] <;> omega
  subst hpd
  refine fLoad_i f21 0 0 rfl rfl (fLoad_i f21 0 2 rfl rfl ?_)
  show gStore P t_int (.pointer (some (Addr.add p4 3))) (.int .i64 (i64 (i64 (Int.tdiv (i64 (i64 (fld xs 18 4 * (fld xs 28 2 / 8)) + 3)) 4) * 4))) _ _
  rw [i64_id (n := fld xs 18 4 * (fld xs 28 2 / 8)) (by omega) (by omega), i64_id (n := fld xs 18 4 * (fld xs 28 2 / 8) + 3) (by omega) (by omega), Int.tdiv_eq_ediv_of_nonneg (by omega), i64_id (n := (fld xs 18 4 * (fld xs 28 2 / 8) + 3) / 4) (by omega) (by omega), i64_id (n := (fld xs 18 4 * (fld xs 28 2 / 8) + 3) / 4 * 4) (by omega) (by omega)]
  refine fStore f21 0 3 rfl fun w22 f22 => fPic (pcB xs) f22 0 rfl (gLen_nm hb (gCall_b (rfits_any (by unfold pcB; dsimp only; omega) (by unfold pcB; dsimp only; omega) (by omega)) fun w23 h23 => ?_))
  have f23 := f22.ev h23
  change gIf (!(fitsP (pcB xs) xs.length)) _ _
  have hbm : bmpP xs = if fitsP (pcB xs) xs.length then (pcB xs, true) else no := by
    unfold bmpP
    rw [hdt, if_pos rfl]
    by_cases hs : (1 ≤ fld xs 18 4 ∧ fld xs 18 4 ≤ 32768) ∧ (1 ≤ hB xs ∧ hB xs ≤ 32768)
    · rw [if_neg (by unfold badB; rw [decide_eq_false (by omega)]; simp)]
      exact (fits_right hs.1 hs.2 (by unfold pcB; dsimp only; omega)).symm
    · rw [if_pos (by unfold badB; rw [decide_eq_true (by omega)]), if_neg]
      unfold fitsP pcB
      rw [decide_eq_false (by dsimp only; omega)]; simp
  refine gIf_nb (fun hf => bad f23 1 rfl rfl (by rw [hbm, hf]; rfl)) (fun hf => fPic (pcB xs) f23 0 rfl (fPicEnd (r := (pcB xs, true)) f23 1 rfl rfl (by rw [hbm, hf]; rfl)))
def parseP (xs : List Int) : Pc × Bool := if (bmpP xs).2 = true then ((bmpP xs).1, true) else pnmP xs
theorem Parse_any (hb : Nm .u8 w b xs) (hl : xs.length ≤ 1000000000) : Calls P n_picture_Parse #[b] w (PicE w (parseP xs)) := by
  refine of_picture_Parse (fPicNew (Fr.start w) fun t2 w1 f1 => gCall_pic (Bmp_any (hb.ev f1.old) hl) fun w2 h2 => fPicNew (f1.ev h2) fun p4 w3 f3 => fPicSet f3 0 rfl rfl fun w4 f4 => gIf_b (fun h => fPic (bmpP xs).1 f4 0 rfl (fPicEnd (r := ((bmpP xs).1, true)) f4 1 rfl rfl ?_)) (fun h => gCall_pic (Pnm_any (hb.ev f4.old) hl) fun w6 h6 => fPicEnd (f4.ev h6) 1 rfl rfl ?_))
  · unfold parseP; rw [if_pos h]
  · unfold parseP; rw [if_neg (by rw [h]; simp)]
theorem rParse_any (hb : Nm .u8 w b xs) (hl : xs.length ≤ 1000000000) : Calls P n_valiseref16_Parse #[b] w (PicE w (parseP xs)) := by
  refine of_valiseref16_Parse (fPicNew (Fr.start w) fun t2 w1 f1 => gCall_pic (rBmp_any (hb.ev f1.old) hl) fun w2 h2 => fPicNew (f1.ev h2) fun p4 w3 f3 => fPicSet f3 0 rfl rfl fun w4 f4 => gIf_b (fun h => fPic (bmpP xs).1 f4 0 rfl (fPicEnd (r := ((bmpP xs).1, true)) f4 1 rfl rfl ?_)) (fun h => gCall_pic (rPnm_any (hb.ev f4.old) hl) fun w6 h6 => fPicEnd (f4.ev h6) 1 rfl rfl ?_))
  · unfold parseP; rw [if_pos h]
  · unfold parseP; rw [if_neg (by rw [h]; simp), pnm_eq]
end
end Go.Proofs.YtilpoinhfiajcaaGreatDoorV

/- The laws PictureParses, PictureWithin. -/
namespace Go.Proofs.YtilpoinhfiajcaaGreatDoorV
open Go Go.RowKit
/-- What is told lies within. -/
def InP (p : Pc) (n : Int) : Prop := 1 ≤ p.wd ∧ p.wd ≤ 32768 ∧ 1 ≤ p.ht ∧ p.ht ≤ 32768 ∧ (p.pl = 1 ∨ p.pl = 3) ∧ p.wd * p.pl ≤ p.st ∧ p.st < p.wd * p.pl + 4 ∧ 2 ≤ p.fr ∧ p.fr + p.st * p.ht ≤ n
theorem right_in {p : Pc} {n : Int} (h : (rightP p n).2 = true) : rightP p n = (p, true) ∧ p.fr + p.st * p.ht ≤ n := by
  unfold rightP at h ⊢
  split
  · rename_i hc; rw [if_pos hc] at h; cases h
  · exact ⟨rfl, by omega⟩
theorem right_out {p : Pc} {n : Int} (h : (rightP p n).2 = false) : rightP p n = no := by
  unfold rightP at h ⊢
  split
  · rfl
  · rename_i hc; rw [if_neg hc] at h; cases h
theorem bmp_in {xs : List Int} (hx : inR .u8 xs) : ((bmpP xs).2 = true → InP (bmpP xs).1 xs.length) ∧ ((bmpP xs).2 = false → (bmpP xs).1 = Pc.z) := by
  unfold bmpP
  split
  · split
    · exact ⟨fun h => (by cases h), fun _ => rfl⟩
    · rename_i hd hbad
      refine ⟨fun h => ?_, fun h => by rw [right_out h]; rfl⟩
      obtain ⟨h1, h2⟩ := right_in h
      rw [h1]
      have hc : ¬ _ := fun hh => hbad (decide_eq_true hh)
      have r28 := fld_rng hx 28 2 (by omega)
      unfold InP
      have hpl : fld xs 28 2 / 8 = 3 ∨ fld xs 28 2 / 8 = 1 := by omega
      have hm : 1 ≤ fld xs 18 4 * (fld xs 28 2 / 8) ∧ fld xs 18 4 * (fld xs 28 2 / 8) ≤ 98304 := by rcases hpl with e | e <;> rw [e] <;> omega
      refine ⟨?_, ?_, ?_, ?_, ?_, ?_, ?_, ?_, h2⟩ <;> unfold pcB <;> dsimp only <;> omega
  · exact ⟨fun h => (by cases h), fun _ => rfl⟩
theorem pnm_in {xs : List Int} : ((pnmP xs).2 = true → InP (pnmP xs).1 xs.length) ∧ ((pnmP xs).2 = false → (pnmP xs).1 = Pc.z) := by
  unfold pnmP
  split
  · split
    · rename_i l a ht
      have tb := (toks_iff.1 ht).2
      have b0 : 1 ≤ l.getD 0 0 ∧ l.getD 0 0 ≤ 32768 := tb 0 (by omega)
      have b1 : 1 ≤ l.getD 1 0 ∧ l.getD 1 0 ≤ 32768 := tb 1 (by omega)
      have ha : 2 ≤ a := by
        have mono : ∀ {j : Nat} {l : List Int} {a : Nat}, toks (tkP xs) j = some (l, a) → 1 ≤ a := by
          intro j
          cases j with
          | zero => intro l a h; simp [toks] at h; omega
          | succ j =>
            intro l a h
            simp only [toks, Option.bind_eq_some_iff, Option.map_eq_some_iff, Prod.mk.injEq] at h
            obtain ⟨⟨l1, a1⟩, h1, ⟨v, q⟩, h2', _, rfl⟩ := h
            dsimp only at *
            have h2' : tokP xs (moP j) a1 = some (v, q) := h2'
            unfold tokP at h2'
            split at h2'
            · rename_i hc
              injection h2' with h2'
              have : (numPI xs (blankI xs a1).2 (moP j)).2 ≥ (blankI xs a1).2 := by
                unfold numPI; split
                · dsimp only; omega
                · split <;> dsimp only <;> omega
              rw [h2'] at this; dsimp only at this; omega
            · cases h2'
        -- the third step starts behind the second
        rw [show toks (tkP xs) 3 = (toks (tkP xs) 2).bind fun p => (tkP xs 2 p.2).map fun q => (p.1 ++ [q.1], q.2) from rfl] at ht
        simp only [Option.bind_eq_some_iff, Option.map_eq_some_iff, Prod.mk.injEq] at ht
        obtain ⟨⟨l2, a2⟩, h2, ⟨v, q⟩, h2', _, rfl⟩ := ht
        dsimp only at *
        have := mono h2
        have h2' : tokP xs (moP 2) a2 = some (v, q) := h2'
        unfold tokP at h2'
        split at h2'
        · rename_i hc
          injection h2' with h2'
          have : (numPI xs (blankI xs a2).2 (moP 2)).2 ≥ (blankI xs a2).2 := by
            unfold numPI; split
            · dsimp only; omega
            · split <;> dsimp only <;> omega
          rw [h2'] at this; dsimp only at this; omega
        · cases h2'
      unfold endP
      split
      · refine ⟨fun h => ?_, fun h => by rw [right_out h]; rfl⟩
        obtain ⟨h1, h2⟩ := right_in h
        rw [h1]
        unfold InP
        have hpl := plP_rng xs
        refine ⟨b0.1, b0.2, b1.1, b1.2, hpl, ?_, ?_, ?_, h2⟩ <;> unfold pcP <;> dsimp only <;> omega
      · exact ⟨fun h => (by cases h), fun _ => rfl⟩
    · exact ⟨fun h => (by cases h), fun _ => rfl⟩
  · exact ⟨fun h => (by cases h), fun _ => rfl⟩
theorem parse_in {xs : List Int} (hx : inR .u8 xs) : ((parseP xs).2 = true → InP (parseP xs).1 xs.length) ∧ ((parseP xs).2 = false → (parseP xs).1 = Pc.z) := by
  unfold parseP
  split
  · rename_i h; exact ⟨fun _ => (bmp_in hx).1 h, fun h => (by cases h)⟩
  · exact pnm_in
end Go.Proofs.YtilpoinhfiajcaaGreatDoorV

/- Packages colour and image, plain. -/
namespace Go.Proofs.YtilpoinhfiajcaaGreatDoorV
open Go Go.RowKit
/-! ### Colours -/
def turnAt (xs : List Int) (q : Nat) : Int := if q / 3 * 3 + 3 ≤ xs.length then (if q % 3 = 1 then rd xs q else u8 (rd xs q - rd xs ((q / 3 * 3 + 1 : Nat) : Int))) else rd xs q
def backAt (xs : List Int) (q : Nat) : Int := if q / 3 * 3 + 3 ≤ xs.length then (if q % 3 = 1 then rd xs q else u8 (rd xs q + rd xs ((q / 3 * 3 + 1 : Nat) : Int))) else rd xs q
def turnL (xs : List Int) : List Int := tab xs.length (turnAt xs)
def backL (xs : List Int) : List Int := tab xs.length (backAt xs)
theorem turnL_len (xs : List Int) : (turnL xs).length = xs.length := tab_len _ _
theorem backL_len (xs : List Int) : (backL xs).length = xs.length := tab_len _ _
theorem u8_rg (n : Int) : 0 ≤ u8 n ∧ u8 n < 256 := by rw [u8_def]; omega
def turnP (L : Nat) (xs : List Int) : List Int := if L = 3 then turnL xs else xs
def backP (L : Nat) (xs : List Int) : List Int := if L = 3 then backL xs else xs
theorem turnP_len (L : Nat) (xs : List Int) : (turnP L xs).length = xs.length := by unfold turnP; split <;> simp [turnL_len]
theorem backP_len (L : Nat) (xs : List Int) : (backP L xs).length = xs.length := by unfold backP; split <;> simp [backL_len]
/-! ### Rows -/
def rowX (xs : List Int) (F S W i : Nat) : List Int := (xs.drop (F + i * S)).take W
def gapX (xs : List Int) (F S W i : Nat) : List Int := (xs.drop (F + i * S + W)).take (S - W)
def pixN (xs : List Int) (F S W L : Nat) : Nat → List Int
  | 0 => []
  | i + 1 => pixN xs F S W L i ++ turnP L (rowX xs F S W i)
def besN (xs : List Int) (F S W : Nat) : Nat → List Int
  | 0 => []
  | i + 1 => besN xs F S W i ++ gapX xs F S W i
def outN (pix bes : List Int) (W G L : Nat) : Nat → List Int
  | 0 => []
  | i + 1 => outN pix bes W G L i ++ backP L ((pix.drop (i * W)).take W) ++ (bes.drop (i * G)).take G
section
variable {xs : List Int} {F S W L H : Nat}
theorem row_bd (h : F + S * H ≤ xs.length) {i : Nat} (hi : i < H) : F + i * S + S ≤ xs.length := by
  have : (i + 1) * S ≤ H * S := Nat.mul_le_mul_right _ hi
  rw [Nat.add_mul, Nat.one_mul, Nat.mul_comm H S] at this; omega
theorem rowX_len (h : F + S * H ≤ xs.length) (hw : W ≤ S) {i : Nat} (hi : i < H) : (rowX xs F S W i).length = W := by
  have := row_bd h hi
  unfold rowX; rw [List.length_take, List.length_drop]; omega
theorem gapX_len (h : F + S * H ≤ xs.length) (hw : W ≤ S) {i : Nat} (hi : i < H) : (gapX xs F S W i).length = S - W := by
  have := row_bd h hi
  unfold gapX; rw [List.length_take, List.length_drop]; omega
theorem pixN_len (h : F + S * H ≤ xs.length) (hw : W ≤ S) : ∀ {i}, i ≤ H → (pixN xs F S W L i).length = i * W
  | 0, _ => by simp [pixN]
  | i + 1, hi => by rw [pixN, List.length_append, pixN_len h hw (show i ≤ H by omega), turnP_len, rowX_len h hw (show i < H by omega), Nat.add_mul, Nat.one_mul]
theorem besN_len (h : F + S * H ≤ xs.length) (hw : W ≤ S) : ∀ {i}, i ≤ H → (besN xs F S W i).length = i * (S - W)
  | 0, _ => by simp [besN]
  | i + 1, hi => by rw [besN, List.length_append, besN_len h hw (show i ≤ H by omega), gapX_len h hw (show i < H by omega), Nat.add_mul, Nat.one_mul]
theorem outN_len {pix bes : List Int} {G : Nat} : ∀ {i}, pix.length = i * W → bes.length = i * G → ∀ {k}, k ≤ i → (outN pix bes W G L k).length = k * (W + G) := fun {i} hp hb {k} => by
  induction k with
  | zero => intro _; simp [outN]
  | succ k ih =>
    intro hk
    have h1 : (k + 1) * W ≤ i * W := Nat.mul_le_mul_right _ hk
    have h2 : (k + 1) * G ≤ i * G := Nat.mul_le_mul_right _ hk
    rw [Nat.add_mul, Nat.one_mul] at h1 h2
    rw [outN, List.length_append, List.length_append, ih (by omega), backP_len, List.length_take, List.length_take, List.length_drop, List.length_drop, Nat.add_mul k 1, Nat.one_mul]
    omega
end
/-! ### The pack -/
def packN (xs : List Int) (F Wd H L S : Nat) : List Int :=
  (numB xs.length ++ numB F ++ numB Wd ++ numB H ++ numB L ++ numB S) ++ (xs.take F ++ applyN (pixN xs F S (Wd * L) L H) (Wd * L) L H ++ besN xs F S (Wd * L) H ++ xs.drop (F + S * H))
def packP (xs : List Int) (p : Pc) : List Int := packN xs p.fr.toNat p.wd.toNat p.ht.toNat p.pl.toNat p.st.toNat
def packI (xs : List Int) : List Int × Bool := if (parseP xs).2 = true ∧ xs.length ≤ 1048576 then (packP xs (parseP xs).1, true) else ([], false)
def badIm (size F Wd H L S : Int) : Bool := decide (F > size ∨ Wd < 1 ∨ Wd > size ∨ H < 1 ∨ H > size ∨ L < 1 ∨ L > 3 ∨ S < Wd * L ∨ S > size ∨ F + S * H > size)
/-- What stands behind the measures. -/
def bodyI (xs : List Int) (a : Nat) (size F Wd H L S : Int) : List Int × Int :=
  let r1 := rawR xs a 0 F
  let r2 := rawR xs r1.2.1 r1.2.2 (H * (Wd * L + 1))
  let r3 := rawR xs r2.2.1 r2.2.2 (H * (S - Wd * L))
  let r4 := rawR xs r3.2.1 r3.2.2 (size - (F + S * H))
  if endR xs.length r4.2.1 r4.2.2 ≠ 0 then ([], endR xs.length r4.2.1 r4.2.2)
  else if undoOk r2.1.length (Wd * L) L = true ∧ kindsOk r2.1 (Wd * L).toNat (r2.1.length / ((Wd * L).toNat + 1)) = true then
    (r1.1 ++ outN (undoN r2.1 (Wd * L).toNat L (r2.1.length / ((Wd * L).toNat + 1))) r3.1 (Wd * L).toNat (S - Wd * L).toNat L.toNat (r2.1.length / ((Wd * L).toNat + 1)) ++ r4.1, 0)
  else ([], 4)
def unpackI (xs : List Int) (most : Int) : List Int × Int :=
  let s := numsN xs 6
  if s.2.2 ≠ 0 then ([], s.2.2)
  else if rd s.1 0 > (if 0 > most then 0 else most) ∨ rd s.1 0 > 1048576 then ([], 5)
  else if badIm (rd s.1 0) (rd s.1 1) (rd s.1 2) (rd s.1 3) (rd s.1 4) (rd s.1 5) = true then ([], 4)
  else bodyI xs s.2.1 (rd s.1 0) (rd s.1 1) (rd s.1 2) (rd s.1 3) (rd s.1 4) (rd s.1 5)
theorem badIm_f {size F Wd H L S : Int} (h : badIm size F Wd H L S = false) : F ≤ size ∧ 1 ≤ Wd ∧ Wd ≤ size ∧ 1 ≤ H ∧ H ≤ size ∧ 1 ≤ L ∧ L ≤ 3 ∧ Wd * L ≤ S ∧ S ≤ size ∧ F + S * H ≤ size := by
  unfold badIm at h
  have := of_decide_eq_false h
  omega
/-- What is unpacked is no longer than it may be; or there is an error. -/
theorem body_total {xs : List Int} {a : Nat} {size F Wd H L S : Int} (hF : 0 ≤ F) (hb : badIm size F Wd H L S = false) : ((bodyI xs a size F Wd H L S).2 = 0 ∧ ((bodyI xs a size F Wd H L S).1.length : Int) = size) ∨ ((bodyI xs a size F Wd H L S).1 = [] ∧ ((bodyI xs a size F Wd H L S).2 = 3 ∨ (bodyI xs a size F Wd H L S).2 = 4)) := by
  obtain ⟨b1, b2, b3, b4, b5, b6, b7, b8, b9, b10⟩ := badIm_f hb
  unfold bodyI
  dsimp only
  have hWL : 1 ≤ Wd * L := by
    have := Int.mul_le_mul b2 b6 (by omega) (by omega); simpa using this
  have hn2 : 0 ≤ H * (Wd * L + 1) := Int.mul_nonneg (by omega) (by omega)
  have hn3 : 0 ≤ H * (S - Wd * L) := Int.mul_nonneg (by omega) (by omega)
  have er1 : ErR (rawR xs a 0 F).2.2 := rawR_erR (.inl rfl)
  have er2 : ErR (rawR xs (rawR xs a 0 F).2.1 (rawR xs a 0 F).2.2 (H * (Wd * L + 1))).2.2 := rawR_erR er1
  have l1 := @rawR_0 xs a 0 F hF
  have l2 := @rawR_0 xs (rawR xs a 0 F).2.1 (rawR xs a 0 F).2.2 _ hn2
  generalize rawR xs a 0 F = r1 at er1 er2 l1 l2 ⊢
  generalize rawR xs r1.2.1 r1.2.2 (H * (Wd * L + 1)) = r2 at er2 l2 ⊢
  have er3 : ErR (rawR xs r2.2.1 r2.2.2 (H * (S - Wd * L))).2.2 := rawR_erR er2
  have l3 := @rawR_0 xs r2.2.1 r2.2.2 _ hn3
  generalize rawR xs r2.2.1 r2.2.2 (H * (S - Wd * L)) = r3 at er3 l3 ⊢
  have er4 : ErR (rawR xs r3.2.1 r3.2.2 (size - (F + S * H))).2.2 := rawR_erR er3
  have l4 := @rawR_0 xs r3.2.1 r3.2.2 (size - (F + S * H)) (by omega)
  generalize rawR xs r3.2.1 r3.2.2 (size - (F + S * H)) = r4 at er4 l4 ⊢
  have ere : ErR (endR xs.length r4.2.1 r4.2.2) := endR_er er4
  by_cases he : endR xs.length r4.2.1 r4.2.2 ≠ 0
  · rw [if_pos he]
    exact .inr ⟨rfl, ere.resolve_left he⟩
  · rw [if_neg he]
    have he0 : r4.2.2 = 0 := by
      refine Decidable.byContradiction fun hn => he ?_
      unfold endR; rw [if_pos hn]; exact hn
    by_cases hk : undoOk r2.1.length (Wd * L) L = true ∧ kindsOk r2.1 (Wd * L).toNat (r2.1.length / ((Wd * L).toNat + 1)) = true
    · rw [if_pos hk]
      refine .inl ⟨rfl, ?_⟩
      obtain ⟨m4, k4⟩ := l4 he0
      obtain ⟨m3, k3⟩ := l3 k4
      obtain ⟨m2, k2⟩ := l2 k3
      obtain ⟨m1, _⟩ := l1 k2
      obtain ⟨W, hW⟩ : ∃ W : Nat, Wd * L = (W : Int) := ⟨(Wd * L).toNat, by omega⟩
      obtain ⟨Hn, hH⟩ : ∃ Hn : Nat, H = (Hn : Int) := ⟨H.toNat, by omega⟩
      obtain ⟨G, hG⟩ : ∃ G : Nat, S - Wd * L = (G : Int) := ⟨(S - Wd * L).toNat, by omega⟩
      rw [hW] at m2 hG ⊢
      rw [hH] at m2 m3
      rw [hW, hG] at m3
      rw [hG]
      have e2 : ((Hn : Int) * ((W : Int) + 1)).toNat = Hn * (W + 1) := by
        have : ((Hn : Int) * ((W : Int) + 1)) = ((Hn * (W + 1) : Nat) : Int) := by rw [Int.natCast_mul]; rfl
        rw [this, Int.toNat_natCast]
      have e3 : ((Hn : Int) * (G : Int)).toNat = Hn * G := by rw [← Int.natCast_mul, Int.toNat_natCast]
      rw [e2] at m2
      rw [e3] at m3
      rw [Int.toNat_natCast, Int.toNat_natCast, m2, Nat.mul_div_cancel _ (by omega), List.length_append, List.length_append, outN_len (i := Hn) (undoN_len _ _ _ _) m3 (Nat.le_refl _), m1, m4]
      have hS : S = (W : Int) + (G : Int) := by omega
      have hSH : S * H = ((Hn * (W + G) : Nat) : Int) := by rw [hS, hH, Int.natCast_mul, Int.mul_comm]; rfl
      rw [hSH] at b10 ⊢
      omega
    · rw [if_neg hk]; exact .inr ⟨rfl, .inr rfl⟩
theorem unpack_total (xs : List Int) (most : Int) (hxs : inR .u8 xs) : ((unpackI xs most).2 = 0 ∧ ((unpackI xs most).1.length : Int) ≤ (if 0 > most then 0 else most) ∧ (unpackI xs most).1.length ≤ 1048576) ∨ ((unpackI xs most).1 = [] ∧ ((unpackI xs most).2 = 3 ∨ (unpackI xs most).2 = 4 ∨ (unpackI xs most).2 = 5)) := by
  unfold unpackI
  dsimp only
  generalize (if 0 > most then 0 else most) = mx
  by_cases h : (numsN xs 6).2.2 ≠ 0
  · rw [if_pos h]
    refine .inr ⟨rfl, ?_⟩
    rcases numsN_er xs 6 with h1 | h1 | h1
    · exact absurd h1 h
    · exact .inl h1
    · exact .inr (.inl h1)
  · rw [if_neg h]
    by_cases h5 : rd (numsN xs 6).1 0 > mx ∨ rd (numsN xs 6).1 0 > 1048576
    · rw [if_pos h5]; exact .inr ⟨rfl, .inr (.inr rfl)⟩
    · rw [if_neg h5]
      by_cases hbad : badIm (rd (numsN xs 6).1 0) (rd (numsN xs 6).1 1) (rd (numsN xs 6).1 2) (rd (numsN xs 6).1 3) (rd (numsN xs 6).1 4) (rd (numsN xs 6).1 5) = true
      · rw [if_pos hbad]; exact .inr ⟨rfl, .inr (.inl rfl)⟩
      · rw [if_neg hbad]
        have hnn : ∀ k, ∀ x ∈ (numsN xs k).1, 0 ≤ x := fun k => by
          induction k with
          | zero => intro x hx; cases hx
          | succ k ih =>
            intro x hx
            rw [numsN] at hx
            rcases List.mem_append.1 hx with hx | hx
            · exact ih x hx
            · simp at hx; subst hx
              have := (numR_rng (xs := xs) (a := (numsN xs k).2.1) (er := (numsN xs k).2.2) (most := 18446744073709551615) hxs).1
              unfold cap40; split <;> omega
        have hF : 0 ≤ rd (numsN xs 6).1 1 := hnn 6 _ (rd_mem (by decide) (by rw [numsN_len]; decide))
        rcases body_total (xs := xs) (a := (numsN xs 6).2.1) hF (Bool.eq_false_iff.2 hbad) with ⟨h1, h2⟩ | ⟨h1, h2⟩
        · exact .inl ⟨h1, by omega, by omega⟩
        · exact .inr ⟨h1, by omega⟩
end Go.Proofs.YtilpoinhfiajcaaGreatDoorV
