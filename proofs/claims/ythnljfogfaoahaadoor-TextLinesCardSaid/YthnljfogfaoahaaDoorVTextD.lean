/- The laws TextLines, TextBack, TextBoth. -/
import Derived.Test.YthnljfogfaoahaaDoorVTextC
namespace Go.Proofs.YthnljfogfaoahaaDoorV
open Go Go.RowKit
theorem unl_app (xs ys : List Int) : unl (xs ++ ys) = unl xs ++ unl ys := by unfold unl; rw [List.flatMap_append]
theorem unl_cons (a : Int) (r : List Int) : unl (a :: r) = unlE a ++ unl r := by unfold unl; rw [List.flatMap_cons]
theorem capL_app (xs ys : List Int) : capL (xs ++ ys) = capL xs ++ capL ys := by unfold capL; rw [List.flatMap_append]
theorem capL_cons (a : Int) (r : List Int) : capL (a :: r) = capE a ++ capL r := by unfold capL; rw [List.flatMap_cons]
/-- What was taken away comes again. -/
theorem unl_repl (xs : List Int) : goodL xs → unl (repl xs) = xs ∧ 13 ∉ repl xs := by
  refine crlf_ind (M := fun xs => goodL xs → unl (repl xs) = xs ∧ 13 ∉ repl xs) ?_ ?_ ?_ xs
  · intro _; exact ⟨rfl, by simp [repl]⟩
  · intro r ih hg
    obtain ⟨h1, h2⟩ := ih (good_two.1 hg)
    rw [show repl (13 :: 10 :: r) = 10 :: repl r from rfl, unl_cons, h1]
    exact ⟨rfl, by simp [h2]⟩
  · intro a r hn ih hg
    obtain ⟨h13, h10, hr⟩ := (good_one hn).1 hg
    obtain ⟨h1, h2⟩ := ih hr
    rw [(pairs_no hn).2, unl_cons, h1]
    refine ⟨by unfold unlE; rw [if_neg h10]; rfl, ?_⟩
    intro hh
    rcases List.mem_cons.1 hh with hh | hh
    · exact h13 hh.symm
    · exact h2 hh
theorem capE_13 : capE 13 = [13] := by decide
theorem capE_10 : capE 10 = [10] := by decide
theorem capE_cases (c : Int) (hc : 0 ≤ c) : (capE c = [c] ∧ c ≠ 2 ∧ c ≠ 3 ∧ capB c = false) ∨ (capE c = [3, c] ∧ (c = 2 ∨ c = 3) ∧ capB c = false) ∨ (capE c = [2, c + 32] ∧ 65 ≤ c ∧ c ≤ 90 ∧ capB c = true) := by
  unfold capE
  by_cases h1 : capB c = true
  · rw [if_pos h1]
    have := of_decide_eq_true h1
    exact .inr (.inr ⟨rfl, this.1, this.2, h1⟩)
  · have h1' : capB c = false := by simpa using h1
    rw [if_neg h1]
    by_cases h2 : c = 2 ∨ c = 3
    · rw [if_pos h2]; exact .inr (.inl ⟨rfl, h2, h1'⟩)
    · rw [if_neg h2]; exact .inl ⟨rfl, fun h => h2 (.inl h), fun h => h2 (.inr h), h1'⟩
theorem capE_head {c : Int} {r : List Int} (hc : 0 ≤ c) : (capE c ++ r).head? = some 10 ↔ c = 10 := by
  rcases capE_cases c hc with h | h | h <;> rw [h.1] <;> simp <;> omega
theorem capE_no {c : Int} (hc : 0 ≤ c) (hn : c ≠ 13) (r : List Int) : pairs (capE c ++ r) = pairs r ∧ repl (capE c ++ r) = capE c ++ repl r := by
  rcases capE_cases c hc with h | h | h <;> rw [h.1]
  · exact pairs_no fun hh => hn hh.1
  · obtain ⟨h1, h2⟩ := pairs_no (a := 3) (r := c :: r) (fun hh => by omega)
    obtain ⟨h3, h4⟩ := pairs_no (a := c) (r := r) (fun hh => hn hh.1)
    exact ⟨h1.trans h3, by rw [List.cons_append, List.singleton_append, h2, h4]; rfl⟩
  · obtain ⟨h1, h2⟩ := pairs_no (a := 2) (r := (c + 32) :: r) (fun hh => by omega)
    obtain ⟨h3, h4⟩ := pairs_no (a := c + 32) (r := r) (fun hh => by omega)
    exact ⟨h1.trans h3, by rw [List.cons_append, List.singleton_append, h2, h4]; rfl⟩
theorem cntB_app (c : Int) (xs ys : List Int) : cntB c (xs ++ ys) = cntB c xs + cntB c ys := by unfold cntB; rw [List.countP_append]
theorem capE_cnt {c d : Int} (hc : 0 ≤ c) (hd : d = 13 ∨ d = 10) : cntB d (capE c) = if c = d then 1 else 0 := by
  have e0 : cntB d [] = 0 := rfl
  rcases capE_cases c hc with h | h | h <;> rw [h.1] <;> simp only [cntB_cons, e0]
  · omega
  · rw [if_neg (show ¬ ((3 : Int) = d) by omega)]; omega
  · rw [if_neg (show ¬ ((2 : Int) = d) by omega), if_neg (show ¬ (c + 32 = d) by omega), if_neg (show ¬ (c = d) by omega)]
theorem caps_lines (xs : List Int) : inR .u8 xs → pairs (capL xs) = pairs xs ∧ repl (capL xs) = capL (repl xs) ∧ cntB 13 (capL xs) = cntB 13 xs ∧ cntB 10 (capL xs) = cntB 10 xs ∧ (repl xs).any capB = xs.any capB := by
  refine crlf_ind (M := fun xs => inR .u8 xs → pairs (capL xs) = pairs xs ∧ repl (capL xs) = capL (repl xs) ∧ cntB 13 (capL xs) = cntB 13 xs ∧ cntB 10 (capL xs) = cntB 10 xs ∧ (repl xs).any capB = xs.any capB) ?_ ?_ ?_ xs
  · intro _; exact ⟨rfl, rfl, rfl, rfl, rfl⟩
  · intro r ih hin
    obtain ⟨h1, h2, h3, h4, h5⟩ := ih fun x hx => hin x (by simp [hx])
    rw [capL_cons, capL_cons, capE_13, capE_10]
    rw [show [13] ++ ([10] ++ capL r) = 13 :: 10 :: capL r from rfl, show pairs (13 :: 10 :: capL r) = 1 + pairs (capL r) from rfl, show repl (13 :: 10 :: capL r) = 10 :: repl (capL r) from rfl, show pairs (13 :: 10 :: r) = 1 + pairs r from rfl, show repl (13 :: 10 :: r) = 10 :: repl r from rfl, capL_cons, capE_10, h1, h2]
    refine ⟨rfl, rfl, ?_, ?_, ?_⟩
    · rw [cntB_cons, cntB_cons, cntB_cons, cntB_cons, h3]
    · rw [cntB_cons, cntB_cons, cntB_cons, cntB_cons, h4]
    · rw [List.any_cons, List.any_cons, List.any_cons, h5]; rfl
  · intro a r hn ih hin
    obtain ⟨h1, h2, h3, h4, h5⟩ := ih fun x hx => hin x (by simp [hx])
    have ha := hin.u8 (x := a) (by simp)
    rw [(pairs_no hn).1, (pairs_no hn).2, capL_cons, capL_cons, cntB_app, cntB_app, capE_cnt ha.1 (.inl rfl), capE_cnt ha.1 (.inr rfl), h3, h4, cntB_cons, cntB_cons, List.any_cons, List.any_cons, h5]
    by_cases h13 : a = 13
    · subst h13
      rw [capE_13]
      have hn2 : ¬ ((13 : Int) = 13 ∧ (capL r).head? = some 10) := fun hh => hn ⟨rfl, by
        cases r with
        | nil => exact hh.2
        | cons d r =>
          have hd := hin.u8 (x := d) (by simp)
          have := hh.2
          rw [capL_cons, capE_head hd.1] at this
          rw [this]; rfl⟩
      obtain ⟨g1, g2⟩ := pairs_no hn2
      refine ⟨g1.trans h1, by rw [show [13] ++ capL r = 13 :: capL r from rfl, g2, h2]; rfl, by omega, by omega, rfl⟩
    · obtain ⟨g1, g2⟩ := capE_no ha.1 h13 (capL r)
      exact ⟨g1.trans h1, by rw [g2, h2], by omega, by omega, rfl⟩
theorem unl_capE {c : Int} (hc : 0 ≤ c) : unl (capE c) = if c = 10 then [13, 10] else capE c := by
  by_cases h : c = 10
  · rw [if_pos h, h]; decide
  · rw [if_neg h]
    rcases capE_cases c hc with g | g | g <;> rw [g.1] <;> simp only [unl_cons] <;> unfold unlE
    · rw [if_neg h]; rfl
    · rw [if_neg (by decide), if_neg h]; rfl
    · rw [if_neg (by decide), if_neg (by omega)]; rfl
theorem unl_capL : ∀ {xs : List Int}, inR .u8 xs → unl (capL xs) = capL (unl xs)
  | [], _ => rfl
  | a :: r, h => by
    have ha := h.u8 (x := a) (by simp)
    rw [capL_cons, unl_app, unl_cons, capL_app, unl_capL fun x hx => h x (by simp [hx]), unl_capE ha.1]
    congr 1
    unfold unlE
    by_cases h10 : a = 10
    · rw [if_pos h10, if_pos h10]; rfl
    · rw [if_neg h10, if_neg h10]; simp [capL]
theorem mem_capL {xs : List Int} (h : inR .u8 xs) {x : Int} (hx : x ∈ capL xs) : ∃ c ∈ xs, x ∈ capE c := List.mem_flatMap.1 hx
theorem no13_capL {xs : List Int} (h : inR .u8 xs) (hn : 13 ∉ xs) : 13 ∉ capL xs := fun hh => by
  obtain ⟨c, hc, hx⟩ := mem_capL h hh
  have hcr := h.u8 hc
  rcases capE_cases c hcr.1 with g | g | g <;> rw [g.1] at hx <;> simp at hx
  · exact hn (hx ▸ hc)
  · omega
  · omega
theorem nocap_capL {xs : List Int} (h : inR .u8 xs) {x : Int} (hx : x ∈ capL xs) : ¬ (65 ≤ x ∧ x ≤ 90) := by
  obtain ⟨c, hc, hx⟩ := mem_capL h hx
  have hcr := h.u8 hc
  rcases capE_cases c hcr.1 with g | g | g <;> rw [g.1] at hx <;> simp at hx
  · intro h2
    have : capB c = true := by unfold capB; exact decide_eq_true (by omega)
    rw [g.2.2.2] at this; cases this
  · omega
  · omega
theorem uncN_eq {lim : Int} {f : Nat} {r out : List Int} : uncN lim f r out = if (out.length : Int) > lim then ([], 5) else uncL lim f r out := rfl
/-- What was made small is great again. -/
theorem unc_capL {lim : Int} : ∀ {xs : List Int} {f : Nat} {out : List Int}, inR .u8 xs → xs.length < f → uncL lim f (capL xs) out = if xs ≠ [] ∧ ((out.length + xs.length : Nat) : Int) > lim then ([], 5) else (out ++ xs, 0)
  | [], f + 1, out, _, _ => by rw [if_neg (by simp), List.append_nil]; rfl
  | a :: r, f + 1, out, h, hf => by
    have ha := h.u8 (x := a) (by simp)
    have hr : inR .u8 r := fun x hx => h x (by simp [hx])
    rw [List.length_cons] at hf
    have step : uncL lim (f + 1) (capL (a :: r)) out = uncN lim f (capL r) (out ++ [a]) := by
      rw [capL_cons]
      rcases capE_cases a ha.1 with g | g | g <;> rw [g.1]
      · exact uncL_one (by omega)
      · exact uncL_esc ⟨rfl, g.2.1⟩
      · have := uncL_cap (lim := lim) (f := f) (c := 2) (d := a + 32) (r := capL r) (out := out) ⟨rfl, by omega, by omega⟩
        rw [show a + 32 - 32 = a by omega] at this
        exact this
    rw [step, uncN_eq, unc_capL hr (by omega)]
    have hl1 : (out ++ [a]).length = out.length + 1 := by simp
    rw [hl1, List.length_cons]
    by_cases h1 : ((out.length + 1 : Nat) : Int) > lim
    · rw [if_pos h1, if_pos ⟨by simp, by omega⟩]
    · rw [if_neg h1]
      by_cases h2 : ((out.length + 1 + r.length : Nat) : Int) > lim
      · rw [if_pos ⟨fun e => by rw [e] at h2; simp at h2; omega, h2⟩, if_pos ⟨by simp, by omega⟩]
      · rw [if_neg (by omega), if_neg (by omega)]; simp
theorem limT_id {n : Int} (h0 : 0 ≤ n) (h1 : n ≤ 1048576) : limT n = n := by unfold limT; split; omega; split <;> omega
theorem capL_len2 (xs : List Int) : xs.length ≤ (capL xs).length := by
  induction xs with
  | nil => simp
  | cons c r ih => rw [capL_cons, List.length_append, List.length_cons]; have := (capE_len c).2; omega
theorem uncT_capL {xs : List Int} (h : inR .u8 xs) {most : Int} : uncT (capL xs) most = if xs ≠ [] ∧ (xs.length : Int) > limT most then ([], 5) else (xs, 0) := by
  have := capL_len2 xs
  unfold uncT
  rw [unc_capL h (by omega)]; simp
section
variable {b : Value} {xs : List Int} {w : World}
theorem TextLines_law {most : Int} (hb : Nm .u8 w b xs) (_ : IntKind.i64.min ≤ most ∧ most ≤ IntKind.i64.max) (hM : MaxL w) : Calls P n_valiselaw22_TextLines #[b, .int .i64 most] w (Holds w) := by
  refine of_valiselaw22_TextLines (gLen_nm hb (gIf_dec (fun _ => awake_end (Ch.refl _ w)) (fun hl => ?_)))
  refine gCall_v (Own_byte_any hb (by omega) (by decide)) fun i1 w1 ⟨h1, hi1⟩ => ?_
  have hb1 := hb.ev h1
  have hi := hi1.nm
  refine fCallTB (Fr.start w1) (Lines_any hi (hM.ev h1) (by omega)) fun x w2 f2 => fCallTB f2 (rLines_any (hb1.ev f2.old) (by omega)) fun y w3 f3 => fCallTE f3 (Unlines_any (hi.ev f3.old) (by omega)) fun c w4 f4 => fCallTE f4 (rUnlines_any (hb1.ev f4.old) (by omega)) fun d w5 f5 => gCall_b awake_any fun w6 h6 => gIf_t ?_
  have f6 := f5.ev h6
  refine gCall_b0 (Bytes_any (f6.nm 3 rfl) (f6.nm 2 rfl)) (gIf_dec (fun _ => gEq_bool (gIf_b (fun _ => gCall_b0 (Bytes_any (f6.nm 1 rfl) (f6.nm 0 rfl)) (gIf_dec (fun _ => gIf_eq (fun _ => ?_) (fun h => (h rfl).elim)) (fun h => (h rfl).elim))) (fun h => by simp at h))) (fun h => (h rfl).elim))
  exact gCall_b (Kept_byte_any (hi1.ev f6.old) (hb1.ev f6.old) (by omega)) fun w7 h7 => ⟨rfl, h1.trans (f6.old.trans h7)⟩
theorem linesT_true {xs : List Int} (h : (linesT xs).2 = true) : (xs.length ≤ 1048576 ∧ pairs xs ≠ 0 ∧ goodL xs) ∧ linesT xs = (repl xs, true) := by
  unfold linesT at h ⊢
  split at h
  · rename_i hg; exact ⟨hg, if_pos hg⟩
  · cases h
theorem capsT_true {xs : List Int} (h : (capsT xs).2 = true) : (xs.any capB = true ∧ xs.length ≤ 1048576) ∧ capsT xs = (capL xs, true) := by
  unfold capsT at h ⊢
  split at h
  · rename_i hg; exact ⟨hg, if_pos hg⟩
  · cases h
theorem TextBack_law (hb : Nm .u8 w b xs) (hM : MaxL w) : Calls P n_valiselaw22_TextBack #[b] w (Holds w) := by
  refine of_valiselaw22_TextBack (gLen_nm hb (gIf_dec (fun _ => awake_end (Ch.refl _ w)) (fun hl => ?_)))
  refine fCallTB (Fr.start w) (Lines_any hb hM (by omega)) fun x w2 f2 => fCallTB f2 (Caps_any (hb.ev f2.old) (by omega)) fun y w3 f3 => gCall_b awake_any fun w4 h4 => gIf_nt ?_
  have f4 := f3.ev h4
  refine ⟨fun w' => Fr w w' [oIt .u8 eB y (capsT xs).1], gIf_b (fun hok => ?_) (fun _ => f4.drop 1), ?_⟩
  · obtain ⟨⟨g1, g2, g3⟩, ge⟩ := linesT_true hok
    rw [ge] at f4
    obtain ⟨u1, u2⟩ := unl_repl xs g3
    have hrl := repl_len xs.length xs (Nat.le_refl _)
    have hpos : 2 ≤ xs.length := by
      cases hx : idxC xs with
      | none => exact absurd (idxC_none hx).1 g2
      | some i => have := (idxC_some hx).1; omega
    refine gLen_nm hb (fCallTE f4 (Unlines_any (f4.nm 1 rfl) (by dsimp only; omega)) fun c w5 f5 => gLen_nm hb (fCallTE f5 (Unlines_any (f5.nm 2 rfl) (by dsimp only; omega)) fun d w6 f6 => ?_))
    have e1 : unlT (repl xs) (xs.length : Int) = (xs, 0) := by unfold unlT; rw [if_neg u2, u1, limT_id (by omega) (by omega), if_neg (by omega)]
    have e2 : unlT (repl xs) (i64 ((xs.length : Int) - 1)) = ([], 5) := by unfold unlT; rw [if_neg u2, u1, i64_id (by omega) (by omega), limT_id (by omega) (by omega), if_pos (by omega)]
    rw [e1, e2] at f6
    rw [e1, e2]
    refine gIf_t (gIf_t (gCall_b0 (Bytes_any (hb.ev f6.old) (f6.nm 1 rfl)) ?_))
    dsimp only
    rw [decide_eq_true rfl]
    refine gIf_nn (gCall_b0 (In_byte_any (f6.nm 3 rfl) (by dsimp only; omega)) (gIf_b (fun h => ?_) (fun _ => ((f6.drop 0).drop 0).drop 1)))
    rw [List.any_eq_true] at h
    obtain ⟨q, hq, he⟩ := h
    have : q = 13 := by simpa using he
    exact absurd (this ▸ hq) u2
  · rintro _ w5 f5
    refine gIf_b (fun his => ?_) (fun _ => ⟨rfl, f5.old⟩)
    obtain ⟨⟨g1, g2⟩, ge⟩ := capsT_true his
    rw [ge] at f5
    have hcl := capL_len xs
    have hne : xs ≠ [] := fun e => by rw [e] at g1; cases g1
    have hpos : 1 ≤ xs.length := List.length_pos_iff.2 hne
    refine gLen_nm hb (fCallTE f5 (Uncaps_any (f5.nm 0 rfl) (by dsimp only; omega)) fun c w6 f6 => gLen_nm hb (fCallTE f6 (Uncaps_any (f6.nm 1 rfl) (by dsimp only; omega)) fun d w7 f7 => ?_))
    have e1 : uncT (capL xs) (xs.length : Int) = (xs, 0) := by rw [uncT_capL hb.2, limT_id (by omega) (by omega), if_neg (by omega)]
    have e2 : uncT (capL xs) (i64 ((xs.length : Int) - 1)) = ([], 5) := by rw [uncT_capL hb.2, i64_id (by omega) (by omega), limT_id (by omega) (by omega), if_pos ⟨hne, by omega⟩]
    rw [e1, e2] at f7
    rw [e1, e2]
    refine ⟨fun w' => w' = w7, gIf_t (gIf_t (gCall_b0 (Bytes_any (hb.ev f7.old) (f7.nm 1 rfl)) ?_)), ?_⟩
    · dsimp only
      rw [decide_eq_true rfl]
      exact gIf_nt rfl
    rintro _ _ rfl
    rename_i w7
    refine ⟨fun i w' => ∃ j : Nat, i = j ∧ j ≤ (capL xs).length ∧ w' = w7, fun i _ => (capL xs).length - i.toNat, ⟨0, rfl, by omega, rfl⟩, ?_⟩
    rintro _ i _ ⟨j, rfl, hj, rfl⟩
    rename_i w7
    have hy : Nm .u8 w7 y (capL xs) := f7.nm 2 rfl
    refine gLen_nm hy (gIf_dec (fun hlt => gIdx_nm hy (by omega) hlt fun a1 c1 _ => gLoad_i c1 ?_) (fun _ => ⟨rfl, f7.old⟩))
    have hnc := nocap_capL hb.2 (rd_mem (xs := capL xs) (i := (j : Int)) (by omega) hlt)
    rw [i64_id (n := (j : Int) + 1) (by omega) (by omega)]
    exact gIf_dec (fun h1 => gIdx_nm hy (by omega) hlt fun a2 c2 _ => gLoad_i c2 (gIf_dec (fun h2 => absurd ⟨h1, h2⟩ hnc) (fun _ => ⟨⟨j + 1, by omega, by omega, rfl⟩, by dsimp only; omega⟩))) (fun _ => ⟨⟨j + 1, by omega, by omega, rfl⟩, by dsimp only; omega⟩)
theorem TextBoth_law (hb : Nm .u8 w b xs) (hM : MaxL w) : Calls P n_valiselaw22_TextBoth #[b] w (Holds w) := by
  refine of_valiselaw22_TextBoth (gLen_nm hb (gIf_dec (fun _ => awake_end (Ch.refl _ w)) (fun hl => ?_)))
  refine fCallTB (Fr.start w) (Lines_any hb hM (by omega)) fun x w2 f2 => fCallTB f2 (Caps_any (hb.ev f2.old) (by omega)) fun y w3 f3 => ?_
  refine ⟨fun w' => ((linesT xs).2 = true ∧ (capsT xs).2 = true) ∧ Fr w w' [oIt .u8 eB y (capsT xs).1, oIt .u8 eB x (linesT xs).1], gCall_b awake_any fun w4 h4 => gIf_nn ?_, ?_⟩
  · have f4 := f3.ev h4
    exact gIf_not (gIf_not (gIf_b (fun h1 => gIf_not (gIf_b (fun h2 => ⟨⟨h1, h2⟩, f4⟩) (fun _ => awake_end f4.old))) (fun _ => awake_end f4.old)))
  rintro _ w4 ⟨⟨hok, his⟩, f4⟩
  obtain ⟨⟨g1, g2, g3⟩, ge⟩ := linesT_true hok
  obtain ⟨⟨k1, k2⟩, ke⟩ := capsT_true his
  rw [ge, ke] at f4
  obtain ⟨u1, u2⟩ := unl_repl xs g3
  have hrl := repl_len xs.length xs (Nat.le_refl _)
  have hrin := repl_in hb.2 xs.length (Nat.le_refl _)
  obtain ⟨c1, c2, c3, c4, c5⟩ := caps_lines xs hb.2
  have hcl := capL_len xs
  have hcl2 := capL_len (repl xs)
  have ep : capsT (repl xs) = (capL (repl xs), true) := by unfold capsT; rw [if_pos ⟨by rw [c5]; exact k1, by omega⟩]
  have eq : linesT (capL xs) = (capL (repl xs), true) := by unfold linesT; rw [if_pos ⟨by omega, by rw [c1]; exact g2, by unfold goodL; rw [c1, c3, c4]; exact g3⟩, c2]
  refine fCallTB f4 (Caps_any (f4.nm 1 rfl) (by dsimp only; omega)) fun p w5 f5 => fCallTB f5 (Lines_any (f5.nm 1 rfl) (hM.ev f5.old) (by dsimp only; omega)) fun q w6 f6 => ?_
  rw [ep, eq] at f6
  rw [ep, eq]
  refine ⟨fun w' => w' = w6, gIf_nn (gIf_nn (gCall_b0 (Bytes_any (f6.nm 1 rfl) (f6.nm 0 rfl)) (by rw [decide_eq_true rfl]; exact gIf_nt rfl))), ?_⟩
  rintro _ _ rfl
  rename_i w6
  have hp : Nm .u8 w6 p (capL (repl xs)) := f6.nm 1 rfl
  have e1 : unlT (capL (repl xs)) 1048576 = (capL xs, 0) := by
    unfold unlT
    rw [if_neg (no13_capL hrin u2), unl_capL hrin, u1, limT_id (by omega) (by omega), if_neg (by omega)]
  have e2 : uncT (capL (repl xs)) 1048576 = (repl xs, 0) := by rw [uncT_capL hrin, limT_id (by omega) (by omega), if_neg (by omega)]
  refine fCallTE f6 (Unlines_any hp (by omega)) fun c w7 f7 => ?_
  have hp7 : Nm .u8 w7 p (capL (repl xs)) := f7.nm 2 rfl
  refine fCallTE f7 (Uncaps_any hp7 (by omega)) fun d w8 f8 => ?_
  rw [e1, e2] at f8
  rw [e1, e2]
  refine ⟨fun w' => w' = w8, gIf_t (gIf_f rfl), ?_⟩
  rintro _ _ rfl
  rename_i w8
  have e3 : uncT (capL xs) (xs.length : Int) = (xs, 0) := by rw [uncT_capL hb.2, limT_id (by omega) (by omega), if_neg (by omega)]
  have e4 : unlT (repl xs) (xs.length : Int) = (xs, 0) := by unfold unlT; rw [if_neg u2, u1, limT_id (by omega) (by omega), if_neg (by omega)]
  refine gLen_nm hb (fCallTE f8 (Uncaps_any (f8.nm 1 rfl) (by dsimp only; omega)) fun g w9 f9 => gLen_nm hb (fCallTE f9 (Unlines_any (f9.nm 1 rfl) (by dsimp only; omega)) fun u w10 f10 => ?_))
  dsimp only at f10 ⊢
  rw [e3, e4] at f10
  rw [e3, e4]
  refine gIf_t (gIf_t (gCall_b0 (Bytes_any (f10.nm 1 rfl) (hb.ev f10.old)) ?_))
  dsimp only
  rw [decide_eq_true rfl]
  refine gIf_t (gCall_b0 (Bytes_any (f10.nm 0 rfl) (hb.ev f10.old)) ⟨?_, f10.old⟩)
  dsimp only
  rw [decide_eq_true rfl]
end
end Go.Proofs.YthnljfogfaoahaaDoorV
