import Derived.Test.YtilpoinhfiajcaaGreatDoorVQart13
set_option linter.unusedVariables false
set_option linter.unusedSimpArgs false
/- Package text: Lines, Unlines; the same of valiseref22. -/
namespace Go.Proofs.YtilpoinhfiajcaaGreatDoorV
open Go Go.RowKit
/-- Each 0d is ahead of a 0a, and each 0a behind a 0d. -/
def goodL (xs : List Int) : Prop := cntB 13 xs = pairs xs ∧ cntB 10 xs = pairs xs
instance (xs : List Int) : Decidable (goodL xs) := inferInstanceAs (Decidable (_ ∧ _))
def linesT (xs : List Int) : List Int × Bool := if xs.length ≤ 1048576 ∧ pairs xs ≠ 0 ∧ goodL xs then (repl xs, true) else ([], false)
theorem cntB_cons (c a : Int) (r : List Int) : cntB c (a :: r) = cntB c r + if a = c then 1 else 0 := by
  unfold cntB; rw [List.countP_cons]; simp
theorem pairs_le : ∀ (n : Nat) (xs : List Int), xs.length ≤ n → pairs xs ≤ cntB 13 xs ∧ pairs xs ≤ cntB 10 xs
  | _, [], _ => ⟨Nat.le_refl _, Nat.le_refl _⟩
  | 0, _ :: _, h => by simp at h
  | n + 1, a :: r, h => by
    rw [List.length_cons] at h
    by_cases hc : a = 13 ∧ r.head? = some 10
    · obtain ⟨rfl, hr⟩ := hc
      cases r with
      | nil => cases hr
      | cons b r =>
        injection hr with hr; subst hr
        have := pairs_le n r (by rw [List.length_cons] at h; omega)
        rw [show pairs (13 :: 10 :: r) = 1 + pairs r from rfl, cntB_cons, cntB_cons, cntB_cons, cntB_cons]
        simp; omega
    · have := pairs_le n r (by omega)
      rw [(pairs_no hc).1, cntB_cons, cntB_cons]; omega
theorem pairs_le' (xs : List Int) : pairs xs ≤ cntB 13 xs ∧ pairs xs ≤ cntB 10 xs := pairs_le _ xs (Nat.le_refl _)
/-- One step of what is told of all: the ways a list begins. -/
theorem crlf_cases {M : List Int → Prop} (h0 : M []) (h2 : ∀ r, M r → M (13 :: 10 :: r)) (h1 : ∀ a r, ¬ (a = 13 ∧ r.head? = some 10) → M r → M (a :: r)) : ∀ (n : Nat) (xs : List Int), xs.length ≤ n → M xs
  | _, [], _ => h0
  | 0, _ :: _, h => by simp at h
  | n + 1, a :: r, h => by
    rw [List.length_cons] at h
    by_cases hc : a = 13 ∧ r.head? = some 10
    · obtain ⟨rfl, hr⟩ := hc
      cases r with
      | nil => cases hr
      | cons b r =>
        injection hr with hr; subst hr
        exact h2 r (crlf_cases h0 h2 h1 n r (by rw [List.length_cons] at h; omega))
    · exact h1 a r hc (crlf_cases h0 h2 h1 n r (by omega))
theorem crlf_ind {M : List Int → Prop} (h0 : M []) (h2 : ∀ r, M r → M (13 :: 10 :: r)) (h1 : ∀ a r, ¬ (a = 13 ∧ r.head? = some 10) → M r → M (a :: r)) (xs : List Int) : M xs := crlf_cases h0 h2 h1 _ xs (Nat.le_refl _)
theorem good_two {r : List Int} : goodL (13 :: 10 :: r) ↔ goodL r := by
  unfold goodL
  rw [show pairs (13 :: 10 :: r) = 1 + pairs r from rfl, cntB_cons, cntB_cons, cntB_cons, cntB_cons]
  simp; omega
theorem good_one {a : Int} {r : List Int} (h : ¬ (a = 13 ∧ r.head? = some 10)) : goodL (a :: r) ↔ a ≠ 13 ∧ a ≠ 10 ∧ goodL r := by
  have := pairs_le' r
  unfold goodL
  rw [(pairs_no h).1, cntB_cons, cntB_cons]
  by_cases h1 : a = 13
  · subst h1; simp; omega
  · by_cases h2 : a = 10
    · subst h2; simp; omega
    · simp [h1, h2]
/-- What the reference's loop does: was the byte ahead a 0d? -/
def refL : Bool → Nat → List Int → List Int → Option (List Int × Nat)
  | _, n, out, [] => some (out, n)
  | p, n, out, a :: r => if a = 13 then (if r.head? = some 10 then refL true (n + 1) out r else none) else if a = 10 then (if p = true then refL false n (out ++ [10]) r else none) else refL false n (out ++ [a]) r
theorem refL_eq (xs : List Int) : ∀ (n : Nat) (out : List Int), refL false n out xs = if goodL xs then some (out ++ repl xs, n + pairs xs) else none := by
  refine crlf_ind (M := fun xs => ∀ (n : Nat) (out : List Int), refL false n out xs = if goodL xs then some (out ++ repl xs, n + pairs xs) else none) ?_ ?_ ?_ xs
  · intro n out; rw [refL, if_pos ⟨rfl, rfl⟩]; simp [repl, pairs]
  · intro r ih n out
    rw [refL, if_pos rfl, if_pos (show (10 :: r).head? = some 10 from rfl), refL, if_neg (by decide), if_pos rfl, if_pos rfl, ih]
    rw [show pairs (13 :: 10 :: r) = 1 + pairs r from rfl, show repl (13 :: 10 :: r) = 10 :: repl r from rfl]
    by_cases hg : goodL r
    · rw [if_pos hg, if_pos (good_two.2 hg)]; simp; omega
    · rw [if_neg hg, if_neg fun h => hg (good_two.1 h)]
  · intro a r hn ih n out
    have hg1 := good_one hn
    rw [(pairs_no hn).1, (pairs_no hn).2, refL]
    by_cases h1 : a = 13
    · rw [if_pos h1, if_neg fun h => hn ⟨h1, h⟩, if_neg fun h => (hg1.1 h).1 h1]
    · rw [if_neg h1]
      by_cases h2 : a = 10
      · rw [if_pos h2, if_neg (by simp), if_neg fun h => (hg1.1 h).2.1 h2]
      · rw [if_neg h2, ih]
        by_cases hg : goodL r
        · rw [if_pos hg, if_pos (hg1.2 ⟨h1, h2, hg⟩)]; simp
        · rw [if_neg hg, if_neg fun h => hg (hg1.1 h).2.2]
section
variable {b : Value} {xs : List Int} {w : World}
theorem Lines_any (hb : Nm .u8 w b xs) (hM : MaxL w) (hl : xs.length ≤ 100000000) : Calls P n_text_Lines #[b] w (TupB w (linesT xs)) := by
  have hno : ∀ {w' : World}, Ev w w' → ¬ (xs.length ≤ 1048576 ∧ pairs xs ≠ 0 ∧ goodL xs) → TupB w (linesT xs) (.returned (.tuple #[.slice none 0 0, .bool false])) w' := fun he h => by unfold linesT; rw [if_neg h]; exact ⟨_, rfl, he, ON.nil _ _ _ _⟩
  have hcr : inR .u8 [13, 10] := fun x hx => u8i (crlf_u8 x hx)
  have h13 : inR .u8 [13] := fun x hx => by simp at hx; subst hx; decide
  have h10 : inR .u8 [10] := fun x hx => by simp at hx; subst hx; decide
  refine of_text_Lines (fLit_n [13, 10] (Fr.start w) rfl rfl hcr fun s1 w1 f1 => gCall_i (bCount2_any (hb.ev f1.old) (f1.nm 0 rfl) (hM.ev f1.old) (by omega)) fun w2 h2 => ⟨fun w' => (xs.length ≤ 1048576 ∧ pairs xs ≠ 0 ∧ goodL xs) ∧ Fr w w' [], gIf_neqq (fun hne => ?_) (fun h0 => hno (f1.ev h2).old (by omega)), ?_⟩)
  · have f2 := (f1.ev h2).drop 0
    refine fLit_n [13] f2 rfl rfl h13 fun s3 w3 f3 => gCall_i0 (bCount1_any (hb.ev f3.old) (f3.nm 0 rfl)) (gIf_nneq (fun h13 => ?_) (fun h => hno f3.old fun hh => h (by rw [hh.2.2.1])))
    have f3 := f3.drop 0
    refine fLit_n [10] f3 rfl rfl h10 fun s4 w4 f4 => gCall_i0 (bCount1_any (hb.ev f4.old) (f4.nm 0 rfl)) (gIf_nneq (fun h10 => gLen_nm hb (gIf_dec (fun hbig => hno f4.old (by omega)) (fun hle => ⟨⟨by omega, by omega, by unfold goodL; omega⟩, f4.drop 0⟩))) (fun h => hno f4.old fun hh => h (by rw [hh.2.2.2])))
  · rintro _ w3 ⟨hg, f3⟩
    refine fLit_n [13, 10] f3 rfl rfl hcr fun s4 w4 f4 => fLit_n [10] f4 rfl rfl h10 fun s5 w5 f5 => ?_
    refine fCallB f5 (bReplaceAll_any (hb.ev f5.old) (f5.nm 1 rfl) (f5.nm 0 rfl) (hM.ev f5.old) (by omega)) fun v w6 f6 => ?_
    unfold linesT
    rw [if_pos hg]
    exact ⟨v, rfl, f6.old, f6.on 0 rfl⟩
theorem rLines_any (hb : Nm .u8 w b xs) (hl : xs.length ≤ 100000000) : Calls P n_valiseref22_Lines #[b] w (TupB w (linesT xs)) := by
  have hno : ∀ {w' : World}, Ev w w' → ¬ (xs.length ≤ 1048576 ∧ pairs xs ≠ 0 ∧ goodL xs) → TupB w (linesT xs) (.returned (.tuple #[.slice none 0 0, .bool false])) w' := fun he h => by unfold linesT; rw [if_neg h]; exact ⟨_, rfl, he, ON.nil _ _ _ _⟩
  refine of_valiseref22_Lines (gLen_nm hb (gIf_dec (fun h => hno (Ch.refl _ w) (by omega)) (fun hs => ?_)))
  have hall := refL_eq xs 0 []
  obtain ⟨res, hres⟩ : ∃ r, r = refL false 0 [] xs := ⟨_, rfl⟩
  rw [← hres] at hall
  have bad : ∀ {w' : World}, Ev w w' → res = none → TupB w (linesT xs) (.returned (.tuple #[.slice none 0 0, .bool false])) w' := fun he h => hno he fun hh => by rw [h, if_pos hh.2.2] at hall; cases hall
  refine ⟨fun o n i w' => ∃ (j q : Nat) (p : Bool) (out : List Int), i = j ∧ n = q ∧ j ≤ xs.length ∧ q ≤ j ∧ (p = true ↔ (0 < j ∧ rd xs ((j - 1 : Nat) : Int) = 13)) ∧ res = refL p q out (xs.drop j) ∧ out.length ≤ j ∧ Fr w w' [oIt .u8 eB o out], fun _ _ i _ => xs.length - i.toNat, ⟨0, 0, false, [], rfl, rfl, by omega, by omega, by simp, hres, by simp, (Fr.start w).nil0 _ _⟩, ?_⟩
  rintro _ o n i w2 ⟨j, q, p, out, rfl, rfl, hj, hqj, hp, hr, hol, f2⟩
  have hbw := hb.ev f2.old
  refine gLen_nm hb (gIf_dec (fun hlt => ?_) (fun hge => ?_))
  · have hlt' : j < xs.length := by omega
    have hc := rd_u8 hb.2 j
    rw [drop_rd hlt', refL] at hr
    have ej : i64 ((j : Int) + 1) = ((j + 1 : Nat) : Int) := by rw [i64_id (by omega) (by omega)]; omega
    have eq1 : i64 ((q : Int) + 1) = ((q + 1 : Nat) : Int) := by rw [i64_id (by omega) (by omega)]; omega
    rw [ej, eq1]
    refine ⟨fun n w' => n = (q : Int) ∧ rd xs j ≠ 13 ∧ res = refL false q (out ++ [rd xs j]) (xs.drop (j + 1)) ∧ w' = w2, gIdx_nm hbw (by omega) hlt fun a1 c1 _ => gLoad_i c1 (gIf_eq (fun e13 => ?_) (fun n13 => ?_)), ?_⟩
    · rw [if_pos e13] at hr
      refine gLen_nm hb (gIf_neqq (fun hne => ?_) (fun he => ?_))
      · have hlt2 : j + 1 < xs.length := by omega
        rw [drop_rd hlt2] at hr
        refine gIdx_nm hbw (by omega) (by omega) fun a2 c2 _ => gLoad_i c2 (gIf_neq (fun h => ?_) (fun h => ?_))
        · rw [if_neg (by rw [List.head?_cons]; intro hh; injection hh with hh; exact h hh)] at hr
          exact bad f2.old hr
        · rw [if_pos (by rw [List.head?_cons, h]), ← drop_rd hlt2] at hr
          refine ⟨⟨j + 1, q + 1, true, out, rfl, rfl, by omega, by omega, ⟨fun _ => ⟨by omega, by rw [show ((j + 1 - 1 : Nat) : Int) = (j : Int) by omega]; exact e13⟩, fun _ => rfl⟩, hr, by omega, f2⟩, by dsimp only; omega⟩
      · rw [List.drop_of_length_le (by omega)] at hr
        exact bad f2.old hr
    · rw [if_neg n13] at hr
      refine gIf_eq (fun e10 => ?_) (fun n10 => ?_)
      · rw [if_pos e10] at hr
        refine gIf_neqq (fun hj0 => ?_) (fun hj0 => ?_)
        · rw [show i64 ((j : Int) - 1) = ((j - 1 : Nat) : Int) by rw [i64_id (by omega) (by omega)]; omega]
          refine gIdx_nm hbw (by omega) (by omega) fun a2 c2 _ => gLoad_i c2 (gIf_neq (fun h => ?_) (fun h => ?_))
          · rw [if_neg fun hh => h (hp.1 hh).2] at hr; exact bad f2.old hr
          · rw [if_pos (hp.2 ⟨by omega, h⟩)] at hr
            exact ⟨rfl, n13, by rw [e10]; exact hr, rfl⟩
        · rw [if_neg fun hh => by have := (hp.1 hh).1; omega] at hr; exact bad f2.old hr
      · rw [if_neg n10] at hr
        exact ⟨rfl, n13, hr, rfl⟩
    · rintro _ _ _ ⟨rfl, n13, hr, rfl⟩
      refine gIdx_nm hbw (by omega) hlt fun a1 c1 _ => gLoad_i c1 (fAppB rfl f2 hc (by omega) fun o2 w3 f3 => ?_)
      refine ⟨⟨j + 1, q, false, _, rfl, rfl, by omega, by omega, ⟨fun h => (by cases h), fun h => absurd (by rw [← h.2, show ((j + 1 - 1 : Nat) : Int) = (j : Int) by omega]) n13⟩, hr, by simp; omega, f3⟩, by dsimp only; omega⟩
  · obtain rfl : j = xs.length := by omega
    rw [List.drop_of_length_le (Nat.le_refl _), refL] at hr
    rw [hr] at hall
    by_cases hg : goodL xs
    · rw [if_pos hg] at hall
      injection hall with hall
      injection hall with h1 h2
      rw [List.nil_append] at h1
      refine gIf_eq (fun h0 => hno f2.old (by omega)) (fun hn => ?_)
      unfold linesT
      rw [if_pos ⟨by omega, by omega, hg⟩, ← h1]
      exact ⟨o, rfl, f2.old, f2.on 0 rfl⟩
    · rw [if_neg hg] at hall; cases hall
end
end Go.Proofs.YtilpoinhfiajcaaGreatDoorV

/- Chains of transforms: plain. -/
namespace Go.Proofs.YtilpoinhfiajcaaGreatDoorV
open Go Go.RowKit
/-- A transform, by its tag. -/
noncomputable def packX (t : Int) (xs : List Int) : List Int × Bool :=
  if t = 1 then packA xs else if t = 2 then packI xs else if t = 3 then (if packOk xs = true then (packL xs, true) else ([], false)) else if t = 4 then packWd xs else if t = 5 then linesT xs else capsT xs
/-- Which tags may be. -/
def okN (ts : List Int) : Nat → Bool
  | 0 => true
  | k + 1 => okN ts k && (decide (1 ≤ rd ts (k : Int) ∧ rd ts (k : Int) ≤ 6) && !decide (rd ts (k : Int) ∈ ts.take k))
def rightB (ts : List Int) : Bool := okN ts ts.length && decide (ts.length ≤ 4)
theorem okN_f {ts : List Int} {k : Nat} (h : okN ts k = false) : ∀ n, k ≤ n → okN ts n = false
  | 0, hk => by obtain rfl : k = 0 := by omega
                exact h
  | n + 1, hk => by
    by_cases e : k = n + 1
    · rw [← e]; exact h
    · rw [okN, okN_f h n (by omega)]; rfl
theorem okN_t {ts : List Int} : ∀ {k : Nat}, okN ts k = true → ∀ j : Nat, j < k → (1 ≤ rd ts (j : Int) ∧ rd ts (j : Int) ≤ 6) ∧ rd ts (j : Int) ∉ ts.take j
  | 0, _, j, h => by omega
  | k + 1, h, j, hj => by
    rw [okN, Bool.and_eq_true, Bool.and_eq_true] at h
    by_cases e : j = k
    · subst e
      exact ⟨of_decide_eq_true h.2.1, by simpa using h.2.2⟩
    · exact okN_t h.1 j (by omega)
theorem okN_of {ts : List Int} : ∀ {k : Nat}, (∀ j : Nat, j < k → (1 ≤ rd ts (j : Int) ∧ rd ts (j : Int) ≤ 6) ∧ rd ts (j : Int) ∉ ts.take j) → okN ts k = true
  | 0, _ => rfl
  | k + 1, h => by
    rw [okN, okN_of fun j hj => h j (by omega), decide_eq_true (h k (by omega)).1, decide_eq_false (h k (by omega)).2]; rfl
/-- What comes of some tags, the first one first. -/
noncomputable def fwdN (xs ts : List Int) : Nat → List Int × List Int
  | 0 => (xs, [])
  | k + 1 => if (packX (rd ts (k : Int)) (fwdN xs ts k).1).2 = true ∧ (packX (rd ts (k : Int)) (fwdN xs ts k).1).1.length ≤ 1048576 then ((packX (rd ts (k : Int)) (fwdN xs ts k).1).1, (fwdN xs ts k).2 ++ [rd ts (k : Int)]) else fwdN xs ts k
noncomputable def fwdX (xs ts : List Int) : List Int × List Int := if rightB ts = true then fwdN xs ts ts.length else (xs, [])
theorem fwdN_sub {xs ts : List Int} : ∀ {k : Nat}, k ≤ ts.length → (fwdN xs ts k).2.Sublist (ts.take k)
  | 0, _ => by simp [fwdN]
  | k + 1, h => by
    have ih := fwdN_sub (xs := xs) (ts := ts) (k := k) (by omega)
    rw [fwdN, List.take_succ_eq_append_getElem (by omega), ← rd_nat ts k (by omega)]
    split
    · exact ih.append (List.Sublist.refl _)
    · exact ih.trans (List.sublist_append_left _ _)
theorem rightB_iff {ts : List Int} : rightB ts = true ↔ ts.length ≤ 4 ∧ (∀ t ∈ ts, 1 ≤ t ∧ t ≤ 6) ∧ ts.Nodup := by
  unfold rightB
  rw [Bool.and_eq_true, decide_eq_true_iff]
  constructor
  · rintro ⟨h1, h2⟩
    have h := okN_t h1
    refine ⟨h2, fun t ht => ?_, ?_⟩
    · obtain ⟨j, hj, rfl⟩ := List.getElem_of_mem ht
      rw [← rd_nat ts j hj]; exact (h j hj).1
    · refine List.pairwise_iff_getElem.2 fun i j hi hj hij e => (h j hj).2 ?_
      rw [rd_nat ts j hj, ← e]
      exact List.mem_take_iff_getElem.2 ⟨i, by omega, rfl⟩
  · rintro ⟨h1, h2, h3⟩
    refine ⟨okN_of fun j hj => ?_, h1⟩
    rw [rd_nat ts j hj]
    refine ⟨h2 _ (List.getElem_mem hj), fun hm => ?_⟩
    obtain ⟨i, hi, e⟩ := List.mem_take_iff_getElem.1 hm
    exact List.pairwise_iff_getElem.1 h3 i j (by omega) hj (by omega) e
theorem rightB_sub {ts us : List Int} (h : us.Sublist ts) (hr : rightB ts = true) : rightB us = true := by
  obtain ⟨h1, h2, h3⟩ := rightB_iff.1 hr
  exact rightB_iff.2 ⟨by have := h.length_le; omega, fun t ht => h2 t (h.subset ht), h3.sublist h⟩
theorem fwdX_right (xs ts : List Int) : rightB (fwdX xs ts).2 = true := by
  unfold fwdX
  split
  · rename_i h
    have := fwdN_sub (xs := xs) (ts := ts) (k := ts.length) (Nat.le_refl _)
    rw [List.take_length] at this
    exact rightB_sub this h
  · rfl
end Go.Proofs.YtilpoinhfiajcaaGreatDoorV

/- Package chain: of, Right, Forward, Inverse, Choose. -/
namespace Go.Proofs.YtilpoinhfiajcaaGreatDoorV
open Go Go.RowKit
noncomputable abbrev eN : TypeId := elOf P t_sl_int
def cpV (t : Int) : Value := if t = 1 then .func (.func n_audio_Pack) #[] #[] else if t = 2 then .func (.func n_image_Pack) #[] #[] else if t = 3 then .func (.func n_table_Pack) #[] #[] else if t = 4 then .func (.func n_words_Pack) #[] #[] else if t = 5 then .func (.func n_text_Lines) #[] #[] else if t = 6 then .func (.func n_text_Caps) #[] #[] else .nilFunc
def cuV (t : Int) : Value := if t = 1 then .func (.func n_audio_Unpack) #[] #[] else if t = 2 then .func (.func n_image_Unpack) #[] #[] else if t = 3 then .func (.func n_table_Unpack) #[] #[] else if t = 4 then .func (.func n_words_Unpack) #[] #[] else if t = 5 then .func (.func n_text_Unlines) #[] #[] else if t = 6 then .func (.func n_text_Uncaps) #[] #[] else .nilFunc
theorem cpV_one (t : Int) : (cpV t).oneCell' = true := by unfold cpV; (repeat' split) <;> rfl
theorem cuV_one (t : Int) : (cuV t).oneCell' = true := by unfold cuV; (repeat' split) <;> rfl
theorem tag6 {t : Int} (h : 1 ≤ t ∧ t ≤ 6) : t = 1 ∨ t = 2 ∨ t = 3 ∨ t = 4 ∨ t = 5 ∨ t = 6 := by omega
section
variable {w0 w : World} {F : List It}
theorem gOf {t : Int} {K : Value → Value → Bool → World → Prop} (hk : ∀ w', Ev w w' → K (cpV t) (cuV t) (decide (1 ≤ t ∧ t ≤ 6)) w') : gCall P n_chain_of (.tup [.agg [.val, .val], .one .bool]) #[.int .i64 t] w K := by
  refine gCall_of (R := fun e w' => e = .returned (.tuple #[.agg #[cpV t, cuV t], .bool (decide (1 ≤ t ∧ t ≤ 6))]) ∧ Ev w w') ?_ ?_
  · refine of_chain_of (fAlloc (z := .agg #[.nilFunc, .nilFunc]) (Fr.start w) (by kernel_rfl) fun ad w1 f1 => ?_)
    refine gIf_eq (fun h => ?_) (fun h1 => gIf_eq (fun h => ?_) (fun h2 => gIf_eq (fun h => ?_) (fun h3 => gIf_eq (fun h => ?_) (fun h4 => gIf_eq (fun h => ?_) (fun h5 => gIf_eq (fun h => ?_) (fun h6 => ?_))))))
    · subst h; exact ⟨rfl, rfl, fStoreA f1 0 rfl (fun w2 f2 => fLoadA f2 0 rfl ⟨rfl, f2.old⟩)⟩
    · subst h; exact ⟨rfl, rfl, fStoreA f1 0 rfl (fun w2 f2 => fLoadA f2 0 rfl ⟨rfl, f2.old⟩)⟩
    · subst h; exact ⟨rfl, rfl, fStoreA f1 0 rfl (fun w2 f2 => fLoadA f2 0 rfl ⟨rfl, f2.old⟩)⟩
    · subst h; exact ⟨rfl, rfl, fStoreA f1 0 rfl (fun w2 f2 => fLoadA f2 0 rfl ⟨rfl, f2.old⟩)⟩
    · subst h; exact ⟨rfl, rfl, fStoreA f1 0 rfl (fun w2 f2 => fLoadA f2 0 rfl ⟨rfl, f2.old⟩)⟩
    · subst h; exact ⟨rfl, rfl, fStoreA f1 0 rfl (fun w2 f2 => fLoadA f2 0 rfl ⟨rfl, f2.old⟩)⟩
    · refine fStoreA f1 0 rfl (fun w2 f2 => fLoadA f2 0 rfl ⟨?_, f2.old⟩)
      unfold cpV cuV
      rw [if_neg h1, if_neg h2, if_neg h3, if_neg h4, if_neg h5, if_neg h6, if_neg h1, if_neg h2, if_neg h3, if_neg h4, if_neg h5, if_neg h6, decide_eq_false (by omega)]
  · rintro _ w' ⟨rfl, h⟩
    exact ⟨_, _, _, rfl, hk w' h⟩
theorem packX_1 (xs : List Int) : packX 1 xs = packA xs := if_pos rfl
theorem packX_2 (xs : List Int) : packX 2 xs = packI xs := by unfold packX; rw [if_neg (by decide), if_pos rfl]
theorem packX_3 (xs : List Int) : packX 3 xs = (if packOk xs = true then (packL xs, true) else ([], false)) := by unfold packX; rw [if_neg (by decide), if_neg (by decide), if_pos rfl]
theorem packX_4 (xs : List Int) : packX 4 xs = packWd xs := by unfold packX; rw [if_neg (by decide), if_neg (by decide), if_neg (by decide), if_pos rfl]
theorem packX_5 (xs : List Int) : packX 5 xs = linesT xs := by unfold packX; rw [if_neg (by decide), if_neg (by decide), if_neg (by decide), if_neg (by decide), if_pos rfl]
theorem packX_6 (xs : List Int) : packX 6 xs = capsT xs := by unfold packX; rw [if_neg (by decide), if_neg (by decide), if_neg (by decide), if_neg (by decide), if_neg (by decide)]
theorem gPackV {t : Int} {out : Value} {xs : List Int} {K : Value → Bool → World → Prop} (ht : 1 ≤ t ∧ t ≤ 6) (hb : Nm .u8 w out xs) (hl : xs.length ≤ 10000000) (hM : MaxL w) (hk : ∀ v w', Ev w w' → ON .u8 eB w' w.heap.size v (packX t xs).1 → K v (packX t xs).2 w') :
    gCallV P (cpV t) (.tup [.one .val, .one .bool]) #[out] w K := by
  have fin : ∀ {f : FuncId} (hv : cpV t = .func (.func f) #[] #[]) (hok : callOk P f = true), Calls P f #[out] w (TupB w (packX t xs)) → gCallV P (cpV t) (.tup [.one .val, .one .bool]) #[out] w K := fun hv hok h =>
    gCallV_of (R := TupB w (packX t xs)) hv hok (by simpa using h) fun e w' ⟨v, he, hev, hon⟩ => ⟨v, _, he, hk v w' hev hon⟩
  rcases tag6 ht with rfl | rfl | rfl | rfl | rfl | rfl
  · exact fin rfl (by kernel_rfl) (by rw [packX_1]; exact aPack_any hb (by omega))
  · exact fin rfl (by kernel_rfl) (by rw [packX_2]; exact Pack_any hb (by omega))
  · refine fin rfl (by kernel_rfl) ((tPack_any hb (by omega)).mono fun e w' ⟨hev, h⟩ => ?_)
    rw [packX_3]
    by_cases hok : packOk xs = true
    · rw [if_pos hok] at h ⊢
      obtain ⟨v, rfl, hon⟩ := h
      exact ⟨v, rfl, hev, hon⟩
    · rw [if_neg hok] at h ⊢
      exact ⟨_, h, hev, ON.nil _ _ _ _⟩
  · exact fin rfl (by kernel_rfl) (by rw [packX_4]; exact wPack_any hb (by omega))
  · exact fin rfl (by kernel_rfl) (by rw [packX_5]; exact Lines_any hb hM (by omega))
  · exact fin rfl (by kernel_rfl) (by rw [packX_6]; exact Caps_any hb (by omega))
theorem cloneX_any {b : Value} {xs : List Int} (hb : Nm .u8 w b xs) (hl : xs.length ≤ 1000000000) : Calls P n_bytes_Clone #[b] w (NewB w xs) := by
  have hb2 := hb
  obtain ⟨⟨a, c, rfl, _, _, _, h0⟩, _⟩ := hb2
  refine of_bytes_Clone (gEq_snil (gIf_b (fun h => ?_) (fun h => ?_)))
  · have e : xs = [] := List.eq_nil_of_length_eq_zero (h0 (by simpa using h))
    subst e
    exact ⟨_, rfl, Ch.refl _ w, ON.nil _ _ _ _⟩
  · refine fLit_n [] (Fr.start w) rfl rfl (fun x hx => by cases hx) fun v w1 f1 => fApp f1 0 rfl (hb.ev f1.old) (by simp; omega) fun v2 w2 f2 => ⟨v2, rfl, f2.old, ?_⟩
    have := f2.on 0 rfl
    exact this
theorem mem_rd {ts : List Int} {t : Int} : t ∈ ts ↔ ∃ j : Nat, j < ts.length ∧ rd ts (j : Int) = t := by
  constructor
  · intro h
    obtain ⟨j, hj, e⟩ := List.getElem_of_mem h
    exact ⟨j, hj, by rw [rd_nat ts j hj, e]⟩
  · rintro ⟨j, hj, rfl⟩
    rw [rd_nat ts j hj]; exact List.getElem_mem hj
theorem containsI_any {v : Value} {ts : List Int} {t : Int} (h : Nm .i64 w v ts) (hl : ts.length ≤ 1000000000) : Calls P n_slices_Contains_int_int #[v, .int .i64 t] w (fun e w' => e = .returned (.bool (decide (t ∈ ts))) ∧ w' = w) := by
  refine of_slices_Contains_int_int (gCall_of (R := fun e w' => ∃ r : Int, e = .returned (.int .i64 r) ∧ (r ≥ 0 ↔ t ∈ ts) ∧ w' = w) ?_ ?_)
  · refine of_slices_Index_int_int (gLen_nm h ⟨fun i w' => ∃ k : Nat, i = (k : Int) ∧ k ≤ ts.length ∧ (∀ j : Nat, j < k → rd ts (j : Int) ≠ t) ∧ w' = w, fun i _ => (ts.length - i).toNat, ⟨0, rfl, Nat.zero_le _, (fun j hj => by omega), rfl⟩, ?_⟩)
    rintro _ i _ ⟨k, rfl, hk, hall, rfl⟩
    refine gIf_dec (fun hlt => gGet h (by omega) (by omega) (gIf_eq (fun he => ?_) (fun hne => ?_))) (fun hge => ?_)
    · exact ⟨_, rfl, ⟨fun _ => mem_rd.2 ⟨k, by omega, he.symm⟩, fun _ => by omega⟩, rfl⟩
    · refine ⟨⟨k + 1, by rw [i64_id (by omega) (by omega)]; omega, by omega, fun j hj => ?_, rfl⟩, by dsimp only; rw [i64_id (by omega) (by omega)]; omega⟩
      by_cases e : j = k
      · subst e; exact fun e => hne e.symm
      · exact hall j (by omega)
    · refine ⟨_, rfl, ⟨fun h => by omega, fun hm => ?_⟩, rfl⟩
      obtain ⟨j, hj, e⟩ := mem_rd.1 hm
      exact absurd e (hall j (by omega))
  · rintro _ _ ⟨r, rfl, hr, rfl⟩
    exact ⟨_, rfl, by rw [decide_eq_decide.2 hr], rfl⟩
theorem inI_any {v : Value} {ts : List Int} {t : Int} (h : Nm .i64 w v ts) (hl : ts.length ≤ 1000000000) : Calls P n_valisehelp_In_int #[v, .int .i64 t] w (fun e w' => e = .returned (.bool (decide (t ∈ ts))) ∧ w' = w) := by
  refine of_valisehelp_In_int ⟨fun i w' => ∃ k : Nat, i = (k : Int) ∧ k ≤ ts.length ∧ (∀ j : Nat, j < k → rd ts (j : Int) ≠ t) ∧ w' = w, fun i _ => (ts.length - i).toNat, ⟨0, rfl, Nat.zero_le _, (fun j hj => by omega), rfl⟩, ?_⟩
  rintro _ i _ ⟨k, rfl, hk, hall, rfl⟩
  refine gLen_nm h (gIf_dec (fun hlt => gGet h (by omega) (by omega) (gIf_eq (fun he => ?_) (fun hne => ?_))) (fun hge => ?_))
  · exact ⟨by rw [decide_eq_true (mem_rd.2 ⟨k, by omega, he⟩)], rfl⟩
  · refine ⟨⟨k + 1, by rw [i64_id (by omega) (by omega)]; omega, by omega, fun j hj => ?_, rfl⟩, by dsimp only; rw [i64_id (by omega) (by omega)]; omega⟩
    by_cases e : j = k
    · subst e; exact hne
    · exact hall j (by omega)
  · refine ⟨?_, rfl⟩
    rw [decide_eq_false]
    intro hm
    obtain ⟨j, hj, e⟩ := mem_rd.1 hm
    exact absurd e (hall j (by omega))
theorem rightB_f {ts : List Int} {k : Nat} (hk : k < ts.length) (h : okN ts (k + 1) = false) : rightB ts = false := by
  unfold rightB; rw [okN_f h ts.length (by omega)]; rfl
theorem Right_any {v : Value} {ts : List Int} (hb : Nm .i64 w v ts) (hl : ts.length ≤ 1000000000) : Calls P n_chain_Right #[v] w (fun e w' => e = .returned (.bool (rightB ts)) ∧ Ev w w') := by
  refine of_chain_Right (gLen_nm hb ⟨fun i w' => ∃ k : Nat, i = (k : Int) ∧ k ≤ ts.length ∧ okN ts k = true ∧ Ev w w', fun i _ => (ts.length - i).toNat, ⟨0, rfl, Nat.zero_le _, rfl, Ch.refl _ w⟩, ?_⟩)
  rintro _ i w1 ⟨k, rfl, hk, hok, h1⟩
  refine gIf_dec (fun hlt => gGet (hb.ev h1) (by omega) (by omega) (gOf fun w2 h2 => fAlloc (z := .agg #[.nilFunc, .nilFunc]) (Fr.start w2) (by kernel_rfl) fun ad w3 f3 => fStoreA f3 0 rfl (fun w4 f4 => ?_) rfl (fun x hx => ?_))) (fun hge => ?_)
  · have h4 := (h1.trans h2).trans f4.old
    refine gIf_nnb (fun ht => ?_) (fun ht => ⟨?_, h4⟩)
    · refine gSlice_nm (hb.ev h4) 0 k (.inl ⟨rfl, rfl⟩) (.inr ⟨_, rfl⟩) (Nat.zero_le _) hk fun hs => ?_
      rw [List.drop_zero, Nat.sub_zero] at hs
      refine gCall_b0 (containsI_any hs (by rw [List.length_take]; omega)) (gIf_b (fun hc => ⟨?_, h4⟩) (fun hc => ?_))
      · rw [rightB_f (k := k) (by omega) (by rw [okN, hc]; simp)]
      · exact ⟨⟨k + 1, by rw [i64_id (by omega) (by omega)]; omega, by omega, by rw [okN, hok, ht, hc]; rfl, h4⟩, by dsimp only; rw [i64_id (by omega) (by omega)]; omega⟩
    · rw [rightB_f (k := k) (by omega) (by rw [okN, ht]; simp)]
  · simp at hx; rcases hx with rfl | rfl
    · exact cpV_one _
    · exact cuV_one _
  · obtain rfl : k = ts.length := by omega
    refine gLen_nm hb ⟨?_, h1⟩
    unfold rightB
    rw [hok, Bool.true_and]
    congr 2
    exact decide_eq_decide.2 (by omega)
theorem rRight_any {v : Value} {ts : List Int} (hb : Nm .i64 w v ts) (hl : ts.length ≤ 1000000000) : Calls P n_valiseref23_Right #[v] w (fun e w' => e = .returned (.bool (rightB ts)) ∧ Ev w w') := by
  refine of_valiseref23_Right ⟨fun i w' => ∃ k : Nat, i = (k : Int) ∧ k ≤ ts.length ∧ okN ts k = true ∧ Ev w w', fun i _ => (ts.length - i).toNat, ⟨0, rfl, Nat.zero_le _, rfl, Ch.refl _ w⟩, ?_⟩
  rintro _ i w1 ⟨k, rfl, hk, hok, h1⟩
  have h4 := h1.drew
  have no : ¬ (1 ≤ rd ts (k : Int) ∧ rd ts (k : Int) ≤ 6) → k < ts.length → Ending.returned (.bool false) = .returned (.bool (rightB ts)) ∧ Ev w w1.drew := fun h hkl => ⟨by rw [rightB_f (k := k) hkl (by rw [okN, decide_eq_false h]; simp)], h4⟩
  refine gLen_nm (hb.ev h1) (gIf_dec (fun hlt => ?_) (fun hge => ?_))
  · refine ⟨fun w' => w' = w1.drew, rfl, gIdx_nm (hb.ev h1) (by omega) (by omega) fun a1 c1 _ => gLoadB_i (at1 c1) (gIf_ndec (fun h5 => gIdx_nm (hb.ev h1) (by omega) (by omega) fun a2 c2 _ => gLoadB_i (at1 c2) (gIf_ndec (fun h6 => ?_) (fun h6 => no (by omega) (by omega)))) (fun h5 => no (by omega) (by omega)))⟩
    refine gSlice_nm (hb.ev h4) 0 k (.inl ⟨rfl, rfl⟩) (.inr ⟨_, rfl⟩) (Nat.zero_le _) hk fun hs => ?_
    rw [List.drop_zero, Nat.sub_zero] at hs
    refine gIdx_nm (hb.ev h1) (by omega) (by omega) fun a3 c3 _ => gLoadB_i (at1 c3) (gCall_b0 (inI_any hs (by rw [List.length_take]; omega)) ⟨rfl, gIf_b (fun hc => ⟨?_, h4⟩) (fun hc => ?_)⟩)
    · rw [rightB_f (k := k) (by omega) (by rw [okN, hc]; simp)]
    · exact ⟨⟨k + 1, by rw [i64_id (by omega) (by omega)]; omega, by omega, by rw [okN, hok, decide_eq_true (show 1 ≤ rd ts (k : Int) ∧ rd ts (k : Int) ≤ 6 by omega), hc]; rfl, h4⟩, by dsimp only; rw [i64_id (by omega) (by omega)]; omega⟩
  · obtain rfl : k = ts.length := by omega
    refine gLen_nm (hb.ev h1) ⟨?_, h1⟩
    unfold rightB
    rw [hok, Bool.true_and]
    congr 2
    exact decide_eq_decide.2 (by omega)
end
end Go.Proofs.YtilpoinhfiajcaaGreatDoorV

/- Package chain: Forward, Inverse, Choose, Detect. -/
namespace Go.Proofs.YtilpoinhfiajcaaGreatDoorV
open Go Go.RowKit
theorem right_ok {ts : List Int} (h : rightB ts = true) : okN ts ts.length = true := by
  unfold rightB at h; rw [Bool.and_eq_true] at h; exact h.1
theorem right_rg {ts : List Int} (h : rightB ts = true) {k : Nat} (hk : k < ts.length) : 1 ≤ rd ts (k : Int) ∧ rd ts (k : Int) ≤ 6 := (okN_t (right_ok h) k hk).1
theorem right_len {ts : List Int} (h : rightB ts = true) : ts.length ≤ 4 := (rightB_iff.1 h).1
theorem fwdN_len {xs ts : List Int} (h : xs.length ≤ 10000000) : ∀ k, (fwdN xs ts k).1.length ≤ 10000000
  | 0 => h
  | k + 1 => by
    rw [fwdN]
    split
    · rename_i hc
      dsimp only; omega
    · exact fwdN_len h k
theorem fwdN_did (xs ts : List Int) : ∀ k, (fwdN xs ts k).2.length ≤ k
  | 0 => Nat.le_refl _
  | k + 1 => by
    have := fwdN_did xs ts k
    rw [fwdN]
    split
    · dsimp only; rw [List.length_append, List.length_singleton]; omega
    · omega
/-- Bytes, and tags. -/
def FwdE (w : World) (r : List Int × List Int) (e : Ending) (w' : World) : Prop := ∃ x d, e = .returned (.tuple #[x, d]) ∧ Ev w w' ∧ Nm .u8 w' x r.1 ∧ Nm .i64 w' d r.2
def DetE (w : World) (r : List Int) (e : Ending) (w' : World) : Prop := ∃ v, e = .returned v ∧ Ev w w' ∧ Nm .i64 w' v r
section
variable {w0 w : World} {F : List It} {b tags : Value} {xs ts : List Int}
theorem Forward_any (hb : Nm .u8 w b xs) (ht : Nm .i64 w tags ts) (hl : xs.length ≤ 10000000) (htl : ts.length ≤ 1000000) (hM : MaxL w) : Calls P n_chain_Forward #[b, tags] w (FwdE w (fwdX xs ts)) := by
  refine of_chain_Forward (gCall_v (cloneX_any hb (by omega)) fun x w1 ⟨h1, o1⟩ => gCall_b (Right_any (ht.ev h1) (by omega)) fun w2 h2 => ?_)
  have f2 := ((Fr.start w).newO h1 o1).ev h2
  refine gIf_nb (fun hr => ?_) (fun hr => ?_)
  · have e : fwdX xs ts = (xs, []) := by unfold fwdX; rw [if_neg (by rw [hr]; decide)]
    rw [e]
    exact ⟨x, _, rfl, f2.old, f2.nm 0 rfl, (ON.nil .i64 eN w2 0).nm⟩
  have e : fwdX xs ts = fwdN xs ts ts.length := by unfold fwdX; rw [if_pos hr]
  rw [e]
  refine gLen_nm ((ht.ev h1).ev h2) ⟨fun out did i w' => ∃ k : Nat, i = (k : Int) ∧ k ≤ ts.length ∧ Fr w w' [oIt .i64 eN did (fwdN xs ts k).2, oIt .u8 eB out (fwdN xs ts k).1], fun _ _ i _ => (ts.length - i).toNat, ⟨0, rfl, Nat.zero_le _, f2.nil0 .i64 eN⟩, ?_⟩
  rintro _ out did i w3 ⟨k, rfl, hk, f3⟩
  refine gIf_dec (fun hlt => gGet (ht.ev f3.old) (by omega) (by omega) (gOf fun w4 h4 => fAlloc (z := .agg #[.nilFunc, .nilFunc]) (f3.ev h4) (by kernel_rfl) fun ad w5 f5 => fStoreA f5 0 rfl (fun w6 f6 => ?_) rfl (fun x hx => ?_))) (fun hge => ?_)
  · have f6 : Fr w w6 (sIt ad [cpV (rd ts (k : Int)), cuV (rd ts (k : Int))] :: [oIt .i64 eN did (fwdN xs ts k).2, oIt .u8 eB out (fwdN xs ts k).1]) := f6
    have hkl : k < ts.length := by omega
    have f6d := f6.drop 0
    have f6d : Fr w w6 [oIt .i64 eN did (fwdN xs ts k).2, oIt .u8 eB out (fwdN xs ts k).1] := f6d
    refine fLoad_v f6 0 0 rfl rfl (gPackV (right_rg hr hkl) (f6d.nm 1 rfl) (fwdN_len hl k) (hM.ev f6d.old) fun v w7 h7 o7 => ?_)
    have f7 := f6d.newO h7 o7
    have hdl := fwdN_did xs ts k
    have skip : ¬ ((packX (rd ts (k : Int)) (fwdN xs ts k).1).2 = true ∧ (packX (rd ts (k : Int)) (fwdN xs ts k).1).1.length ≤ 1048576) → (∃ k' : Nat, i64 ((k : Int) + 1) = (k' : Int) ∧ k' ≤ ts.length ∧ Fr w w7 [oIt .i64 eN did (fwdN xs ts k').2, oIt .u8 eB out (fwdN xs ts k').1]) ∧ (ts.length - i64 ((k : Int) + 1)).toNat < (ts.length - (k : Int)).toNat := fun h => by
      refine ⟨⟨k + 1, by rw [i64_id (by omega) (by omega)]; omega, hkl, ?_⟩, by rw [i64_id (by omega) (by omega)]; omega⟩
      rw [fwdN, if_neg h]
      exact f7.drop 0
    refine gIf_b (fun hp => gLen_nm (f7.nm 0 rfl) (gIf_dec (fun hle => ?_) (fun hgt => skip fun h => by omega))) (fun hp => skip fun h => by rw [hp] at h; cases h.1)
    refine fLit_n [rd ts (k : Int)] f7 rfl rfl (fun x hx => ?_) fun t47 w8 f8 => fApp f8 2 rfl (f8.nm 0 rfl) (by simp; omega) fun v' w9 f9 => ⟨⟨k + 1, by rw [i64_id (by omega) (by omega)]; omega, hkl, ?_⟩, by dsimp only; rw [i64_id (by omega) (by omega)]; omega⟩
    · rw [List.mem_singleton.1 hx]
      have := right_rg hr hkl
      have h1 : IntKind.i64.min = -9223372036854775808 := by decide
      have h2 : IntKind.i64.max = 9223372036854775807 := by decide
      rw [h1, h2]; omega
    · rw [fwdN, if_pos ⟨hp, by omega⟩]
      exact f9.picks [2, 1] (by decide)
  · simp at hx; rcases hx with rfl | rfl
    · exact cpV_one _
    · exact cuV_one _
  · obtain rfl : k = ts.length := by omega
    exact ⟨out, did, rfl, f3.old, f3.nm 1 rfl, f3.nm 0 rfl⟩
/-! ### Detect -/
def txB (c : Int) : Bool := decide (32 ≤ c ∧ c ≤ 126 ∨ c = 9 ∨ c = 10 ∨ c = 13)
def detX (xs : List Int) : List Int :=
  if (parseW xs).2 = true then [1] else if (parseP xs).2 = true then [2] else if 10 * ((xs.countP txB : Nat) : Int) > 9 * (xs.length : Int) then [5, 6, 4] else if widI xs ≠ 0 then [3] else []
theorem cnt_next {xs : List Int} {k : Nat} (hk : k < xs.length) : (xs.take (k + 1)).countP txB = (xs.take k).countP txB + if txB (rd xs (k : Int)) = true then 1 else 0 := by
  rw [List.take_succ_eq_append_getElem hk, List.countP_append, rd_nat xs k hk]
  simp [List.countP_cons, List.countP_nil]
theorem texty_any {c : Int} : Calls P n_chain_texty #[.int .u8 c] w (fun e w' => e = .returned (.bool (txB c)) ∧ w' = w) := by
  have h2 : gIf (!(c == 9)) (gIf (!(c == 10)) (Ending.returned (.bool (c == 13)) = .returned (.bool (decide (c = 9 ∨ c = 10 ∨ c = 13))) ∧ w = w) (Ending.returned (.bool true) = .returned (.bool (decide (c = 9 ∨ c = 10 ∨ c = 13))) ∧ w = w)) (Ending.returned (.bool true) = .returned (.bool (decide (c = 9 ∨ c = 10 ∨ c = 13))) ∧ w = w) := by
    refine gIf_neqq (fun h1 => gIf_neqq (fun h2 => ⟨?_, rfl⟩) (fun h2 => ⟨?_, rfl⟩)) (fun h1 => ⟨?_, rfl⟩)
    · congr 2
      by_cases h : c = 13
      · subst h; rfl
      · rw [decide_eq_false (by omega)]; simpa using h
    · rw [decide_eq_true (by omega)]
    · rw [decide_eq_true (by omega)]
  refine of_chain_texty (gIf_dec (fun h1 => gIf_ndec (fun h3 => ?_) (fun h3 => ⟨?_, rfl⟩)) (fun h1 => ?_))
  · rw [show txB c = decide (c = 9 ∨ c = 10 ∨ c = 13) from decide_eq_decide.2 (by omega)]; exact h2
  · rw [show txB c = true from decide_eq_true (by omega)]
  · rw [show txB c = decide (c = 9 ∨ c = 10 ∨ c = 13) from decide_eq_decide.2 (by omega)]; exact h2
theorem Detect_any (hb : Nm .u8 w b xs) (hl : xs.length ≤ 100000000) : Calls P n_chain_Detect #[b] w (DetE w (detX xs)) := by
  refine of_chain_Detect (gCall_wav (wvParse_any hb (by omega)) fun w1 h1 => fWvNew ((Fr.start w).ev h1) fun t3 w2 f2 => fWvSet f2 0 rfl rfl fun w3 f3 => gIf_b (fun hw => ?_) (fun hw => ?_))
  · refine fLit_n [1] f3 rfl rfl (fun x hx => by rw [List.mem_singleton.1 hx]; decide) fun v w4 f4 => ⟨v, rfl, f4.old, ?_⟩
    rw [show detX xs = [1] by unfold detX; rw [if_pos hw]]
    exact f4.nm 0 rfl
  refine gCall_pic (Parse_any (hb.ev f3.old) (by omega)) fun w5 h5 => fPicNew (f3.ev h5) fun t5 w6 f6 => fPicSet f6 0 rfl rfl fun w7 f7 => gIf_b (fun hp => ?_) (fun hp => ?_)
  · refine fLit_n [2] f7 rfl rfl (fun x hx => by rw [List.mem_singleton.1 hx]; decide) fun v w8 f8 => ⟨v, rfl, f8.old, ?_⟩
    rw [show detX xs = [2] by unfold detX; rw [if_neg (by rw [hw]; decide), if_pos hp]]
    exact f8.nm 0 rfl
  have hb7 := hb.ev f7.old
  have hcl : ∀ k : Nat, (xs.take k).countP txB ≤ k := fun k => Nat.le_trans List.countP_le_length (by rw [List.length_take]; omega)
  refine gLen_nm hb7 ⟨fun n i w' => ∃ k : Nat, i = (k : Int) ∧ k ≤ xs.length ∧ n = (((xs.take k).countP txB : Nat) : Int) ∧ w' = w7, fun _ i _ => (xs.length - i).toNat, ⟨0, rfl, Nat.zero_le _, rfl, rfl⟩, ?_⟩
  rintro _ n i w9 ⟨k, rfl, hk, rfl, hw9⟩
  obtain rfl : w7 = w9 := hw9.symm
  have hck := hcl k
  refine gIf_dec (fun hlt => gGet hb7 (by omega) (by omega) (gCall_b0 texty_any (gIf_b (fun h => ?_) (fun h => ?_)))) (fun hge => ?_)
  · exact ⟨⟨k + 1, by rw [i64_id (by omega) (by omega)]; omega, by omega, by rw [cnt_next (by omega), if_pos h, i64_id (by omega) (by omega)]; omega, rfl⟩, by dsimp only; rw [i64_id (n := (k : Int) + 1) (by omega) (by omega)]; omega⟩
  · exact ⟨⟨k + 1, by rw [i64_id (by omega) (by omega)]; omega, by omega, by rw [cnt_next (by omega), if_neg (by rw [h]; decide)]; rfl, rfl⟩, by dsimp only; rw [i64_id (n := (k : Int) + 1) (by omega) (by omega)]; omega⟩
  · obtain rfl : k = xs.length := by omega
    rw [List.take_length] at hck ⊢
    have d0 : detX xs = if 10 * ((xs.countP txB : Nat) : Int) > 9 * (xs.length : Int) then [5, 6, 4] else if widI xs ≠ 0 then [3] else [] := by unfold detX; rw [if_neg (by rw [hw]; decide), if_neg (by rw [hp]; decide)]
    refine gLen_nm hb7 ?_
    rw [i64_id (n := 10 * ((xs.countP txB : Nat) : Int)) (by omega) (by omega), i64_id (n := 9 * (xs.length : Int)) (by omega) (by omega)]
    refine gIf_dec (fun hg => ?_) (fun hg => gCall_i (Width_any hb7 (by omega)) fun w12 h12 => gIf_neq (fun hne => ?_) (fun he => ?_))
    · refine fLit_n [5, 6, 4] f7 rfl rfl (fun x hx => by simp at hx; rcases hx with rfl | rfl | rfl <;> decide) fun v w8 f8 => ⟨v, rfl, f8.old, ?_⟩
      rw [d0, if_pos hg]
      exact f8.nm 0 rfl
    · refine fLit_n [3] (f7.ev h12) rfl rfl (fun x hx => by rw [List.mem_singleton.1 hx]; decide) fun v w8 f8 => ⟨v, rfl, f8.old, ?_⟩
      rw [d0, if_neg hg, if_pos hne]
      exact f8.nm 0 rfl
    · refine ⟨_, rfl, f7.old.trans h12, ?_⟩
      rw [d0, if_neg hg, if_neg (by omega)]
      exact (ON.nil .i64 eN w12 0).nm
theorem awake23_any : Calls P n_valiselaw23_awake #[] w (fun e w' => e = .returned (.bool true) ∧ Ev w w') := by
  have r6 : rightB [6] = true := by decide
  have d3 : detX [97, 97, 97] = [5, 6, 4] := by decide +kernel
  refine of_valiselaw23_awake (fLit_n [6] (Fr.start w) rfl rfl (fun x hx => by rw [List.mem_singleton.1 hx]; decide) fun v w1 f1 => gCall_b (Right_any (f1.nm 0 rfl) (by decide)) fun w2 h2 => ?_)
  rw [r6]
  refine gIf_t (fLitC [97, 97, 97] (f1.ev h2) rfl rfl (fun x hx => by simp at hx; subst hx; decide) fun t w3 f3 => gCall_of (Detect_any (Cn.nm (f3.get 0 rfl)) (by decide)) ?_)
  rintro _ w4 ⟨u, rfl, h4, n4⟩
  rw [d3] at n4
  exact ⟨u, rfl, gLen_nm n4 ⟨rfl, f3.old.trans h4⟩⟩
theorem awake23_end {w0 : World} (h : Ev w0 w) : gCall P n_valiselaw23_awake shB #[] w fun t ww => Holds w0 (.returned (.bool t)) ww := gCall_b awake23_any fun _ h2 => ⟨rfl, h.trans h2⟩
end
end Go.Proofs.YtilpoinhfiajcaaGreatDoorV

/- The law ChainTells. -/
namespace Go.Proofs.YtilpoinhfiajcaaGreatDoorV
open Go Go.RowKit
section
variable {w : World} {b tags : Value} {xs ts : List Int}
theorem SameI_any {a c : Value} {ys : List Int} (ha : Nm .i64 w a xs) (hb : Nm .i64 w c ys) (hl : xs.length ≤ 1000000000) :
    Calls P n_valisehelp_Same_int #[a, c, .func (.func n_valisehelp_Plain_int_1) #[] #[]] w (fun e w' => e = .returned (.bool (decide (xs = ys))) ∧ Ev w w') := by
  refine of_valisehelp_Same_int (gLen_nm ha (gLen_nm hb (gIf_neq (fun hne => ⟨by rw [decide_eq_false fun h => hne (by rw [h])], Ch.refl _ w⟩) (fun heq => ?_))))
  have hle : xs.length = ys.length := by omega
  refine ⟨fun i w' => ∃ j : Nat, i = j ∧ j ≤ xs.length ∧ (∀ q, q < j → rd xs q = rd ys q) ∧ Ev w w', fun i _ => xs.length - i.toNat, ⟨0, rfl, by omega, by omega, Ch.refl _ w⟩, ?_⟩
  rintro _ i w1 ⟨j, rfl, hj, hq, h1⟩
  refine gLen_nm ha (gIf_dec (fun hlt => ?_) (fun hge => ⟨?_, h1⟩))
  · refine ⟨fun w' => w' = w1.drew, rfl, gIdx_nm (ha.ev h1) (by omega) (by omega) fun a1 c1 _ => gLoadB_i (at1 c1) (gIdx_nm (hb.ev h1) (by omega) (by omega) fun a2 c2 _ => gLoadB_i (at1 c2) (gCallV_of rfl (by kernel_rfl) (of_valisehelp_Plain_int_1 (R := fun e w' => e = .returned (.bool (rd xs j == rd ys j)) ∧ w' = w1.drew) ⟨rfl, rfl⟩) ?_))⟩
    rintro _ _ ⟨rfl, rfl⟩
    refine ⟨_, rfl, rfl, ?_⟩
    refine gIf_neqq (fun hne => ⟨?_, h1.drew⟩) (fun he => ?_)
    · rw [decide_eq_false fun h => hne (by rw [h])]
    · rw [i64_id (n := (j : Int) + 1) (by omega) (by omega)]
      refine ⟨⟨j + 1, by omega, by omega, fun q hq' => ?_, h1.drew⟩, by dsimp only; omega⟩
      rcases Nat.lt_or_ge q j with h | h
      · exact hq q h
      · have : q = j := by omega
        subst this; exact he
  · rw [decide_eq_true]
    refine List.ext_getElem hle fun q h1 h2 => ?_
    rw [← rd_nat xs q h1, ← rd_nat ys q h2]; exact hq q (by omega)
theorem PlainI_any {a c : Value} {ys : List Int} (ha : Nm .i64 w a xs) (hb : Nm .i64 w c ys) (hl : xs.length ≤ 1000000000) :
    Calls P n_valisehelp_Plain_int #[a, c] w (fun e w' => e = .returned (.bool (decide (xs = ys))) ∧ Ev w w') :=
  of_valisehelp_Plain_int (gCall_of (SameI_any ha hb hl) fun _ _ ⟨h1, h2⟩ => ⟨_, h1, rfl, h2⟩)
end
end Go.Proofs.YtilpoinhfiajcaaGreatDoorV

/- The other form of words: letters, runs, worth, what stands ahead; rows of counted words. -/
namespace Go.Proofs.YtilpoinhfiajcaaGreatDoorV
open Go Go.RowKit
section
variable {w0 w : World} {F : List It}
theorem gSlice_slv {t : TypeId} {sz n : Nat} {v : Value} {cs : List Value} {lo hi : Option Value} {K : Value → Prop} (h : Sl w sz v n cs) (l m : Nat) (hlo : (lo = none ∧ l = 0) ∨ (∃ k, lo = some (.int k l))) (hhi : (hi = none ∧ m = n) ∨ (∃ k, hi = some (.int k m))) (hl : l ≤ m) (hm : m ≤ n)
    (hk : Sl w sz (subV sz v l m) (m - l) ((cs.drop (l * sz)).take ((m - l) * sz)) → K (subV sz v l m)) (ht : slSz P t sz = true := by kernel_rfl) : gSlice P t v lo hi none K := by
  have hs := h.sub l m hl hm
  obtain ⟨a, c, rfl, hc, _⟩ := h
  exact gSlice_any hlo hhi hl (by omega) (hk hs) ht
theorem rd_from (xs : List Int) (p k : Nat) : rd (xs.drop p) (k : Int) = rd xs ((p + k : Nat) : Int) := by
  simp only [rd, List.getD_eq_getElem?_getD, List.getElem?_drop, Int.toNat_natCast]
theorem refLetter_any {c : Int} : Calls P n_valiseref21_letter #[.int .u8 c] w (fun e w' => e = .returned (.bool (letB c)) ∧ w' = w) := by
  refine of_valiseref21_letter (gIf_dec (fun h1 => gIf_ndec (fun h2 => gIf_dec (fun h3 => ⟨?_, rfl⟩) (fun h3 => ⟨?_, rfl⟩)) (fun h2 => ⟨?_, rfl⟩)) (fun h1 => gIf_dec (fun h3 => ⟨?_, rfl⟩) (fun h3 => ⟨?_, rfl⟩)))
  all_goals
    unfold letB
    congr 2
    first | exact (decide_eq_true (by omega)).symm | exact (decide_eq_false (by omega)).symm | exact decide_eq_decide.2 (by omega)
theorem refRun_any {b : Value} {xs : List Int} {p : Nat} (hb : Nm .u8 w b xs) (hp : p ≤ xs.length) (hl : xs.length ≤ 1000000000) : Calls P n_valiseref21_run #[b, .int .i64 (p : Int)] w (fun e w' => e = .returned (.int .i64 ((p + runN (xs.drop p) : Nat) : Int)) ∧ w' = w) := by
  have hdl : (xs.drop p).length = xs.length - p := List.length_drop
  refine of_valiseref21_run ⟨fun i w' => ∃ k : Nat, i = ((p + k : Nat) : Int) ∧ p + k ≤ xs.length ∧ (∀ j, j < k → letB (rd (xs.drop p) (j : Int)) = true) ∧ w' = w, fun i _ => xs.length - i.toNat, ⟨0, rfl, hp, (fun j h => by omega), rfl⟩, ?_⟩
  rintro _ i _ ⟨k, rfl, hk, hall, rfl⟩
  refine gLen_nm hb (gIf_dec (fun hlt => gGet hb (by omega) (by omega) (gCall_b0 refLetter_any ?_)) (fun hge => ?_))
  · rw [← rd_from]
    refine gIf_b (fun h => ?_) (fun h => ?_)
    · refine ⟨⟨k + 1, by rw [i64_id (by omega) (by omega)]; omega, by omega, fun j hj => ?_, rfl⟩, by dsimp only; rw [i64_id (by omega) (by omega)]; omega⟩
      by_cases hjk : j = k
      · subst hjk; exact h
      · exact hall j (by omega)
    · rw [runN_at (xs := xs.drop p) (k := k) (by omega) hall fun _ => h]; exact ⟨rfl, rfl⟩
  · rw [runN_at (xs := xs.drop p) (k := k) (by omega) hall fun h => by omega]; exact ⟨rfl, rfl⟩
theorem refWorth_any {v : Value} {s : List UInt8} {c : List UInt8 → Nat} (hv : Nm .u8 w v (iU s)) (hs : s.length ≤ 24) (hc : c s ≤ 1000000000) : Calls P n_valiseref21_Counted_worth #[.agg #[v, .int .i64 (c s : Nat)]] w (fun e w' => e = .returned (.int .i64 (wth c s)) ∧ Ev w w') := by
  refine of_valiseref21_Counted_worth (fBox (Fr.start w) fun ad w1 f => ?_)
  have f : Fr w w1 [sIt ad [v, .int .i64 (c s : Nat)]] := f
  refine fLoad_i f 0 1 rfl rfl (fLoad_v f 0 0 rfl rfl (gLen_nm (hv.ev f.old) ⟨?_, f.old⟩))
  unfold wth
  rw [iU_len]
  have hk : ((s.length : Nat) : Int) ≤ 24 := by omega
  rw [i64_id (n := ((c s : Nat) : Int) - 1) (by omega) (by omega)]
  have b1 : -24 ≤ (((c s : Nat) : Int) - 1) * ((s.length : Nat) : Int) ∧ (((c s : Nat) : Int) - 1) * ((s.length : Nat) : Int) ≤ 24000000000 := by
    generalize c s = k at *
    by_cases h0 : k = 0
    · subst h0; omega
    · have a := Int.mul_nonneg (show 0 ≤ (k : Int) - 1 by omega) (show 0 ≤ (s.length : Int) by omega)
      have b := Int.mul_le_mul (show (k : Int) - 1 ≤ 1000000000 by omega) hk (by omega) (by omega)
      omega
  rw [i64_id (by omega) (by omega)]
theorem refAhead_any {v y : Value} {s t : List UInt8} {c : List UInt8 → Nat} (hv : Nm .u8 w v (iU s)) (hy : Nm .u8 w y (iU t)) (hs : s.length ≤ 24) (ht : t.length ≤ 24) (hc : c s ≤ 1000000000) (hd : c t ≤ 1000000000) :
    Calls P n_valiseref21_ahead #[.agg #[v, .int .i64 (c s : Nat)], .agg #[y, .int .i64 (c t : Nat)]] w (fun e w' => e = .returned (.bool (ltU c s t)) ∧ Ev w w') := by
  refine of_valiseref21_ahead (fBox (Fr.start w) fun a2 w1 f1 => fBox f1 fun b3 w2 f2 => ?_)
  have f2 : Fr w w2 [sIt b3 [y, .int .i64 (c t : Nat)], sIt a2 [v, .int .i64 (c s : Nat)]] := f2
  have fd := f2.drew
  have la : ∀ w', Fr w w' [sIt b3 [y, .int .i64 (c t : Nat)], sIt a2 [v, .int .i64 (c s : Nat)]] → ∀ j u, [v, Value.int .i64 (c s : Nat)][j]? = some u → w'.cell? (a2.add j) = some u := fun w' h j u hj => h.cell 1 j rfl hj
  have lb : ∀ w', Fr w w' [sIt b3 [y, .int .i64 (c t : Nat)], sIt a2 [v, .int .i64 (c s : Nat)]] → ∀ j u, [y, Value.int .i64 (c t : Nat)][j]? = some u → w'.cell? (b3.add j) = some u := fun w' h j u hj => h.cell 0 j rfl hj
  refine ⟨fun w' => Fr w w' [sIt b3 [y, .int .i64 (c t : Nat)], sIt a2 [v, .int .i64 (c s : Nat)]], fd, gLoadB_agg _ la (gLoadB_agg _ lb (gCall_i (refWorth_any (hv.ev fd.old) hs hc) fun w3 h3 => ⟨fd.ev h3, gCall_i (refWorth_any (hy.ev (fd.ev h3).old) ht hd) fun w4 h4 => ⟨(fd.ev h3).ev h4, ?_⟩⟩))⟩
  have f4 := (fd.ev h3).ev h4
  refine gIf_neq (fun hne => ?_) (fun he => ?_)
  · have f4d := f4.drew
    refine ⟨fun w' => Fr w w' [sIt b3 [y, .int .i64 (c t : Nat)], sIt a2 [v, .int .i64 (c s : Nat)]], f4d, gLoadB_agg _ la (gLoadB_agg _ lb (gCall_i (refWorth_any (hv.ev f4d.old) hs hc) fun w5 h5 => ⟨f4d.ev h5, gCall_i (refWorth_any (hy.ev (f4d.ev h5).old) ht hd) fun w6 h6 => ⟨(f4d.ev h5).ev h6, ?_, ((f4d.ev h5).ev h6).old⟩⟩))⟩
    congr 2
    by_cases h : wth c s > wth c t
    · rw [decide_eq_true h, ltU_iff.2 (.inl h)]
    · rw [decide_eq_false h]
      cases hh : ltU c s t with
      | false => rfl
      | true => rcases ltU_iff.1 hh with h1 | h1 <;> omega
  · refine fLoad_v f4 1 0 rfl rfl (gConv_bs (hv.ev f4.old) (fLoad_v f4 0 0 rfl rfl (gConv_bs (hy.ev f4.old) ⟨?_, f4.old⟩)))
    rw [bsOf_mk, bsOf_mk, tl_mk, tl_mk, bU_iU, bU_iU]
    congr 2
    cases hh : Op.bytesLess s t with
    | true => exact (ltU_iff.2 (.inr ⟨he.symm, bytesLess_iff.1 hh⟩)).symm
    | false =>
      cases h2 : ltU c s t with
      | false => rfl
      | true =>
        rcases ltU_iff.1 h2 with h1 | h1
        · omega
        · rw [bytesLess_iff.2 h1.2] at hh; cases hh
/-! ### Rows of counted words -/
noncomputable abbrev eC : TypeId := elOf P t_sl_valiseref21_Counted
/-- A word's value, the word, how often it comes. -/
abbrev Ct := Value × List UInt8 × Nat
def cellsC : List Ct → List Value
  | [] => []
  | u :: T => u.1 :: .int .i64 (u.2.2 : Nat) :: cellsC T
theorem cellsC_app (S T : List Ct) : cellsC (S ++ T) = cellsC S ++ cellsC T := by
  induction S with
  | nil => rfl
  | cons u S ih => rw [List.cons_append, cellsC, cellsC, ih]; rfl
theorem cellsC_len : ∀ T : List Ct, (cellsC T).length = T.length * 2
  | [] => rfl
  | u :: T => by rw [cellsC, List.length_cons, List.length_cons, cellsC_len T, List.length_cons]; omega
theorem cellsC_at : ∀ {T : List Ct} {k : Nat} {u : Ct}, T[k]? = some u → (cellsC T)[k * 2 + 0]? = some u.1 ∧ (cellsC T)[k * 2 + 1]? = some (.int .i64 (u.2.2 : Nat))
  | t :: T, 0, u, h => by simp at h; subst h; exact ⟨rfl, rfl⟩
  | t :: T, k + 1, u, h => by
    have := cellsC_at (T := T) (k := k) (u := u) (by simpa using h)
    rw [cellsC, show (k + 1) * 2 + 0 = k * 2 + 0 + 1 + 1 by omega, show (k + 1) * 2 + 1 = k * 2 + 1 + 1 + 1 by omega, List.getElem?_cons_succ, List.getElem?_cons_succ, List.getElem?_cons_succ, List.getElem?_cons_succ]
    exact this
theorem cellsC_take : ∀ (T : List Ct) (k : Nat), (cellsC T).take (k * 2) = cellsC (T.take k)
  | [], k => by simp [cellsC]
  | u :: T, 0 => by simp [cellsC]
  | u :: T, k + 1 => by rw [cellsC, show (k + 1) * 2 = k * 2 + 1 + 1 by omega, List.take_succ_cons, List.take_succ_cons, cellsC_take T k]; rfl
theorem cellsC_drop : ∀ (T : List Ct) (k : Nat), (cellsC T).drop (k * 2) = cellsC (T.drop k)
  | [], k => by simp [cellsC]
  | u :: T, 0 => by simp [cellsC]
  | u :: T, k + 1 => by rw [cellsC, show (k + 1) * 2 = k * 2 + 1 + 1 by omega, List.drop_succ_cons, List.drop_succ_cons, cellsC_drop T k]; rfl
theorem cellsC_set : ∀ {T : List Ct} {k : Nat} {u : Ct} (n : Nat), T[k]? = some u → (cellsC T).set (k * 2 + 1) (.int .i64 (n : Nat)) = cellsC (T.set k (u.1, u.2.1, n))
  | t :: T, 0, u, n, h => by simp at h; subst h; rfl
  | t :: T, k + 1, u, n, h => by
    rw [cellsC, show (k + 1) * 2 + 1 = k * 2 + 1 + 1 + 1 by omega, List.set_cons_succ, List.set_cons_succ, cellsC_set n (T := T) (k := k) (u := u) (by simpa using h)]; rfl
noncomputable def itC (u : Ct) : It := oIt .u8 eB u.1 (iU u.2.1)
noncomputable def cF (v : Value) (T : List Ct) : List It := rIt eC 2 v T.length (cellsC T) :: T.reverse.map itC
theorem cF_nm {G : List It} {v : Value} {T : List Ct} (f : Fr w0 w G) (hG : ∀ x ∈ cF v T, x ∈ G) : ∀ u ∈ T, Nm .u8 w u.1 (iU u.2.1) := fun u hu => by
  have hm : oIt .u8 eB u.1 (iU u.2.1) ∈ G := hG _ (List.mem_cons_of_mem _ (List.mem_map.2 ⟨u, List.mem_reverse.2 hu, rfl⟩))
  exact Nm.of_on (f.mem hm).1
theorem cF_one {G : List It} {v : Value} {T : List Ct} (f : Fr w0 w G) (hG : ∀ x ∈ cF v T, x ∈ G) : ∀ u ∈ T, u.1.oneCell' = true := fun u hu => by
  obtain ⟨a, c, e, _⟩ := (cF_nm f hG u hu).shape
  rw [e]; rfl
theorem cellsC_one {T : List Ct} (h : ∀ u ∈ T, u.1.oneCell' = true) : ∀ x ∈ cellsC T, x.oneCell' = true := by
  induction T with
  | nil => intro x hx; cases hx
  | cons u T ih =>
    intro x hx
    rw [cellsC] at hx
    rcases List.mem_cons.1 hx with rfl | hx
    · exact h u List.mem_cons_self
    · rcases List.mem_cons.1 hx with rfl | hx
      · rfl
      · exact ih (fun y hy => h y (List.mem_cons_of_mem _ hy)) x hx
theorem Sl.of_cellsC {ad : Addr} {n : Nat} {cs : List Value} (h : St w ad cs) (hn : cs.length = n * 2) : Sl w 2 (.slice (some ad) n n) n cs :=
  ⟨some ad, n, rfl, Nat.le_refl _, by rw [hn], fun ad' ha j u hj => by injection ha with ha; subst ha; exact St.cell h hj, fun h => by cases h⟩
theorem c_step {out v : Value} {T : List Ct} {s : List UInt8} {K : Value → World → Prop} (f : Fr w0 w (oIt .u8 eB v (iU s) :: cF out T)) (hl : T.length ≤ 1000000) (hk : ∀ out' w', Fr w0 w' (cF out' (T ++ [(v, s, 0)])) → K out' w') :
    gLit P t_sl_valiseref21_Counted 1 #[(0, .agg #[v, .int .i64 0])] w fun t20 w5 => gApp P #[t_sl_valiseref21_Counted, t_sl_valiseref21_Counted] t_sl_valiseref21_Counted #[out, t20] w5 K := by
  have hn := f.nm 0 rfl
  have ho : v.oneCell' = true := by obtain ⟨a, c, rfl, _⟩ := hn.shape; rfl
  refine fLit_sz 2 [[v, .int .i64 0]] f rfl rfl (fun v hv => by simp at hv; subst hv; rfl) (fun ad w5 f5 => ?_) (by decide) (by kernel_rfl) (by decide +kernel)
  refine fAppR 40 (m := 1) f5 2 rfl (Sl.of_cellsC (f5.get 0 rfl) rfl) (fun x hx => ?_) (by omega) (by unfold maxLen; omega) (fun v' w6 f6 => hk v' w6 ?_) (by kernel_rfl)
  · simp at hx; rcases hx with rfl | rfl
    · exact ho
    · rfl
  · have f7 := f6.picksN 3 [2, 1] (by decide) (by decide)
    have e1 : cF v' (T ++ [(v, s, 0)]) = rIt eC 2 v' (T.length + 1) (cellsC T ++ [v, .int .i64 0]) :: oIt .u8 eB v (iU s) :: T.reverse.map itC := by
      unfold cF; rw [cellsC_app, List.length_append, List.reverse_append]; rfl
    rw [e1]; exact f7
end
end Go.Proofs.YtilpoinhfiajcaaGreatDoorV

/- Rows of counted words: one more of a word; a word set in; plain counts. -/
namespace Go.Proofs.YtilpoinhfiajcaaGreatDoorV
open Go Go.RowKit
section
variable {w0 w : World} {F : List It}
/-- One cell of a row is another one. -/
theorem fStoreRq {t e : TypeId} {sz n j : Nat} {v u : Value} {cs : List Value} {ad : Addr} {K : World → Prop} (q : Nat) (h : Fr w0 w F) (i : Nat) (hi : F[i]? = some (rIt e sz v n cs)) (hs : SltR v j sz ad) (hj : j < n) (hq : q < sz) (hu : u.oneCell' = true) (hcl : u.cells = #[u])
    (hk : ∀ w', Fr w0 w' (F.set i (rIt e sz v n (cs.set (j * sz + q) u))) → K w') (ht : flat1 P t = true := by kernel_rfl) : gStore P t (.pointer (some (ad.add q))) u w K := by
  have ho : w.ownsRow 0 e sz v n cs := h.get i hi
  obtain ⟨g, n', c, rfl, rfl⟩ := hs
  have hle : (j + 1) * sz ≤ n * sz := Nat.mul_le_mul_right _ hj
  rw [Nat.add_mul, Nat.one_mul] at hle
  rcases ho.2 with ⟨hn, _⟩ | ⟨g', cap, cur, hv, hb, hg, hn, hm, hcs, htk⟩
  · simp at hn
  simp only [Value.slice.injEq, Option.some.injEq, Addr.mk.injEq, and_true] at hv
  obtain ⟨rfl, rfl, rfl⟩ := hv
  have hlen : cs.length = n' * sz := ho.1
  have hst : St w ⟨g, 0, none⟩ cs := ⟨rfl, cur, e, hg, fun q u hq => by
    rw [← htk, List.getElem?_take] at hq
    dsimp only; rw [Nat.zero_add]
    split at hq
    · rw [Array.getElem?_toList] at hq; exact hq
    · cases hq⟩
  have hadd : (⟨g, j * sz, none⟩ : Addr).add q = (⟨g, 0, none⟩ : Addr).add (j * sz + q) := by rw [Addr.add_lit, Addr.add_lit, Nat.zero_add]
  rw [hadd]
  refine gStore_st hst (by rw [hlen]; omega) hu hcl (fun w' hc _ hS => hk w' (h.upd i hi hc (fun k _ hh => .inl ?_) ?_ fun k hk => .inl hk)) ht
  · have h2 := hh.1
    rw [Addr.add_lit] at h2
    show some g = some k
    rw [h2]
  · obtain ⟨c', k1, k2, _⟩ := hc.cel _ _ _ _ hg
    refine ⟨by rw [List.length_set]; exact hlen, .inr ⟨g, c, c', rfl, Nat.zero_le _, k1, hn, hm, by rw [k2]; exact hcs, ?_⟩⟩
    obtain ⟨_, c2, e2, s1, s2⟩ := hS
    dsimp only at s1 s2
    rw [k1] at s1
    have s1 := Option.some.inj s1
    simp only [Obj.cells.injEq] at s1
    obtain ⟨rfl, _⟩ := s1
    refine List.ext_getElem? fun p => ?_
    rw [List.getElem?_take]
    have hl2 : (cs.set (j * sz + q) u).length = n' * sz := by rw [List.length_set]; exact hlen
    split
    · rename_i hp
      have hx := s2 p _ (List.getElem?_eq_getElem (by rw [hl2]; exact hp))
      rw [Nat.zero_add] at hx
      rw [Array.getElem?_toList, hx, List.getElem?_eq_getElem (by rw [hl2]; exact hp)]
    · rename_i hp
      rw [List.getElem?_eq_none (by rw [hl2]; omega)]
theorem cF_set {v : Value} {T : List Ct} {k n : Nat} {u : Ct} (h : T[k]? = some u) : cF v (T.set k (u.1, u.2.1, n)) = rIt eC 2 v T.length ((cellsC T).set (k * 2 + 1) (.int .i64 (n : Nat))) :: T.reverse.map itC := by
  unfold cF
  rw [cellsC_set n h, List.length_set, List.map_reverse, List.map_reverse, List.map_set]
  congr 2
  refine List.ext_getElem? fun i => ?_
  rw [List.getElem?_set]
  split
  · rename_i e
    subst e
    obtain ⟨hl, e⟩ := List.getElem?_eq_some_iff.1 h
    rw [if_pos (by rw [List.length_map]; exact hl), List.getElem?_map, h]; rfl
  · rfl
theorem c_bump {v : Value} {T : List Ct} {k : Nat} {u : Ct} {K : World → Prop} (f : Fr w0 w (cF v T)) (hu : T[k]? = some u) (hn : u.2.2 ≤ 1000000000) (hk : ∀ w', Fr w0 w' (cF v (T.set k (u.1, u.2.1, u.2.2 + 1))) → K w') :
    gIdx P t_sl_valiseref21_Counted v (.int .i64 (k : Int)) fun t66 => gLoad P t_int (shI .i64) (.pointer (some (Addr.add t66 1))) w fun t68 => gIdx P t_sl_valiseref21_Counted v (.int .i64 (k : Int)) fun t70 => gStore P t_int (.pointer (some (Addr.add t70 1))) (.int .i64 (i64 (t68 + 1))) w K := by
  have hlt := (List.getElem?_eq_some_iff.1 hu).1
  have hr : w.ownsRow 0 eC 2 v T.length (cellsC T) := f.get 0 rfl
  refine gIdx_r hr rfl hlt (fun ad hs => gLoad_i (hs.cell hr (cellsC_at hu).2) (gIdx_r hr rfl hlt (fun ad2 hs2 => fStoreRq 1 f 0 rfl hs2 hlt (by decide) rfl rfl fun w' f' => hk w' ?_) (by kernel_rfl))) (by kernel_rfl)
  rw [cF_set hu, show ((u.2.2 + 1 : Nat) : Int) = i64 ((u.2.2 : Int) + 1) by rw [i64_id (by omega) (by omega)]; omega]
  exact f'
/-- A counted word, read in whatever world of some. -/
theorem gCtB {B : World → Prop} {v : Value} {T : List Ct} {k : Nat} {u : Ct} {K : Value → Int → Prop} (hB : B w) (h : ∀ w', B w' → w'.ownsRow 0 eC 2 v T.length (cellsC T)) (hu : T[k]? = some u) (hk : K u.1 (u.2.2 : Nat)) :
    gIdx P t_sl_valiseref21_Counted v (.int .i64 (k : Int)) fun ad => gLoadB P t_valiseref21_Counted (.part (.agg [.val, .int .i64])) (.pointer (some ad)) B K := by
  have hlt := (List.getElem?_eq_some_iff.1 hu).1
  have hc := cellsC_at hu
  refine gIdx_r (h w hB) rfl hlt (fun ad hs => gLoadB_agg [u.1, .int .i64 (u.2.2 : Nat)] (fun w' hw j x hj => ?_) hk rfl (by kernel_rfl)) (by kernel_rfl)
  rcases j with _ | _ | j
  · simp at hj; subst hj; exact hs.cell (h w' hw) hc.1
  · simp at hj; subst hj; exact hs.cell (h w' hw) hc.2
  · simp at hj
/-- A word is set in among others. -/
theorem ins_tail {v y z : Value} {U : List Ct} {u : Ct} {k : Nat} {B : World → Prop} {K : Value → World → Prop} (f : Fr w0 w (rIt eC 2 v k (cellsC (U.take k)) :: F)) (hs : Sl w 2 y 1 [u.1, .int .i64 (u.2.2 : Nat)]) (ho : Sl w0 2 z (U.length - k) (cellsC (U.drop k))) (hB : ∀ w', Ev w0 w' → B w')
    (h1 : ∀ u ∈ U, u.1.oneCell' = true) (hu : u.1.oneCell' = true) (hk : k ≤ U.length) (hl : U.length ≤ 1000000) (hK : ∀ v' w', Fr w0 w' (rIt eC 2 v' (U.take k ++ u :: U.drop k).length (cellsC (U.take k ++ u :: U.drop k)) :: F) → K v' w') :
    gApp P #[t_sl_valiseref21_Counted, t_sl_valiseref21_Counted] t_sl_valiseref21_Counted #[v, y] w fun t110 w18 => B w18 ∧ gApp P #[t_sl_valiseref21_Counted, t_sl_valiseref21_Counted] t_sl_valiseref21_Counted #[t110, z] w18 fun t114 w19 => B w19 ∧ K t114 w19 := by
  refine fAppR 40 (m := 1) f 0 rfl hs (fun x hx => ?_) (by omega) (by unfold maxLen; omega) (fun v1 w1 f1 => ⟨hB _ f1.old, ?_⟩) (by kernel_rfl)
  · simp at hx; rcases hx with rfl | rfl
    · exact hu
    · rfl
  have f1 : Fr w0 w1 (rIt eC 2 v1 (k + 1) (cellsC (U.take k) ++ [u.1, .int .i64 (u.2.2 : Nat)]) :: F) := f1
  refine fAppR 40 f1 0 rfl (ho.ev f1.old) (cellsC_one fun x hx => h1 x (List.mem_of_mem_drop hx)) (by omega) (by unfold maxLen; omega) (fun v2 w2 f2 => ⟨hB _ f2.old, hK _ _ ?_⟩) (by kernel_rfl)
  have e1 : (U.take k ++ u :: U.drop k).length = k + 1 + (U.length - k) := by rw [List.length_append, List.length_take, List.length_cons, List.length_drop]; omega
  have e2 : cellsC (U.take k ++ u :: U.drop k) = (cellsC (U.take k) ++ [u.1, .int .i64 (u.2.2 : Nat)]) ++ cellsC (U.drop k) := by rw [cellsC_app, List.append_assoc]; rfl
  rw [e1, e2]; exact f2
end
/-! ### Counts -/
def CtOk (T : List Ct) (ws : List (List UInt8)) : Prop := (T.map (·.2.1)).Nodup ∧ (∀ s, s ∈ T.map (·.2.1) ↔ s ∈ ws) ∧ ∀ u ∈ T, u.2.2 = ws.count u.2.1
theorem CtOk.new {T : List Ct} {ws : List (List UInt8)} {s : List UInt8} {y : Value} (h : CtOk T ws) (hs : s ∉ T.map (·.2.1)) : CtOk (T ++ [(y, s, 1)]) (ws ++ [s]) := by
  obtain ⟨h1, h2, h3⟩ := h
  have hw : s ∉ ws := fun hh => hs ((h2 s).2 hh)
  refine ⟨?_, fun x => ?_, fun u hu => ?_⟩
  · rw [List.map_append]
    refine List.nodup_append.2 ⟨h1, by simp, fun a ha b hb => ?_⟩
    simp at hb; subst hb
    exact fun e => hs (e ▸ ha)
  · rw [List.map_append, List.mem_append, List.mem_append, h2 x]; simp
  · rcases List.mem_append.1 hu with hu | hu
    · rw [h3 u hu, List.count_append, List.count_singleton, if_neg, Nat.add_zero]
      intro e
      have e : s = u.2.1 := by simpa using e
      exact hs (e ▸ List.mem_map.2 ⟨u, hu, rfl⟩)
    · rw [List.mem_singleton.1 hu, List.count_append, List.count_eq_zero_of_not_mem hw]; simp
theorem CtOk.again {T : List Ct} {ws : List (List UInt8)} {k : Nat} {u : Ct} (h : CtOk T ws) (hu : T[k]? = some u) : CtOk (T.set k (u.1, u.2.1, u.2.2 + 1)) (ws ++ [u.2.1]) := by
  obtain ⟨h1, h2, h3⟩ := h
  obtain ⟨hl, e⟩ := List.getElem?_eq_some_iff.1 hu
  have hm : (T.set k (u.1, u.2.1, u.2.2 + 1)).map (·.2.1) = T.map (·.2.1) := by
    rw [List.map_set]
    refine List.ext_getElem? fun i => ?_
    rw [List.getElem?_set]
    split
    · rename_i e
      subst e
      rw [if_pos (by rw [List.length_map]; exact hl), List.getElem?_map, hu]; rfl
    · rfl
  have hin : u.2.1 ∈ ws := (h2 _).1 (List.mem_map.2 ⟨u, e ▸ List.getElem_mem hl, rfl⟩)
  refine ⟨by rw [hm]; exact h1, fun x => ?_, fun y hy => ?_⟩
  · rw [hm, h2 x, List.mem_append, List.mem_singleton]
    exact ⟨.inl, fun h => h.elim id fun h => h ▸ hin⟩
  · obtain ⟨i, hi⟩ := List.mem_iff_getElem?.1 hy
    rw [List.getElem?_set] at hi
    split at hi
    · rename_i ek
      subst ek
      injection hi with hi
      subst hi
      show u.2.2 + 1 = (ws ++ [u.2.1]).count u.2.1
      rw [List.count_append, h3 u (e ▸ List.getElem_mem hl)]; simp
    · rename_i ek
      obtain ⟨hil, ei⟩ := List.getElem?_eq_some_iff.1 hi
      rw [h3 y (ei ▸ List.getElem_mem hil), List.count_append, List.count_singleton, if_neg, Nat.add_zero]
      intro e2
      have e2 : u.2.1 = y.2.1 := by simpa using e2
      apply ek
      exact (List.getElem_inj h1 (i := k) (j := i) (h₀ := by rw [List.length_map]; exact hl) (h₁ := by rw [List.length_map]; exact hil)).1 (by simp [e, ei, e2])
theorem CtOk.len {T : List Ct} {ws : List (List UInt8)} (h : CtOk T ws) : T.length ≤ ws.length := by
  have hp : (T.map (·.2.1)).Perm (dd ws) := perm_of_mem h.1 (nodup_dd ws) fun x => by rw [h.2.1 x, mem_dd]
  have := hp.length_eq
  rw [List.length_map] at this
  rw [this, ← (sortedU_perm ws).length_eq]; exact sortedU_len ws
/-- Some words by their worth. -/
def InsOk (c : List UInt8 → Nat) (S U : List Ct) : Prop := (U.map (·.2.1)).Pairwise (fun x y => ltU c x y = true) ∧ ∀ u, u ∈ U ↔ u ∈ S ∧ 2 ≤ u.2.2
theorem InsOk.ins {c : List UInt8 → Nat} {S U : List Ct} {u : Ct} {k : Nat} (h : InsOk c S U) (hn : u.2.1 ∉ S.map (·.2.1)) (hu : 2 ≤ u.2.2) (hk : k ≤ U.length) (h1 : ∀ (j : Nat) (x : Ct), j < k → U[j]? = some x → ltU c x.2.1 u.2.1 = true) (h2 : ∀ x, U[k]? = some x → ltU c x.2.1 u.2.1 = false) : InsOk c (S ++ [u]) (U.take k ++ u :: U.drop k) := by
  obtain ⟨p, m⟩ := h
  refine ⟨?_, fun x => ?_⟩
  · have hp : ((U.take k).map (·.2.1) ++ (U.drop k).map (·.2.1)).Pairwise fun x y => ltU c x y = true := by rw [← List.map_append, List.take_append_drop]; exact p
    obtain ⟨pa, pb, pc⟩ := List.pairwise_append.1 hp
    have hb : ∀ y ∈ (U.drop k).map (·.2.1), ltU c u.2.1 y = true := by
      cases hd : U.drop k with
      | nil => intro y hy; cases hy
      | cons x r =>
        have hx : U[k]? = some x := by
          have := congrArg (fun l => l[0]?) hd
          simpa [List.getElem?_drop] using this
        have hxm : x ∈ U := List.mem_of_getElem? hx
        have hux : ltU c u.2.1 x.2.1 = true := by
          cases hh : ltU c u.2.1 x.2.1 with
          | true => rfl
          | false =>
            have := ltU_total hh (h2 x hx)
            exact absurd (List.mem_map.2 ⟨x, ((m x).1 hxm).1, this.symm⟩) hn
        rw [hd, List.map_cons, List.pairwise_cons] at pb
        intro y hy
        rw [List.map_cons] at hy
        rcases List.mem_cons.1 hy with rfl | hy
        · exact hux
        · exact ltU_trans hux (pb.1 y hy)
    have ha : ∀ x ∈ (U.take k).map (·.2.1), ltU c x u.2.1 = true := fun x hx => by
      obtain ⟨y, hy, rfl⟩ := List.mem_map.1 hx
      obtain ⟨j, hj⟩ := List.mem_iff_getElem?.1 hy
      rw [List.getElem?_take] at hj
      split at hj
      · rename_i hjk; exact h1 j y hjk hj
      · cases hj
    rw [List.map_append, List.map_cons]
    refine List.pairwise_append.2 ⟨pa, List.pairwise_cons.2 ⟨hb, pb⟩, fun x hx y hy => ?_⟩
    rcases List.mem_cons.1 hy with rfl | hy
    · exact ha x hx
    · exact pc x hx y hy
  · have hx : x ∈ U.take k ++ u :: U.drop k ↔ x ∈ U ∨ x = u := by
      conv => rhs; rw [← List.take_append_drop k U]
      simp only [List.mem_append, List.mem_cons]
      constructor
      · rintro (h | rfl | h)
        · exact .inl (.inl h)
        · exact .inr rfl
        · exact .inl (.inr h)
      · rintro ((h | h) | rfl)
        · exact .inl h
        · exact .inr (.inr h)
        · exact .inr (.inl rfl)
    rw [hx, m x, List.mem_append, List.mem_singleton]
    constructor
    · rintro (⟨a, b⟩ | rfl)
      · exact ⟨.inl a, b⟩
      · exact ⟨.inr rfl, hu⟩
    · rintro ⟨a | rfl, b⟩
      · exact .inl ⟨a, b⟩
      · exact .inr rfl
theorem InsOk.skip {c : List UInt8 → Nat} {S U : List Ct} {u : Ct} (h : InsOk c S U) (hu : u.2.2 < 2) : InsOk c (S ++ [u]) U := by
  refine ⟨h.1, fun x => ?_⟩
  rw [h.2 x, List.mem_append, List.mem_singleton]
  constructor
  · rintro ⟨a, b⟩; exact ⟨.inl a, b⟩
  · rintro ⟨a | rfl, b⟩
    · exact ⟨a, b⟩
    · omega
theorem ins_find {T U : List Ct} {W : List (List UInt8)} (hT : CtOk T W) (hU : InsOk (fun s => W.count s) T U) : (U.map (·.2.1)).take 64 = findU W := by
  unfold findU
  congr 1
  refine rise_eq (fun s => W.count s) hU.1 ((sortedU_rise W).filter _) fun x => ?_
  rw [List.mem_filter, mem_sortedU, ← hT.2.1 x, List.mem_map, List.mem_map]
  constructor
  · rintro ⟨u, hu, rfl⟩
    obtain ⟨a, b⟩ := (hU.2 u).1 hu
    rw [hT.2.2 u a] at b
    exact ⟨⟨u, a, rfl⟩, decide_eq_true (by omega)⟩
  · rintro ⟨⟨u, hu, rfl⟩, b⟩
    have b := of_decide_eq_true b
    exact ⟨u, (hU.2 u).2 ⟨hu, by rw [hT.2.2 u hu]; omega⟩, rfl⟩
end Go.Proofs.YtilpoinhfiajcaaGreatDoorV

/- The other form of words: Find. -/
namespace Go.Proofs.YtilpoinhfiajcaaGreatDoorV
open Go Go.RowKit
section
variable {w0 w : World} {F : List It}
theorem CopyBytesW_any {b : Value} {xs : List Int} (hb : Nm .u8 w b xs) (hl : xs.length ≤ 10000000000000) : Calls P n_valisehelp_CopyBytes #[b] w (NewB w xs) :=
  of_valisehelp_CopyBytes (fApp0 (Fr.start w) hb (by omega) fun v w' f => ⟨v, rfl, f.old, f.on 0 rfl⟩)
theorem refFind_any {b : Value} {xs : List Int} (hb : Nm .u8 w b xs) (hl : xs.length ≤ 1000000) : Calls P n_valiseref21_Find #[b] w (fun e w' => ∃ v, e = .returned v ∧ Ev w w' ∧ NL .u8 w' v (findW xs)) := by
  obtain ⟨W, hW⟩ : ∃ W, W = wordsU xs := ⟨_, rfl⟩
  have hwl := wordsU_len xs.length xs (Nat.le_refl _)
  have hfw : findW xs = (findU W).map iU := by rw [hW]; rfl
  rw [← hW] at hwl
  rw [hfw]
  refine of_valiseref21_Find ⟨fun all at_ w' => ∃ (p : Nat) (ws : List (List UInt8)) (T : List Ct), at_ = (p : Int) ∧ p ≤ xs.length ∧ ws ++ wordsU (xs.drop p) = W ∧ CtOk T ws ∧ Fr w w' (cF all T), fun _ at_ _ => (xs.length - at_).toNat, ⟨0, [], [], rfl, Nat.zero_le _, by rw [List.drop_zero, hW]; rfl, ⟨List.nodup_nil, (fun s => by simp), (fun u hu => by cases hu)⟩, (Fr.start w).nilR eC 2⟩, ?_⟩
  rintro _ all at_ w1 ⟨p, ws, T, rfl, hp, hws, hT, f1⟩
  have hdl : (xs.drop p).length = xs.length - p := List.length_drop
  have hwsl : ws.length ≤ xs.length := by have := congrArg List.length hws; rw [List.length_append] at this; omega
  have hTl := hT.len
  have hcnt : ∀ u ∈ T, u.2.2 ≤ 1000000 := fun u hu => by rw [hT.2.2 u hu]; have : ws.count u.2.1 ≤ ws.length := List.count_le_length; omega
  refine gLen_nm (hb.ev f1.old) (gIf_dec (fun hlt => gCall_i0 (refRun_any (hb.ev f1.old) hp (by omega)) ?_) (fun hge => ?_))
  · have hrl := runN_le (xs.drop p)
    have hne : xs.drop p ≠ [] := fun h => by rw [h] at hdl; simp at hdl; omega
    obtain ⟨n, hn⟩ : ∃ n, n = runN (xs.drop p) := ⟨_, rfl⟩
    have hst := wordsU_step hne
    rw [← hn] at hrl hst ⊢
    refine gIf_eq (fun he => ?_) (fun hne2 => ?_)
    · obtain rfl : n = 0 := by omega
      rw [if_neg (by omega), if_pos (by omega), List.drop_drop] at hst
      exact ⟨⟨p + 1, ws, T, by rw [i64_id (by omega) (by omega)]; omega, by omega, by rw [← hws, hst]; rfl, hT, f1⟩, by dsimp only; rw [i64_id (by omega) (by omega)]; omega⟩
    have hn0 : 0 < n := by omega
    rw [if_neg (show ¬ 1 > n by omega), List.drop_drop] at hst
    refine gSlice_nm (hb.ev f1.old) p (p + n) (.inr ⟨_, rfl⟩) (.inr ⟨_, rfl⟩) (by omega) (by omega) fun hs => ?_
    rw [show p + n - p = n by omega] at hs
    obtain ⟨t28, ht28⟩ : ∃ t, t = subV 1 b p (p + n) := ⟨_, rfl⟩
    rw [← ht28] at hs ⊢
    have hsl : ((xs.drop p).take n).length = n := by rw [List.length_take]; omega
    refine ⟨fun w' => w' = w1 ∧ 3 ≤ n ∧ n ≤ 24, ?_, ?_⟩
    · have skip : ¬ (3 ≤ n ∧ n ≤ 24) → (∃ (q : Nat) (ws : List (List UInt8)) (T : List Ct), ((p + n : Nat) : Int) = (q : Int) ∧ q ≤ xs.length ∧ ws ++ wordsU (xs.drop q) = W ∧ CtOk T ws ∧ Fr w w1 (cF all T)) ∧ (xs.length - ((p + n : Nat) : Int)).toNat < (xs.length - (p : Int)).toNat := fun h => by
        rw [if_neg h] at hst
        exact ⟨⟨p + n, ws, T, rfl, by omega, by rw [← hws, hst]; rfl, hT, f1⟩, by omega⟩
      refine gLen_nm hs (gIf_ndec (fun h3 => gLen_nm hs (gIf_dec (fun h24 => skip (by omega)) (fun h24 => ⟨rfl, by omega, by omega⟩))) (fun h3 => skip (by omega)))
    rintro _ _ ⟨rfl, h3, h24⟩
    rename_i w1
    rw [if_pos ⟨h3, h24⟩] at hst
    obtain ⟨s, hS⟩ : ∃ s, s = bU ((xs.drop p).take n) := ⟨_, rfl⟩
    rw [← hS] at hst
    have hsi : iU s = (xs.drop p).take n := by rw [hS, iU_bU ((hb.2.drop _).take _)]
    rw [← hsi] at hs
    have hws2 : (ws ++ [s]) ++ wordsU (xs.drop (p + n)) = W := by rw [← hws, hst, List.append_assoc]
    have hnm := cF_nm f1 fun x hx => hx
    have hrow : w1.ownsRow 0 eC 2 all T.length (cellsC T) := f1.get 0 rfl
    refine ⟨fun k w' => w' = w1 ∧ ∃ j : Nat, k = (j : Int) ∧ ((j = T.length ∧ s ∉ T.map (·.2.1)) ∨ ∃ u, T[j]? = some u ∧ u.2.1 = s), ?_, ?_⟩
    · refine ⟨fun k w' => w' = w1 ∧ ∃ j : Nat, k = (j : Int) ∧ j ≤ T.length ∧ ∀ (i : Nat) (u : Ct), i < j → T[i]? = some u → u.2.1 ≠ s, fun k _ => (T.length - k).toNat, ⟨rfl, 0, rfl, Nat.zero_le _, fun i u h => by omega⟩, ?_⟩
      rintro _ k _ ⟨rfl, j, rfl, hj, hall⟩
      refine gLen_slv (f1.row 0 rfl) (gIf_dec (fun hlt => ?_) (fun hge => ?_))
      · have hjl : j < T.length := by omega
        have hu : T[j]? = some T[j] := List.getElem?_eq_getElem hjl
        refine gIdx_r hrow rfl hjl (fun ad hsl => gLoad_v (hsl.cell hrow (cellsC_at hu).1) (gCall_b0 (Bytes_any (hnm _ (List.getElem_mem hjl)) hs) (gIf_nb (fun h => ?_) (fun h => ?_)))) (by kernel_rfl)
        · have h := of_decide_eq_false h
          refine ⟨⟨rfl, j + 1, by rw [i64_id (by omega) (by omega)]; omega, hjl, fun i u hi hu2 => ?_⟩, by dsimp only; rw [i64_id (by omega) (by omega)]; omega⟩
          by_cases hij : i = j
          · subst hij
            rw [hu] at hu2; injection hu2 with hu2; subst hu2
            exact fun e => h (by rw [e])
          · exact hall i u (by omega) hu2
        · exact ⟨rfl, j, rfl, .inr ⟨T[j], hu, iU_inj (of_decide_eq_true h)⟩⟩
      · obtain rfl : j = T.length := by omega
        refine ⟨rfl, T.length, rfl, .inl ⟨rfl, fun hm => ?_⟩⟩
        obtain ⟨u, hu, e⟩ := List.mem_map.1 hm
        obtain ⟨i, hi⟩ := List.mem_iff_getElem?.1 hu
        exact hall i u (List.getElem?_eq_some_iff.1 hi).1 hi e
    rintro _ k _ ⟨rfl, j, rfl, hj⟩
    rename_i w1
    have next : ∀ {all' : Value} {T' : List Ct} {w' : World}, CtOk T' (ws ++ [s]) → Fr w w' (cF all' T') → (∃ (q : Nat) (ws : List (List UInt8)) (T : List Ct), ((p + n : Nat) : Int) = (q : Int) ∧ q ≤ xs.length ∧ ws ++ wordsU (xs.drop q) = W ∧ CtOk T ws ∧ Fr w w' (cF all' T)) ∧ (xs.length - ((p + n : Nat) : Int)).toNat < (xs.length - (p : Int)).toNat := fun h f => ⟨⟨p + n, _, _, rfl, by omega, hws2, h, f⟩, by omega⟩
    refine gLen_slv (f1.row 0 rfl) (gIf_eq (fun he => ?_) (fun hne3 => ?_))
    · obtain rfl : j = T.length := by omega
      have hni : s ∉ T.map (·.2.1) := by
        rcases hj with h | ⟨u, h, _⟩
        · exact h.2
        · have := (List.getElem?_eq_some_iff.1 h).1; omega
      refine gCall_v (CopyBytesW_any hs (by rw [hsi, hsl]; omega)) fun y w8 ⟨h8, ny⟩ => ⟨ny.nm.one, ?_⟩
      refine c_step (f1.newO h8 ny) (by omega) fun all' w9 f9 => ?_
      refine c_bump f9 (k := T.length) (u := (y, s, 0)) (by simp) (Nat.zero_le _) fun w10 f10 => ?_
      have f10 : Fr w w10 (cF all' ((T ++ [((y, s, 0) : Ct)]).set T.length ((y, s, 1) : Ct))) := f10
      rw [List.set_append_right _ _ (Nat.le_refl _), Nat.sub_self] at f10
      exact next (hT.new hni) f10
    · obtain ⟨u, hu, rfl⟩ : ∃ u, T[j]? = some u ∧ u.2.1 = s := by
        rcases hj with h | h
        · omega
        · exact h
      exact c_bump f1 hu (by have := hcnt u (List.mem_of_getElem? hu); omega) fun w10 f10 => next (hT.again hu) f10
  · have hnil : xs.drop p = [] := List.eq_nil_of_length_eq_zero (by omega)
    rw [hnil, wordsU_nil, List.append_nil] at hws
    subst hws
    obtain ⟨c, hc⟩ : ∃ c : List UInt8 → Nat, c = fun s => ws.count s := ⟨_, rfl⟩
    have hcT : ∀ u ∈ T, u.2.2 = c u.2.1 := by rw [hc]; exact hT.2.2
    have h24 : ∀ u ∈ T, u.2.1.length ≤ 24 := fun u hu => (hwl.2 u.2.1 ((hT.2.1 _).1 (List.mem_map.2 ⟨u, hu, rfl⟩))).2
    have hmem : ∀ {out : Value} {U : List Ct}, ∀ x ∈ cF all T, x ∈ rIt eC 2 out U.length (cellsC U) :: cF all T := fun x hx => List.mem_cons_of_mem _ hx
    refine ⟨fun out i w' => ∃ (k : Nat) (U : List Ct), i = (k : Int) ∧ k ≤ T.length ∧ U.length ≤ k ∧ InsOk c (T.take k) U ∧ Fr w w' (rIt eC 2 out U.length (cellsC U) :: cF all T), fun _ i _ => (T.length - i).toNat, ⟨0, [], rfl, Nat.zero_le _, Nat.le_refl _, ⟨List.Pairwise.nil, fun u => by simp⟩, f1.nilR eC 2⟩, ?_⟩
    rintro _ out i w2 ⟨k, U, rfl, hk, hUl, hU, f2⟩
    have hUT : ∀ u ∈ U, u ∈ T := fun u hu => List.mem_of_mem_take ((hU.2 u).1 hu).1
    refine gLen_slv (f2.row 1 rfl) (gIf_dec (fun hlt => ?_) (fun hge => ?_))
    · have hkl : k < T.length := by omega
      obtain ⟨u, hue⟩ : ∃ u, u = T[k] := ⟨_, rfl⟩
      have hu : T[k]? = some u := by rw [hue]; exact List.getElem?_eq_getElem hkl
      have huT : u ∈ T := List.mem_of_getElem? hu
      have hrow : w2.ownsRow 0 eC 2 all T.length (cellsC T) := f2.get 1 rfl
      have htk : T.take (k + 1) = T.take k ++ [u] := by rw [hue]; exact List.take_succ_eq_append_getElem hkl
      refine gIdx_r hrow rfl hkl (fun ad hsl => gLoad_i (hsl.cell hrow (cellsC_at hu).2) (gIf_dec (fun h2 => ?_) (fun h2 => ?_))) (by kernel_rfl)
      · exact ⟨⟨k + 1, U, by rw [i64_id (by omega) (by omega)]; omega, hkl, by omega, by rw [htk]; exact hU.skip (by omega), f2⟩, by dsimp only; rw [i64_id (by omega) (by omega)]; omega⟩
      refine ⟨fun m w' => ∃ j : Nat, m = (j : Int) ∧ j ≤ U.length ∧ (∀ (i : Nat) (x : Ct), i < j → U[i]? = some x → ltU c x.2.1 u.2.1 = true) ∧ (∀ x, U[j]? = some x → ltU c x.2.1 u.2.1 = false) ∧ Fr w w' (rIt eC 2 out U.length (cellsC U) :: cF all T), ?_, ?_⟩
      · refine ⟨fun m w' => ∃ j : Nat, m = (j : Int) ∧ j ≤ U.length ∧ (∀ (i : Nat) (x : Ct), i < j → U[i]? = some x → ltU c x.2.1 u.2.1 = true) ∧ Fr w w' (rIt eC 2 out U.length (cellsC U) :: cF all T), fun m _ => (U.length - m).toNat, ⟨0, rfl, Nat.zero_le _, (fun i x h => by omega), f2⟩, ?_⟩
        rintro _ m w3 ⟨j, rfl, hj, hall, f3⟩
        have fd := f3.drew
        refine ⟨fun w' => Fr w w' (rIt eC 2 out U.length (cellsC U) :: cF all T), fd, gLen_slv (f3.row 0 rfl) (gIf_dec (fun hlt => ?_) (fun hge => ?_))⟩
        · have hjl : j < U.length := by omega
          obtain ⟨x, hxe⟩ : ∃ x, x = U[j] := ⟨_, rfl⟩
          have hx : U[j]? = some x := by rw [hxe]; exact List.getElem?_eq_getElem hjl
          have hxT := hUT x (List.mem_of_getElem? hx)
          refine gCtB fd (fun w' h => h.get 0 rfl) hx (gCtB fd (fun w' h => h.get 1 rfl) hu ?_)
          rw [hcT x hxT, hcT u huT]
          have b1 : c x.2.1 ≤ 1000000000 := by rw [← hcT x hxT]; have := hcnt x hxT; omega
          have b2 : c u.2.1 ≤ 1000000000 := by rw [← hcT u huT]; have := hcnt u huT; omega
          refine gCall_b (refAhead_any (cF_nm fd hmem x hxT) (cF_nm fd hmem u huT) (h24 x hxT) (h24 u huT) b1 b2) fun w4 h4 => ⟨fd.ev h4, gIf_b (fun h => ?_) (fun h => ?_)⟩
          · refine ⟨⟨j + 1, by rw [i64_id (by omega) (by omega)]; omega, hjl, fun i y hi hy => ?_, fd.ev h4⟩, by dsimp only; rw [i64_id (by omega) (by omega)]; omega⟩
            by_cases hij : i = j
            · subst hij; rw [hx] at hy; injection hy with hy; subst hy; exact h
            · exact hall i y (by omega) hy
          · exact ⟨j, rfl, hj, hall, fun y hy => by rw [hx] at hy; injection hy with hy; subst hy; exact h, fd.ev h4⟩
        · obtain rfl : j = U.length := by omega
          exact ⟨U.length, rfl, hj, hall, (fun y hy => by have := (List.getElem?_eq_some_iff.1 hy).1; omega), fd⟩
      · rintro _ m w3 ⟨j, rfl, hj, hall, hno, f3⟩
        have fd := f3.drew
        have so : Sl w3.drew 2 out U.length (cellsC U) := fd.row 0 rfl
        have oneT := cF_one fd hmem
        have oneU : ∀ x ∈ U, x.1.oneCell' = true := fun x hx => oneT x (hUT x hx)
        refine ⟨fun w' => Ev w3.drew w', Ch.refl _ _, gSlice_slv so 0 j (.inl ⟨rfl, rfl⟩) (.inr ⟨_, rfl⟩) (Nat.zero_le _) hj (fun s1 => ?_) (by kernel_rfl)⟩
        rw [Nat.zero_mul, List.drop_zero, Nat.sub_zero, cellsC_take] at s1
        refine gCtB (w := w3.drew) (Ch.refl _ _) (fun w' h => (fd.ev h).get 1 rfl) hu (gSlice_slv so j U.length (.inr ⟨_, rfl⟩) (.inl ⟨rfl, rfl⟩) hj (Nat.le_refl _) (fun s2 => ?_) (by kernel_rfl))
        rw [cellsC_drop, List.take_of_length_le (by rw [cellsC_len, List.length_drop]; exact Nat.le_refl _)] at s2
        have hnS : u.2.1 ∉ (T.take k).map (·.2.1) := fun h => by
          have hn1 := hT.1
          rw [← List.take_append_drop (k + 1) T, List.map_append, htk, List.map_append] at hn1
          have := (List.nodup_append.1 (List.nodup_append.1 hn1).1).2.2 _ h u.2.1 (by simp)
          exact this rfl
        have fin : ∀ {v : Value} {w' : World} {G : List It}, Fr w3.drew w' (rIt eC 2 v (U.take j ++ u :: U.drop j).length (cellsC (U.take j ++ u :: U.drop j)) :: G) → (∃ (k' : Nat) (U : List Ct), i64 ((k : Int) + 1) = (k' : Int) ∧ k' ≤ T.length ∧ U.length ≤ k' ∧ InsOk c (T.take k') U ∧ Fr w w' (rIt eC 2 v U.length (cellsC U) :: cF all T)) ∧ (T.length - i64 ((k : Int) + 1)).toNat < (T.length - (k : Int)).toNat := fun {v w' G} g => by
          have g1 : Fr w3.drew w' [rIt eC 2 v (U.take j ++ u :: U.drop j).length (cellsC (U.take j ++ u :: U.drop j))] := g.picks [0] (by decide)
          have f4 := fd.glue g1
          have f4 : Fr w w' (rIt eC 2 v (U.take j ++ u :: U.drop j).length (cellsC (U.take j ++ u :: U.drop j)) :: rIt eC 2 out U.length (cellsC U) :: cF all T) := f4
          have f5 := f4.drop 1
          exact ⟨⟨k + 1, _, by rw [i64_id (by omega) (by omega)]; omega, hkl, by rw [List.length_append, List.length_take, List.length_cons, List.length_drop]; omega, by rw [htk]; exact hU.ins hnS (by omega) hj hall hno, f5⟩, by rw [i64_id (by omega) (by omega)]; omega⟩
        have one1 : ∀ x ∈ cellsC (U.take j), x.oneCell' = true := cellsC_one fun x hx => oneU x (List.mem_of_mem_take hx)
        refine ⟨?_, ?_⟩
        · refine fAppR0 40 (Fr.start w3.drew) s1 one1 (by omega) (by unfold maxLen; omega) (fun v4 w4 f4 => ⟨f4.old, ?_⟩) (by kernel_rfl)
          refine fLit_sz 2 [[u.1, .int .i64 (u.2.2 : Nat)]] f4 rfl rfl (fun v hv => by simp at hv; subst hv; rfl) (fun ad w5 f5 => ⟨f5.old, ?_⟩) (by decide) (by kernel_rfl) (by decide +kernel)
          have f6 := f5.picksN 2 [1, 0] (by decide) (by decide)
          exact ins_tail f6 (Sl.of_cellsC (f5.get 0 rfl) rfl) s2 (fun w' h => h) oneU (oneT u huT) hj (by omega) fun v' w' g => fin g
        · refine fLit_sz 2 [[u.1, .int .i64 (u.2.2 : Nat)]] (Fr.start w3.drew) rfl rfl (fun v hv => by simp at hv; subst hv; rfl) (fun ad w5 f5 => ⟨f5.old, ?_⟩) (by decide) (by kernel_rfl) (by decide +kernel)
          refine fAppR0 40 f5 (s1.ev f5.old) one1 (by omega) (by unfold maxLen; omega) (fun v4 w4 f4 => ⟨f4.old, ?_⟩) (by kernel_rfl)
          exact ins_tail f4 (Sl.of_cellsC (f4.get 1 rfl) rfl) s2 (fun w' h => h) oneU (oneT u huT) hj (by omega) fun v' w' g => fin g
    · obtain rfl : k = T.length := by omega
      rw [List.take_length] at hU
      have hfin := ins_find hT (by rw [← hc]; exact hU)
      have done : ∀ {words : Value} {j : Nat} {w' : World}, (j = U.length ∨ j = 64) → j ≤ 64 → j ≤ U.length → Fr w w' (rIt eW 1 words j ((U.take j).map (·.1)) :: rIt eC 2 out U.length (cellsC U) :: cF all T) → ∃ v, Ending.returned words = .returned v ∧ Ev w w' ∧ NL .u8 w' v ((findU ws).map iU) := fun {words j w'} hor h64 hjU f => by
        refine ⟨words, rfl, f.old, (U.take j).map (·.1), ?_, fun i v ys hv hy => ?_⟩
        · have e : ((findU ws).map iU).length = j := by
            rw [← hfin, List.length_map, List.length_take, List.length_map]; omega
          rw [e]; exact f.row 0 rfl
        · rw [← hfin, List.getElem?_map, List.getElem?_take] at hy
          rw [List.getElem?_map, List.getElem?_take] at hv
          split at hv
          · rename_i hij
            rw [if_pos (by omega), List.getElem?_map] at hy
            cases hx : U[i]? with
            | none => rw [hx] at hv; cases hv
            | some x =>
              rw [hx] at hv hy
              simp at hv hy
              subst hv; subst hy
              exact cF_nm f (fun x hx => List.mem_cons_of_mem _ (List.mem_cons_of_mem _ hx)) x (hUT x (List.mem_of_getElem? hx))
          · cases hv
      refine ⟨fun words i w' => ∃ j : Nat, i = (j : Int) ∧ j ≤ 64 ∧ j ≤ U.length ∧ Fr w w' (rIt eW 1 words j ((U.take j).map (·.1)) :: rIt eC 2 out U.length (cellsC U) :: cF all T), fun _ i _ => (U.length - i).toNat, ⟨0, rfl, Nat.zero_le _, Nat.zero_le _, f2.nilR eW 1⟩, ?_⟩
      rintro _ words i w3 ⟨j, rfl, h64, hjU, f3⟩
      refine gLen_slv (f3.row 1 rfl) (gIf_dec (fun hlt => gIf_dec (fun hlt2 => ?_) (fun hge2 => ?_)) (fun hge => ?_))
      · have hjl : j < U.length := by omega
        obtain ⟨x, hxe⟩ : ∃ x, x = U[j] := ⟨_, rfl⟩
        have hx : U[j]? = some x := by rw [hxe]; exact List.getElem?_eq_getElem hjl
        have hrow : w3.ownsRow 0 eC 2 out U.length (cellsC U) := f3.get 1 rfl
        have hone := cF_one f3 (fun x hx => List.mem_cons_of_mem _ (List.mem_cons_of_mem _ hx)) x (hUT x (List.mem_of_getElem? hx))
        have hnm := cF_nm f3 (fun x hx => List.mem_cons_of_mem _ (List.mem_cons_of_mem _ hx)) x (hUT x (List.mem_of_getElem? hx))
        refine gIdx_r hrow rfl hjl (fun ad hsl => gLoad_v (hsl.cell hrow (cellsC_at hx).1) ?_) (by kernel_rfl)
        refine fLitK [x.1] f3 rfl rfl (fun v hv => by rw [List.mem_singleton.1 hv]; exact hnm.one) fun t5 w5 k5 f5 s5 => ?_
        refine fAppK 24 (m := 1) f5 0 rfl s5 (fun v hv => by rw [List.mem_singleton.1 hv]; exact hone) (by omega) (by unfold maxLen; omega) (fun v' w6 k6 f6 => ⟨⟨j + 1, by rw [i64_id (by omega) (by omega)]; omega, by omega, hjl, ?_⟩, by dsimp only; rw [i64_id (by omega) (by omega)]; omega⟩) (by kernel_rfl)
        rw [List.take_succ_eq_append_getElem hjl, List.map_append, ← hxe]; exact f6
      · exact done (.inr (by omega)) h64 hjU f3
      · exact done (.inl (by omega)) h64 hjU f3
end
end Go.Proofs.YtilpoinhfiajcaaGreatDoorV
