/- Package text: Lines, Unlines; the same of valiseref22. -/
import Derived.Test.YthnljfogfaoahaaDoorVTextB
import Derived.Test.YthnljfogfaoahaaDoorVBytesB
namespace Go.Proofs.YthnljfogfaoahaaDoorV
open Go Go.RowKit
/-- Each 0d is ahead of a 0a, and each 0a behind a 0d. -/
def goodL (xs : List Int) : Prop := cntB 13 xs = pairs xs ∧ cntB 10 xs = pairs xs
instance (xs : List Int) : Decidable (goodL xs) := inferInstanceAs (Decidable (_ ∧ _))
def linesT (xs : List Int) : List Int × Bool := if xs.length ≤ 1048576 ∧ pairs xs ≠ 0 ∧ goodL xs then (repl xs, true) else ([], false)
def unlE (c : Int) : List Int := if c = 10 then [13, 10] else [c]
def unl (xs : List Int) : List Int := xs.flatMap unlE
def unlT (xs : List Int) (most : Int) : List Int × Int := if 13 ∈ xs then ([], 4) else if ((unl xs).length : Int) > limT most then ([], 5) else (unl xs, 0)
theorem cntB_cons (c a : Int) (r : List Int) : cntB c (a :: r) = cntB c r + if a = c then 1 else 0 := by
  unfold cntB; rw [List.countP_cons]; simp
theorem pairs_le : ∀ (n : Nat) (xs : List Int), xs.length ≤ n → pairs xs ≤ cntB 13 xs ∧ pairs xs ≤ cntB 10 xs
  | _, [], _ => ⟨Nat.le_refl _, Nat.le_refl _⟩
  | 0, _ :: _, h => by simp at h
  | n + 1, a :: r, h => by
    rw [List.length_cons] at h
    by_cases hc : a = 13 ∧ r.head? = some 10
    · obtain ⟨rfl, hr⟩ := hc
      cases r with
      | nil => cases hr
      | cons b r =>
        injection hr with hr; subst hr
        have := pairs_le n r (by rw [List.length_cons] at h; omega)
        rw [show pairs (13 :: 10 :: r) = 1 + pairs r from rfl, cntB_cons, cntB_cons, cntB_cons, cntB_cons]
        simp; omega
    · have := pairs_le n r (by omega)
      rw [(pairs_no hc).1, cntB_cons, cntB_cons]; omega
theorem pairs_le' (xs : List Int) : pairs xs ≤ cntB 13 xs ∧ pairs xs ≤ cntB 10 xs := pairs_le _ xs (Nat.le_refl _)
/-- One step of what is told of all: the ways a list begins. -/
theorem crlf_cases {M : List Int → Prop} (h0 : M []) (h2 : ∀ r, M r → M (13 :: 10 :: r)) (h1 : ∀ a r, ¬ (a = 13 ∧ r.head? = some 10) → M r → M (a :: r)) : ∀ (n : Nat) (xs : List Int), xs.length ≤ n → M xs
  | _, [], _ => h0
  | 0, _ :: _, h => by simp at h
  | n + 1, a :: r, h => by
    rw [List.length_cons] at h
    by_cases hc : a = 13 ∧ r.head? = some 10
    · obtain ⟨rfl, hr⟩ := hc
      cases r with
      | nil => cases hr
      | cons b r =>
        injection hr with hr; subst hr
        exact h2 r (crlf_cases h0 h2 h1 n r (by rw [List.length_cons] at h; omega))
    · exact h1 a r hc (crlf_cases h0 h2 h1 n r (by omega))
theorem crlf_ind {M : List Int → Prop} (h0 : M []) (h2 : ∀ r, M r → M (13 :: 10 :: r)) (h1 : ∀ a r, ¬ (a = 13 ∧ r.head? = some 10) → M r → M (a :: r)) (xs : List Int) : M xs := crlf_cases h0 h2 h1 _ xs (Nat.le_refl _)
theorem good_two {r : List Int} : goodL (13 :: 10 :: r) ↔ goodL r := by
  unfold goodL
  rw [show pairs (13 :: 10 :: r) = 1 + pairs r from rfl, cntB_cons, cntB_cons, cntB_cons, cntB_cons]
  simp; omega
theorem good_one {a : Int} {r : List Int} (h : ¬ (a = 13 ∧ r.head? = some 10)) : goodL (a :: r) ↔ a ≠ 13 ∧ a ≠ 10 ∧ goodL r := by
  have := pairs_le' r
  unfold goodL
  rw [(pairs_no h).1, cntB_cons, cntB_cons]
  by_cases h1 : a = 13
  · subst h1; simp; omega
  · by_cases h2 : a = 10
    · subst h2; simp; omega
    · simp [h1, h2]
/-- What the reference's loop does: was the byte ahead a 0d? -/
def refL : Bool → Nat → List Int → List Int → Option (List Int × Nat)
  | _, n, out, [] => some (out, n)
  | p, n, out, a :: r => if a = 13 then (if r.head? = some 10 then refL true (n + 1) out r else none) else if a = 10 then (if p = true then refL false n (out ++ [10]) r else none) else refL false n (out ++ [a]) r
theorem refL_eq (xs : List Int) : ∀ (n : Nat) (out : List Int), refL false n out xs = if goodL xs then some (out ++ repl xs, n + pairs xs) else none := by
  refine crlf_ind (M := fun xs => ∀ (n : Nat) (out : List Int), refL false n out xs = if goodL xs then some (out ++ repl xs, n + pairs xs) else none) ?_ ?_ ?_ xs
  · intro n out; rw [refL, if_pos ⟨rfl, rfl⟩]; simp [repl, pairs]
  · intro r ih n out
    rw [refL, if_pos rfl, if_pos (show (10 :: r).head? = some 10 from rfl), refL, if_neg (by decide), if_pos rfl, if_pos rfl, ih]
    rw [show pairs (13 :: 10 :: r) = 1 + pairs r from rfl, show repl (13 :: 10 :: r) = 10 :: repl r from rfl]
    by_cases hg : goodL r
    · rw [if_pos hg, if_pos (good_two.2 hg)]; simp; omega
    · rw [if_neg hg, if_neg fun h => hg (good_two.1 h)]
  · intro a r hn ih n out
    have hg1 := good_one hn
    rw [(pairs_no hn).1, (pairs_no hn).2, refL]
    by_cases h1 : a = 13
    · rw [if_pos h1, if_neg fun h => hn ⟨h1, h⟩, if_neg fun h => (hg1.1 h).1 h1]
    · rw [if_neg h1]
      by_cases h2 : a = 10
      · rw [if_pos h2, if_neg (by simp), if_neg fun h => (hg1.1 h).2.1 h2]
      · rw [if_neg h2, ih]
        by_cases hg : goodL r
        · rw [if_pos hg, if_pos (hg1.2 ⟨h1, h2, hg⟩)]; simp
        · rw [if_neg hg, if_neg fun h => hg (hg1.1 h).2.2]
theorem unl_snoc (xs : List Int) (i : Nat) (h : i < xs.length) : unl (xs.take (i + 1)) = unl (xs.take i) ++ unlE (rd xs i) := by
  unfold unl
  rw [List.take_succ_eq_append_getElem h, rd_nat xs i h, List.flatMap_append, List.flatMap_cons, List.flatMap_nil, List.append_nil]
theorem unl_len (xs : List Int) : (unl xs).length ≤ 2 * xs.length := by
  induction xs with
  | nil => simp [unl]
  | cons c r ih =>
    have : unl (c :: r) = unlE c ++ unl r := by unfold unl; rw [List.flatMap_cons]
    rw [this, List.length_append, List.length_cons]
    have : (unlE c).length ≤ 2 := by unfold unlE; split <;> simp
    omega
theorem unl_mono (xs : List Int) {i : Nat} : (unl (xs.take i)).length ≤ (unl xs).length := by
  have : unl xs = unl (xs.take i) ++ unl (xs.drop i) := by unfold unl; rw [← List.flatMap_append, List.take_append_drop]
  rw [this, List.length_append]; omega
section
variable {b : Value} {xs : List Int} {w : World}
theorem Lines_any (hb : Nm .u8 w b xs) (hM : MaxL w) (hl : xs.length ≤ 100000000) : Calls P n_text_Lines #[b] w (TupB w (linesT xs)) := by
  have hno : ∀ {w' : World}, Ev w w' → ¬ (xs.length ≤ 1048576 ∧ pairs xs ≠ 0 ∧ goodL xs) → TupB w (linesT xs) (.returned (.tuple #[.slice none 0 0, .bool false])) w' := fun he h => by unfold linesT; rw [if_neg h]; exact ⟨_, rfl, he, ON.nil _ _ _ _⟩
  have hcr : inR .u8 [13, 10] := fun x hx => u8i (crlf_u8 x hx)
  have h13 : inR .u8 [13] := fun x hx => by simp at hx; subst hx; decide
  have h10 : inR .u8 [10] := fun x hx => by simp at hx; subst hx; decide
  refine of_text_Lines (fLit_n [13, 10] (Fr.start w) rfl rfl hcr fun s1 w1 f1 => gCall_i (bCount2_any (hb.ev f1.old) (f1.nm 0 rfl) (hM.ev f1.old) (by omega)) fun w2 h2 => ⟨fun w' => (xs.length ≤ 1048576 ∧ pairs xs ≠ 0 ∧ goodL xs) ∧ Fr w w' [], gIf_neqq (fun hne => ?_) (fun h0 => hno (f1.ev h2).old (by omega)), ?_⟩)
  · have f2 := (f1.ev h2).drop 0
    refine fLit_n [13] f2 rfl rfl h13 fun s3 w3 f3 => gCall_i0 (bCount1_any (hb.ev f3.old) (f3.nm 0 rfl)) (gIf_nneq (fun h13 => ?_) (fun h => hno f3.old fun hh => h (by rw [hh.2.2.1])))
    have f3 := f3.drop 0
    refine fLit_n [10] f3 rfl rfl h10 fun s4 w4 f4 => gCall_i0 (bCount1_any (hb.ev f4.old) (f4.nm 0 rfl)) (gIf_nneq (fun h10 => gLen_nm hb (gIf_dec (fun hbig => hno f4.old (by omega)) (fun hle => ⟨⟨by omega, by omega, by unfold goodL; omega⟩, f4.drop 0⟩))) (fun h => hno f4.old fun hh => h (by rw [hh.2.2.2])))
  · rintro _ w3 ⟨hg, f3⟩
    refine fLit_n [13, 10] f3 rfl rfl hcr fun s4 w4 f4 => fLit_n [10] f4 rfl rfl h10 fun s5 w5 f5 => ?_
    refine fCallB f5 (bReplaceAll_any (hb.ev f5.old) (f5.nm 1 rfl) (f5.nm 0 rfl) (hM.ev f5.old) (by omega)) fun v w6 f6 => ?_
    unfold linesT
    rw [if_pos hg]
    exact ⟨v, rfl, f6.old, f6.on 0 rfl⟩
theorem rLines_any (hb : Nm .u8 w b xs) (hl : xs.length ≤ 100000000) : Calls P n_valiseref22_Lines #[b] w (TupB w (linesT xs)) := by
  have hno : ∀ {w' : World}, Ev w w' → ¬ (xs.length ≤ 1048576 ∧ pairs xs ≠ 0 ∧ goodL xs) → TupB w (linesT xs) (.returned (.tuple #[.slice none 0 0, .bool false])) w' := fun he h => by unfold linesT; rw [if_neg h]; exact ⟨_, rfl, he, ON.nil _ _ _ _⟩
  refine of_valiseref22_Lines (gLen_nm hb (gIf_dec (fun h => hno (Ch.refl _ w) (by omega)) (fun hs => ?_)))
  have hall := refL_eq xs 0 []
  obtain ⟨res, hres⟩ : ∃ r, r = refL false 0 [] xs := ⟨_, rfl⟩
  rw [← hres] at hall
  have bad : ∀ {w' : World}, Ev w w' → res = none → TupB w (linesT xs) (.returned (.tuple #[.slice none 0 0, .bool false])) w' := fun he h => hno he fun hh => by rw [h, if_pos hh.2.2] at hall; cases hall
  refine ⟨fun o n i w' => ∃ (j q : Nat) (p : Bool) (out : List Int), i = j ∧ n = q ∧ j ≤ xs.length ∧ q ≤ j ∧ (p = true ↔ (0 < j ∧ rd xs ((j - 1 : Nat) : Int) = 13)) ∧ res = refL p q out (xs.drop j) ∧ out.length ≤ j ∧ Fr w w' [oIt .u8 eB o out], fun _ _ i _ => xs.length - i.toNat, ⟨0, 0, false, [], rfl, rfl, by omega, by omega, by simp, hres, by simp, (Fr.start w).nil0 _ _⟩, ?_⟩
  rintro _ o n i w2 ⟨j, q, p, out, rfl, rfl, hj, hqj, hp, hr, hol, f2⟩
  have hbw := hb.ev f2.old
  refine gLen_nm hb (gIf_dec (fun hlt => ?_) (fun hge => ?_))
  · have hlt' : j < xs.length := by omega
    have hc := rd_u8 hb.2 j
    rw [drop_rd hlt', refL] at hr
    have ej : i64 ((j : Int) + 1) = ((j + 1 : Nat) : Int) := by rw [i64_id (by omega) (by omega)]; omega
    have eq1 : i64 ((q : Int) + 1) = ((q + 1 : Nat) : Int) := by rw [i64_id (by omega) (by omega)]; omega
    rw [ej, eq1]
    refine ⟨fun n w' => n = (q : Int) ∧ rd xs j ≠ 13 ∧ res = refL false q (out ++ [rd xs j]) (xs.drop (j + 1)) ∧ w' = w2, gIdx_nm hbw (by omega) hlt fun a1 c1 _ => gLoad_i c1 (gIf_eq (fun e13 => ?_) (fun n13 => ?_)), ?_⟩
    · rw [if_pos e13] at hr
      refine gLen_nm hb (gIf_neqq (fun hne => ?_) (fun he => ?_))
      · have hlt2 : j + 1 < xs.length := by omega
        rw [drop_rd hlt2] at hr
        refine gIdx_nm hbw (by omega) (by omega) fun a2 c2 _ => gLoad_i c2 (gIf_neq (fun h => ?_) (fun h => ?_))
        · rw [if_neg (by rw [List.head?_cons]; intro hh; injection hh with hh; exact h hh)] at hr
          exact bad f2.old hr
        · rw [if_pos (by rw [List.head?_cons, h]), ← drop_rd hlt2] at hr
          refine ⟨⟨j + 1, q + 1, true, out, rfl, rfl, by omega, by omega, ⟨fun _ => ⟨by omega, by rw [show ((j + 1 - 1 : Nat) : Int) = (j : Int) by omega]; exact e13⟩, fun _ => rfl⟩, hr, by omega, f2⟩, by dsimp only; omega⟩
      · rw [List.drop_of_length_le (by omega)] at hr
        exact bad f2.old hr
    · rw [if_neg n13] at hr
      refine gIf_eq (fun e10 => ?_) (fun n10 => ?_)
      · rw [if_pos e10] at hr
        refine gIf_neqq (fun hj0 => ?_) (fun hj0 => ?_)
        · rw [show i64 ((j : Int) - 1) = ((j - 1 : Nat) : Int) by rw [i64_id (by omega) (by omega)]; omega]
          refine gIdx_nm hbw (by omega) (by omega) fun a2 c2 _ => gLoad_i c2 (gIf_neq (fun h => ?_) (fun h => ?_))
          · rw [if_neg fun hh => h (hp.1 hh).2] at hr; exact bad f2.old hr
          · rw [if_pos (hp.2 ⟨by omega, h⟩)] at hr
            exact ⟨rfl, n13, by rw [e10]; exact hr, rfl⟩
        · rw [if_neg fun hh => by have := (hp.1 hh).1; omega] at hr; exact bad f2.old hr
      · rw [if_neg n10] at hr
        exact ⟨rfl, n13, hr, rfl⟩
    · rintro _ _ _ ⟨rfl, n13, hr, rfl⟩
      refine gIdx_nm hbw (by omega) hlt fun a1 c1 _ => gLoad_i c1 (fAppB rfl f2 hc (by omega) fun o2 w3 f3 => ?_)
      refine ⟨⟨j + 1, q, false, _, rfl, rfl, by omega, by omega, ⟨fun h => (by cases h), fun h => absurd (by rw [← h.2, show ((j + 1 - 1 : Nat) : Int) = (j : Int) by omega]) n13⟩, hr, by simp; omega, f3⟩, by dsimp only; omega⟩
  · obtain rfl : j = xs.length := by omega
    rw [List.drop_of_length_le (Nat.le_refl _), refL] at hr
    rw [hr] at hall
    by_cases hg : goodL xs
    · rw [if_pos hg] at hall
      injection hall with hall
      injection hall with h1 h2
      rw [List.nil_append] at h1
      refine gIf_eq (fun h0 => hno f2.old (by omega)) (fun hn => ?_)
      unfold linesT
      rw [if_pos ⟨by omega, by omega, hg⟩, ← h1]
      exact ⟨o, rfl, f2.old, f2.on 0 rfl⟩
    · rw [if_neg hg] at hall; cases hall
theorem Unlines_any {most : Int} (hb : Nm .u8 w b xs) (hl : xs.length ≤ 100000000) : Calls P n_text_Unlines #[b, .int .i64 most] w (TupE w (unlT xs most)) := by
  unfold unlT
  have hany : (xs.any fun c => (13 : Int) == c) = true ↔ 13 ∈ xs := by rw [List.any_eq_true]; constructor; (rintro ⟨x, hx, he⟩; rw [show (13 : Int) = x by simpa using he]; exact hx); exact fun h => ⟨13, h, by simp⟩
  refine of_text_Unlines (gCall_b0 (Contains_any hb (by omega)) (gIf_b (fun h => ?_) (fun h => ?_)))
  · rw [if_pos (hany.1 h)]; exact ⟨_, rfl, Ch.refl _ w, ON.nil _ _ _ _⟩
  · rw [if_neg fun hh => by rw [hany.2 hh] at h; cases h]
    refine fAlloc (z := .agg #[.slice none 0 0]) (Fr.start w) (by kernel_rfl) fun ad w1 f1 => ?_
    have f1 := f1.asW (e := eB) 0 rfl
    rw [Addr.add_zero' ad]
    have hlim : 0 ≤ limT most := by unfold limT; split; omega; split <;> omega
    refine gLen_nm hb ⟨fun i w' => ∃ (j : Nat) (v : Value), i = j ∧ j ≤ xs.length ∧ ¬ (((unl (xs.take j)).length : Int) > limT most) ∧ Fr w w' [wIt eB ad v (unl (xs.take j))], fun i _ => xs.length - i.toNat, ⟨0, _, rfl, by omega, by simp [unl]; omega, f1⟩, ?_⟩
    rintro _ i w2 ⟨j, v, rfl, hj, hle, f2⟩
    have hcl := unl_len (xs.take j)
    rw [List.length_take, Nat.min_eq_left hj] at hcl
    refine gIf_dec (fun hlt => ?_) (fun hge => ?_)
    · have hlt' : j < xs.length := by omega
      have hc := rd_u8 hb.2 j
      have hs := unl_snoc xs j hlt'
      have hmono := unl_mono xs (i := j + 1)
      have hc1 : inR .u8 [rd xs j] := fun x hx => by rw [List.mem_singleton.1 hx]; exact u8i hc
      have h13 : inR .u8 [13] := fun x hx => by simp at hx; subst hx; decide
      have fin : ∀ {v' : Value} {w3 : World}, Fr w w3 [wIt eB ad v' (unl (xs.take (j + 1)))] → gCall P n_text_writer_over shB #[.pointer (some ad), .int .i64 most] w3 fun (t28 : Bool) ww8 => gIf t28 (TupE w (if ((unl xs).length : Int) > limT most then ([], 5) else (unl xs, 0)) (.returned (.tuple #[.slice none 0 0, .int .i64 5])) ww8) ((∃ (j' : Nat) (v : Value), i64 ((j : Int) + 1) = j' ∧ j' ≤ xs.length ∧ ¬ (((unl (xs.take j')).length : Int) > limT most) ∧ Fr w ww8 [wIt eB ad v (unl (xs.take j'))]) ∧ xs.length - (i64 ((j : Int) + 1)).toNat < xs.length - (j : Int).toNat) := fun {v' w3} f3 => by
        refine gCall_b0 (over_any (f3.get 0 rfl)) (gIf_dec (fun h => ?_) (fun h => ?_))
        · rw [if_pos (by omega)]; exact ⟨_, rfl, f3.old, ON.nil _ _ _ _⟩
        · rw [i64_id (n := (j : Int) + 1) (by omega) (by omega)]
          exact ⟨⟨j + 1, v', rfl, by omega, h, f3⟩, by omega⟩
      refine gIdx_nm (hb.ev f2.old) (by omega) hlt fun a1 c1 _ => gLoad_i c1 (gIf_eq (fun e10 => ?_) (fun n10 => ?_))
      · refine fPutLit [13] rfl rfl h13 f2 (by omega) (by decide) fun v3 w3 f3 => fPutLit [rd xs j] rfl rfl hc1 f3 (by simp; omega) (by decide) fun v4 w4 f4 => fin (v' := v4) ?_
        rw [hs]; unfold unlE; rw [if_pos e10]
        rw [List.append_assoc, e10] at f4; exact f4
      · refine fPutLit [rd xs j] rfl rfl hc1 f2 (by omega) (by decide) fun v4 w4 f4 => fin (v' := v4) ?_
        rw [hs]; unfold unlE; rw [if_neg n10]; exact f4
    · obtain rfl : j = xs.length := by omega
      have hW : Wr eB w2 ad v (unl (xs.take xs.length)) := f2.get 0 rfl
      rw [Addr.add_zero' ad] at *
      refine gLoad_v (hW.1.cell (j := 0) rfl) ?_
      rw [List.take_length] at hW hle
      rw [if_neg hle]
      refine ⟨v, rfl, f2.old, ?_⟩
      exact on_new hW.2.1 fun g hg => (f2.ft 0 rfl (k := g) (.inr hg)).1
theorem rUnlines_any {most : Int} (hb : Nm .u8 w b xs) (hl : xs.length ≤ 100000000) : Calls P n_valiseref22_Unlines #[b, .int .i64 most] w (TupE w (unlT xs most)) := by
  unfold unlT
  refine of_valiseref22_Unlines ⟨fun o i w' => ∃ (j : Nat), i = j ∧ j ≤ xs.length ∧ 13 ∉ xs.take j ∧ Fr w w' [oIt .u8 eB o (unl (xs.take j))], fun _ i _ => xs.length - i.toNat, ⟨0, rfl, by omega, by simp, (Fr.start w).nil0 _ _⟩, ?_⟩
  rintro _ o i w2 ⟨j, rfl, hj, h13, f2⟩
  have hcl := unl_len (xs.take j)
  rw [List.length_take, Nat.min_eq_left hj] at hcl
  refine gLen_nm hb (gIf_dec (fun hlt => ?_) (fun hge => ?_))
  · have hlt' : j < xs.length := by omega
    have hc := rd_u8 hb.2 j
    have hs := unl_snoc xs j hlt'
    have ej : i64 ((j : Int) + 1) = ((j + 1 : Nat) : Int) := by rw [i64_id (by omega) (by omega)]; omega
    rw [ej]
    refine gIdx_nm (hb.ev f2.old) (by omega) hlt fun a1 c1 _ => gLoad_i c1 (gIf_eq (fun e13 => ?_) (fun n13 => ?_))
    · rw [if_pos (by rw [← e13]; exact rd_mem (by omega) (by omega))]
      exact ⟨_, rfl, f2.old, ON.nil _ _ _ _⟩
    have hm : 13 ∉ xs.take (j + 1) := by
      rw [List.take_succ_eq_append_getElem hlt', ← rd_nat xs j hlt']
      intro hh
      rcases List.mem_append.1 hh with hh | hh
      · exact h13 hh
      · exact n13 (List.mem_singleton.1 hh).symm
    refine gIf_eq (fun e10 => ?_) (fun n10 => ?_)
    · refine fAppB rfl f2 (by decide) (by omega) fun o3 w3 f3 => gIdx_nm (hb.ev f3.old) (by omega) hlt fun a2 c2 _ => gLoad_i c2 (fAppB rfl f3 hc (by simp; omega) fun o4 w4 f4 => ?_)
      refine ⟨⟨j + 1, rfl, by omega, hm, ?_⟩, by dsimp only; omega⟩
      rw [hs]; unfold unlE; rw [if_pos e10]
      rw [List.append_assoc, e10] at f4; exact f4
    · refine gIdx_nm (hb.ev f2.old) (by omega) hlt fun a2 c2 _ => gLoad_i c2 (fAppB rfl f2 hc (by omega) fun o4 w4 f4 => ?_)
      refine ⟨⟨j + 1, rfl, by omega, hm, ?_⟩, by dsimp only; omega⟩
      rw [hs]; unfold unlE; rw [if_neg n10]; exact f4
  · obtain rfl : j = xs.length := by omega
    rw [List.take_length] at h13 f2
    rw [if_neg h13]
    refine gLen_nm (f2.nm 0 rfl) (gIf_ndec (fun h1 => gLen_nm (f2.nm 0 rfl) (gIf_dec (fun h2 => ?_) (fun h2 => ?_))) (fun h1 => ?_))
    · rw [if_pos (rlim_eq.1 (.inr h2))]; exact ⟨_, rfl, f2.old, ON.nil _ _ _ _⟩
    · rw [if_neg fun hh => by rcases rlim_eq.2 hh with h3 | h3 <;> omega]; exact ⟨o, rfl, f2.old, f2.on 0 rfl⟩
    · rw [if_pos (rlim_eq.1 (.inl h1))]; exact ⟨_, rfl, f2.old, ON.nil _ _ _ _⟩
end
end Go.Proofs.YthnljfogfaoahaaDoorV
