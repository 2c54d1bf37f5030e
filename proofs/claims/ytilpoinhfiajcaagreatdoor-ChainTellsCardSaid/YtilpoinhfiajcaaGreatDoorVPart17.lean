import Derived.Test.YtilpoinhfiajcaaGreatDoorVPart16
set_option linter.unusedVariables false
set_option linter.unusedSimpArgs false
/- Chains of transforms: plain. -/
namespace Go.Proofs.YtilpoinhfiajcaaGreatDoorV
open Go Go.RowKit
/-- A transform, by its tag. -/
noncomputable def packX (t : Int) (xs : List Int) : List Int × Bool :=
  if t = 1 then packA xs else if t = 2 then packI xs else if t = 3 then (if packOk xs = true then (packL xs, true) else ([], false)) else if t = 4 then packWd xs else if t = 5 then linesT xs else capsT xs
noncomputable def unpackX (t : Int) (xs : List Int) (most : Int) : List Int × Int :=
  if t = 1 then unpackA xs most else if t = 2 then unpackI xs most else if t = 3 then unpackT xs most else if t = 4 then unpackWd xs most else if t = 5 then unlT xs most else uncT xs most
theorem uncL_le {lim : Int} (hl : 0 ≤ lim) : ∀ (f : Nat) (xs out : List Int), (out.length : Int) ≤ lim → ((uncL lim f xs out).1.length : Int) ≤ lim
  | 0, xs, out, h => by rw [uncL]; exact h
  | f + 1, [], out, h => by rw [uncL]; exact h
  | f + 1, c :: r, out, h => by
    have next : ∀ r' out', ((uncN lim f r' out').1.length : Int) ≤ lim := fun r' out' => by
      unfold uncN
      split
      · exact hl
      · exact uncL_le hl f r' out' (by omega)
    by_cases h1 : c = 2 ∨ c = 3
    · cases r with
      | nil => rw [uncL_end h1]; exact hl
      | cons d r =>
        by_cases h2 : c = 2 ∧ 97 ≤ d ∧ d ≤ 122
        · rw [uncL_cap h2]; exact next _ _
        · by_cases h3 : c = 3 ∧ (d = 2 ∨ d = 3)
          · rw [uncL_esc h3]; exact next _ _
          · rw [uncL_bad h1 h2 h3]; exact hl
    · rw [uncL_one h1]; exact next _ _
theorem unS_le {L : List (List Int)} {lim : Int} (hl : 0 ≤ lim) (xs : List Int) : ∀ (n k : Nat) (ys : List Int), xs.length - k ≤ n → (ys.length : Int) ≤ lim → ((unS L lim (xs.drop k) ys).1.length : Int) ≤ lim
  | 0, k, ys, hk, h => by rw [List.drop_of_length_le (by omega), unS_nil]; exact h
  | n + 1, k, ys, hk, h => by
    by_cases hkl : k < xs.length
    · rw [unS_step hkl]
      repeat' split
      all_goals first
        | exact hl
        | exact unS_le hl xs n _ _ (by omega) (by omega)
    · rw [List.drop_of_length_le (by omega), unS_nil]; exact h
theorem undoW_le (L : List (List Int)) (x : List Int) {limit : Int} (h : limit ≤ 1048576) : (undoW L x limit).1.length ≤ 1048576 := by
  unfold undoW
  have h0 : 0 ≤ (if 0 > limit then 0 else limit) ∧ (if 0 > limit then 0 else limit) ≤ 1048576 := by split <;> omega
  have := unS_le (L := L.take 64) h0.1 x x.length 0 [] (by omega) h0.1
  rw [List.drop_zero] at this
  omega
theorem limT_rg (most : Int) : 0 ≤ limT most ∧ limT most ≤ 1048576 := by unfold limT; split <;> (try split) <;> omega
theorem unpackX_len {t : Int} {xs : List Int} {most : Int} (hx : inR .u8 xs) : (unpackX t xs most).1.length ≤ 1048576 := by
  unfold unpackX
  split
  · rcases unpackA_total xs most hx hunE with h | h
    · exact h.2.2
    · rw [h.1]; exact Nat.zero_le _
  split
  · rcases unpack_total xs most hx with h | h
    · exact h.2.2
    · rw [h.1]; exact Nat.zero_le _
  split
  · unfold unpackT
    dsimp only
    repeat' split
    all_goals first
      | exact Nat.zero_le _
      | (unfold undeltaL; rw [tab_len, togetherL_len]; exact rawR_len (m := 1048576) (by omega))
  split
  · unfold unpackWd
    dsimp only
    repeat' split
    all_goals first
      | exact Nat.zero_le _
      | exact undoW_le _ _ (by first | omega | decide)
  split
  · unfold unlT
    repeat' split
    · exact Nat.zero_le _
    · exact Nat.zero_le _
    · have := limT_rg most
      dsimp only
      omega
  · unfold uncT
    have h1 := limT_rg most
    have := uncL_le h1.1 (xs.length + 1) xs [] (by simpa using h1.1)
    omega
/-- Which tags may be. -/
def okN (ts : List Int) : Nat → Bool
  | 0 => true
  | k + 1 => okN ts k && (decide (1 ≤ rd ts (k : Int) ∧ rd ts (k : Int) ≤ 6) && !decide (rd ts (k : Int) ∈ ts.take k))
def rightB (ts : List Int) : Bool := okN ts ts.length && decide (ts.length ≤ 4)
theorem okN_f {ts : List Int} {k : Nat} (h : okN ts k = false) : ∀ n, k ≤ n → okN ts n = false
  | 0, hk => by obtain rfl : k = 0 := by omega
                exact h
  | n + 1, hk => by
    by_cases e : k = n + 1
    · rw [← e]; exact h
    · rw [okN, okN_f h n (by omega)]; rfl
theorem okN_t {ts : List Int} : ∀ {k : Nat}, okN ts k = true → ∀ j : Nat, j < k → (1 ≤ rd ts (j : Int) ∧ rd ts (j : Int) ≤ 6) ∧ rd ts (j : Int) ∉ ts.take j
  | 0, _, j, h => by omega
  | k + 1, h, j, hj => by
    rw [okN, Bool.and_eq_true, Bool.and_eq_true] at h
    by_cases e : j = k
    · subst e
      exact ⟨of_decide_eq_true h.2.1, by simpa using h.2.2⟩
    · exact okN_t h.1 j (by omega)
theorem okN_of {ts : List Int} : ∀ {k : Nat}, (∀ j : Nat, j < k → (1 ≤ rd ts (j : Int) ∧ rd ts (j : Int) ≤ 6) ∧ rd ts (j : Int) ∉ ts.take j) → okN ts k = true
  | 0, _ => rfl
  | k + 1, h => by
    rw [okN, okN_of fun j hj => h j (by omega), decide_eq_true (h k (by omega)).1, decide_eq_false (h k (by omega)).2]; rfl
/-- What comes of some tags, the first one first. -/
noncomputable def fwdN (xs ts : List Int) : Nat → List Int × List Int
  | 0 => (xs, [])
  | k + 1 => if (packX (rd ts (k : Int)) (fwdN xs ts k).1).2 = true ∧ (packX (rd ts (k : Int)) (fwdN xs ts k).1).1.length ≤ 1048576 then ((packX (rd ts (k : Int)) (fwdN xs ts k).1).1, (fwdN xs ts k).2 ++ [rd ts (k : Int)]) else fwdN xs ts k
noncomputable def fwdX (xs ts : List Int) : List Int × List Int := if rightB ts = true then fwdN xs ts ts.length else (xs, [])
/-- Turned back, the last tag first. -/
noncomputable def invN (ts : List Int) (most : Int) : Nat → List Int → List Int × Int
  | 0, x => (x, 0)
  | i + 1, x => if (unpackX (rd ts (i : Int)) x (if (i : Int) = 0 then most else 1048576)).2 ≠ 0 then ([], (unpackX (rd ts (i : Int)) x (if (i : Int) = 0 then most else 1048576)).2) else invN ts most i (unpackX (rd ts (i : Int)) x (if (i : Int) = 0 then most else 1048576)).1
noncomputable def invX (xs : List Int) (most : Int) (ts : List Int) : List Int × Int :=
  if rightB ts = true then (if ts.length = 0 ∧ (xs.length : Int) > (if 0 > most then 0 else most) then ([], 5) else invN ts most ts.length xs) else ([], 1)
noncomputable def choX (xs ts : List Int) : List Int × List Int :=
  if (invX (fwdX xs ts).1 (xs.length : Int) (fwdX xs ts).2).2 = 0 ∧ (invX (fwdX xs ts).1 (xs.length : Int) (fwdX xs ts).2).1 = xs then fwdX xs ts else (xs, [])
theorem rightB_nil : rightB [] = true := rfl
theorem fwdN_sub {xs ts : List Int} : ∀ {k : Nat}, k ≤ ts.length → (fwdN xs ts k).2.Sublist (ts.take k)
  | 0, _ => by simp [fwdN]
  | k + 1, h => by
    have ih := fwdN_sub (xs := xs) (ts := ts) (k := k) (by omega)
    rw [fwdN, List.take_succ_eq_append_getElem (by omega), ← rd_nat ts k (by omega)]
    split
    · exact ih.append (List.Sublist.refl _)
    · exact ih.trans (List.sublist_append_left _ _)
theorem rightB_iff {ts : List Int} : rightB ts = true ↔ ts.length ≤ 4 ∧ (∀ t ∈ ts, 1 ≤ t ∧ t ≤ 6) ∧ ts.Nodup := by
  unfold rightB
  rw [Bool.and_eq_true, decide_eq_true_iff]
  constructor
  · rintro ⟨h1, h2⟩
    have h := okN_t h1
    refine ⟨h2, fun t ht => ?_, ?_⟩
    · obtain ⟨j, hj, rfl⟩ := List.getElem_of_mem ht
      rw [← rd_nat ts j hj]; exact (h j hj).1
    · refine List.pairwise_iff_getElem.2 fun i j hi hj hij e => (h j hj).2 ?_
      rw [rd_nat ts j hj, ← e]
      exact List.mem_take_iff_getElem.2 ⟨i, by omega, rfl⟩
  · rintro ⟨h1, h2, h3⟩
    refine ⟨okN_of fun j hj => ?_, h1⟩
    rw [rd_nat ts j hj]
    refine ⟨h2 _ (List.getElem_mem hj), fun hm => ?_⟩
    obtain ⟨i, hi, e⟩ := List.mem_take_iff_getElem.1 hm
    exact List.pairwise_iff_getElem.1 h3 i j (by omega) hj (by omega) e
theorem rightB_sub {ts us : List Int} (h : us.Sublist ts) (hr : rightB ts = true) : rightB us = true := by
  obtain ⟨h1, h2, h3⟩ := rightB_iff.1 hr
  exact rightB_iff.2 ⟨by have := h.length_le; omega, fun t ht => h2 t (h.subset ht), h3.sublist h⟩
theorem fwdX_right (xs ts : List Int) : rightB (fwdX xs ts).2 = true := by
  unfold fwdX
  split
  · rename_i h
    have := fwdN_sub (xs := xs) (ts := ts) (k := ts.length) (Nat.le_refl _)
    rw [List.take_length] at this
    exact rightB_sub this h
  · rfl
theorem invX_nil (y : List Int) (m : Int) : invX y m [] = if (y.length : Int) > (if 0 > m then 0 else m) then ([], 5) else (y, 0) := by
  unfold invX
  rw [if_pos rightB_nil]
  by_cases h : (y.length : Int) > (if 0 > m then 0 else m)
  · rw [if_pos ⟨rfl, h⟩, if_pos h]
  · rw [if_neg fun hh => h hh.2, if_neg h]; rfl
/-- What was chosen is turned back. -/
theorem choX_back (xs ts : List Int) : invX (choX xs ts).1 (xs.length : Int) (choX xs ts).2 = (xs, 0) ∧ rightB (choX xs ts).2 = true ∧ ((choX xs ts).2 = [] → (choX xs ts).1 = xs) ∧ (rightB ts = false → (choX xs ts).2 = []) := by
  have e0 : invX xs (xs.length : Int) [] = (xs, 0) := by
    rw [invX_nil, if_neg (by split <;> omega)]
  unfold choX
  split
  · rename_i h
    refine ⟨Prod.ext h.2 h.1, fwdX_right xs ts, fun he => ?_, fun hr => ?_⟩
    · have h1 := h.1
      have h2 := h.2
      rw [he, invX_nil] at h1 h2
      by_cases hc : ((fwdX xs ts).1.length : Int) > (if 0 > (xs.length : Int) then 0 else (xs.length : Int))
      · rw [if_pos hc] at h1; cases h1
      · rw [if_neg hc] at h2; exact h2
    · unfold fwdX; rw [if_neg (by rw [hr]; decide)]
  · exact ⟨e0, rfl, fun _ => rfl, fun _ => rfl⟩
end Go.Proofs.YtilpoinhfiajcaaGreatDoorV

/- Package chain: of, Right, Forward, Inverse, Choose. -/
namespace Go.Proofs.YtilpoinhfiajcaaGreatDoorV
open Go Go.RowKit
noncomputable abbrev eN : TypeId := elOf P t_sl_int
def cpV (t : Int) : Value := if t = 1 then .func (.func n_audio_Pack) #[] #[] else if t = 2 then .func (.func n_image_Pack) #[] #[] else if t = 3 then .func (.func n_table_Pack) #[] #[] else if t = 4 then .func (.func n_words_Pack) #[] #[] else if t = 5 then .func (.func n_text_Lines) #[] #[] else if t = 6 then .func (.func n_text_Caps) #[] #[] else .nilFunc
def cuV (t : Int) : Value := if t = 1 then .func (.func n_audio_Unpack) #[] #[] else if t = 2 then .func (.func n_image_Unpack) #[] #[] else if t = 3 then .func (.func n_table_Unpack) #[] #[] else if t = 4 then .func (.func n_words_Unpack) #[] #[] else if t = 5 then .func (.func n_text_Unlines) #[] #[] else if t = 6 then .func (.func n_text_Uncaps) #[] #[] else .nilFunc
theorem cpV_one (t : Int) : (cpV t).oneCell' = true := by unfold cpV; (repeat' split) <;> rfl
theorem cuV_one (t : Int) : (cuV t).oneCell' = true := by unfold cuV; (repeat' split) <;> rfl
theorem tag6 {t : Int} (h : 1 ≤ t ∧ t ≤ 6) : t = 1 ∨ t = 2 ∨ t = 3 ∨ t = 4 ∨ t = 5 ∨ t = 6 := by omega
section
variable {w0 w : World} {F : List It}
theorem gOf {t : Int} {K : Value → Value → Bool → World → Prop} (hk : ∀ w', Ev w w' → K (cpV t) (cuV t) (decide (1 ≤ t ∧ t ≤ 6)) w') : gCall P n_chain_of (.tup [.agg [.val, .val], .one .bool]) #[.int .i64 t] w K := by
  refine gCall_of (R := fun e w' => e = .returned (.tuple #[.agg #[cpV t, cuV t], .bool (decide (1 ≤ t ∧ t ≤ 6))]) ∧ Ev w w') ?_ ?_
  · refine of_chain_of (fAlloc (z := .agg #[.nilFunc, .nilFunc]) (Fr.start w) (by kernel_rfl) fun ad w1 f1 => ?_)
    refine gIf_eq (fun h => ?_) (fun h1 => gIf_eq (fun h => ?_) (fun h2 => gIf_eq (fun h => ?_) (fun h3 => gIf_eq (fun h => ?_) (fun h4 => gIf_eq (fun h => ?_) (fun h5 => gIf_eq (fun h => ?_) (fun h6 => ?_))))))
    · subst h; exact ⟨rfl, rfl, fStoreA f1 0 rfl (fun w2 f2 => fLoadA f2 0 rfl ⟨rfl, f2.old⟩)⟩
    · subst h; exact ⟨rfl, rfl, fStoreA f1 0 rfl (fun w2 f2 => fLoadA f2 0 rfl ⟨rfl, f2.old⟩)⟩
    · subst h; exact ⟨rfl, rfl, fStoreA f1 0 rfl (fun w2 f2 => fLoadA f2 0 rfl ⟨rfl, f2.old⟩)⟩
    · subst h; exact ⟨rfl, rfl, fStoreA f1 0 rfl (fun w2 f2 => fLoadA f2 0 rfl ⟨rfl, f2.old⟩)⟩
    · subst h; exact ⟨rfl, rfl, fStoreA f1 0 rfl (fun w2 f2 => fLoadA f2 0 rfl ⟨rfl, f2.old⟩)⟩
    · subst h; exact ⟨rfl, rfl, fStoreA f1 0 rfl (fun w2 f2 => fLoadA f2 0 rfl ⟨rfl, f2.old⟩)⟩
    · refine fStoreA f1 0 rfl (fun w2 f2 => fLoadA f2 0 rfl ⟨?_, f2.old⟩)
      unfold cpV cuV
      rw [if_neg h1, if_neg h2, if_neg h3, if_neg h4, if_neg h5, if_neg h6, if_neg h1, if_neg h2, if_neg h3, if_neg h4, if_neg h5, if_neg h6, decide_eq_false (by omega)]
  · rintro _ w' ⟨rfl, h⟩
    exact ⟨_, _, _, rfl, hk w' h⟩
theorem packX_1 (xs : List Int) : packX 1 xs = packA xs := if_pos rfl
theorem packX_2 (xs : List Int) : packX 2 xs = packI xs := by unfold packX; rw [if_neg (by decide), if_pos rfl]
theorem packX_3 (xs : List Int) : packX 3 xs = (if packOk xs = true then (packL xs, true) else ([], false)) := by unfold packX; rw [if_neg (by decide), if_neg (by decide), if_pos rfl]
theorem packX_4 (xs : List Int) : packX 4 xs = packWd xs := by unfold packX; rw [if_neg (by decide), if_neg (by decide), if_neg (by decide), if_pos rfl]
theorem packX_5 (xs : List Int) : packX 5 xs = linesT xs := by unfold packX; rw [if_neg (by decide), if_neg (by decide), if_neg (by decide), if_neg (by decide), if_pos rfl]
theorem packX_6 (xs : List Int) : packX 6 xs = capsT xs := by unfold packX; rw [if_neg (by decide), if_neg (by decide), if_neg (by decide), if_neg (by decide), if_neg (by decide)]
theorem unpackX_1 (xs : List Int) (m : Int) : unpackX 1 xs m = unpackA xs m := if_pos rfl
theorem unpackX_2 (xs : List Int) (m : Int) : unpackX 2 xs m = unpackI xs m := by unfold unpackX; rw [if_neg (by decide), if_pos rfl]
theorem unpackX_3 (xs : List Int) (m : Int) : unpackX 3 xs m = unpackT xs m := by unfold unpackX; rw [if_neg (by decide), if_neg (by decide), if_pos rfl]
theorem unpackX_4 (xs : List Int) (m : Int) : unpackX 4 xs m = unpackWd xs m := by unfold unpackX; rw [if_neg (by decide), if_neg (by decide), if_neg (by decide), if_pos rfl]
theorem unpackX_5 (xs : List Int) (m : Int) : unpackX 5 xs m = unlT xs m := by unfold unpackX; rw [if_neg (by decide), if_neg (by decide), if_neg (by decide), if_neg (by decide), if_pos rfl]
theorem unpackX_6 (xs : List Int) (m : Int) : unpackX 6 xs m = uncT xs m := by unfold unpackX; rw [if_neg (by decide), if_neg (by decide), if_neg (by decide), if_neg (by decide), if_neg (by decide)]
theorem gPackV {t : Int} {out : Value} {xs : List Int} {K : Value → Bool → World → Prop} (ht : 1 ≤ t ∧ t ≤ 6) (hb : Nm .u8 w out xs) (hl : xs.length ≤ 10000000) (hM : MaxL w) (hk : ∀ v w', Ev w w' → ON .u8 eB w' w.heap.size v (packX t xs).1 → K v (packX t xs).2 w') :
    gCallV P (cpV t) (.tup [.one .val, .one .bool]) #[out] w K := by
  have fin : ∀ {f : FuncId} (hv : cpV t = .func (.func f) #[] #[]) (hok : callOk P f = true), Calls P f #[out] w (TupB w (packX t xs)) → gCallV P (cpV t) (.tup [.one .val, .one .bool]) #[out] w K := fun hv hok h =>
    gCallV_of (R := TupB w (packX t xs)) hv hok (by simpa using h) fun e w' ⟨v, he, hev, hon⟩ => ⟨v, _, he, hk v w' hev hon⟩
  rcases tag6 ht with rfl | rfl | rfl | rfl | rfl | rfl
  · exact fin rfl (by kernel_rfl) (by rw [packX_1]; exact aPack_any hb (by omega))
  · exact fin rfl (by kernel_rfl) (by rw [packX_2]; exact Pack_any hb (by omega))
  · refine fin rfl (by kernel_rfl) ((tPack_any hb (by omega)).mono fun e w' ⟨hev, h⟩ => ?_)
    rw [packX_3]
    by_cases hok : packOk xs = true
    · rw [if_pos hok] at h ⊢
      obtain ⟨v, rfl, hon⟩ := h
      exact ⟨v, rfl, hev, hon⟩
    · rw [if_neg hok] at h ⊢
      exact ⟨_, h, hev, ON.nil _ _ _ _⟩
  · exact fin rfl (by kernel_rfl) (by rw [packX_4]; exact wPack_any hb (by omega))
  · exact fin rfl (by kernel_rfl) (by rw [packX_5]; exact Lines_any hb hM (by omega))
  · exact fin rfl (by kernel_rfl) (by rw [packX_6]; exact Caps_any hb (by omega))
theorem gUnpackV {t most : Int} {out : Value} {xs : List Int} {K : Value → Int → World → Prop} (ht : 1 ≤ t ∧ t ≤ 6) (hb : Nm .u8 w out xs) (hl : xs.length ≤ 10000000) (hm : most ≤ 9223372036854775807) (hk : ∀ v w', Ev w w' → ON .u8 eB w' w.heap.size v (unpackX t xs most).1 → K v (unpackX t xs most).2 w') :
    gCallV P (cuV t) (.tup [.one .val, .one (.int .i64)]) #[out, .int .i64 most] w K := by
  have fin : ∀ {f : FuncId} (hv : cuV t = .func (.func f) #[] #[]) (hok : callOk P f = true), Calls P f #[out, .int .i64 most] w (TupE w (unpackX t xs most)) → gCallV P (cuV t) (.tup [.one .val, .one (.int .i64)]) #[out, .int .i64 most] w K := fun hv hok h =>
    gCallV_of (R := TupE w (unpackX t xs most)) hv hok (by simpa using h) fun e w' ⟨v, he, hev, hon⟩ => ⟨v, _, he, hk v w' hev hon⟩
  rcases tag6 ht with rfl | rfl | rfl | rfl | rfl | rfl
  · exact fin rfl (by kernel_rfl) (by rw [unpackX_1]; exact aUnpack_any hb (by omega) hunE)
  · exact fin rfl (by kernel_rfl) (by rw [unpackX_2]; exact Unpack_any hb (by omega))
  · exact fin rfl (by kernel_rfl) (by rw [unpackX_3]; exact tUnpack_any hb (by omega) hm)
  · exact fin rfl (by kernel_rfl) (by rw [unpackX_4]; exact wUnpack_any hb (by omega))
  · exact fin rfl (by kernel_rfl) (by rw [unpackX_5]; exact Unlines_any hb (by omega))
  · exact fin rfl (by kernel_rfl) (by rw [unpackX_6]; exact Uncaps_any hb (by omega))
theorem cloneX_any {b : Value} {xs : List Int} (hb : Nm .u8 w b xs) (hl : xs.length ≤ 1000000000) : Calls P n_bytes_Clone #[b] w (NewB w xs) := by
  have hb2 := hb
  obtain ⟨⟨a, c, rfl, _, _, _, h0⟩, _⟩ := hb2
  refine of_bytes_Clone (gEq_snil (gIf_b (fun h => ?_) (fun h => ?_)))
  · have e : xs = [] := List.eq_nil_of_length_eq_zero (h0 (by simpa using h))
    subst e
    exact ⟨_, rfl, Ch.refl _ w, ON.nil _ _ _ _⟩
  · refine fLit_n [] (Fr.start w) rfl rfl (fun x hx => by cases hx) fun v w1 f1 => fApp f1 0 rfl (hb.ev f1.old) (by simp; omega) fun v2 w2 f2 => ⟨v2, rfl, f2.old, ?_⟩
    have := f2.on 0 rfl
    exact this
theorem equalX_any {a b : Value} {xs ys : List Int} (ha : Nm .u8 w a xs) (hb : Nm .u8 w b ys) : Calls P n_bytes_Equal #[a, b] w (fun e w' => e = .returned (.bool (decide (xs = ys))) ∧ w' = w) :=
  of_bytes_Equal (gConv_bs ha (gConv_bs hb ⟨by rw [bsOf_eq ha.2 hb.2], rfl⟩))
theorem mem_rd {ts : List Int} {t : Int} : t ∈ ts ↔ ∃ j : Nat, j < ts.length ∧ rd ts (j : Int) = t := by
  constructor
  · intro h
    obtain ⟨j, hj, e⟩ := List.getElem_of_mem h
    exact ⟨j, hj, by rw [rd_nat ts j hj, e]⟩
  · rintro ⟨j, hj, rfl⟩
    rw [rd_nat ts j hj]; exact List.getElem_mem hj
theorem containsI_any {v : Value} {ts : List Int} {t : Int} (h : Nm .i64 w v ts) (hl : ts.length ≤ 1000000000) : Calls P n_slices_Contains_int_int #[v, .int .i64 t] w (fun e w' => e = .returned (.bool (decide (t ∈ ts))) ∧ w' = w) := by
  refine of_slices_Contains_int_int (gCall_of (R := fun e w' => ∃ r : Int, e = .returned (.int .i64 r) ∧ (r ≥ 0 ↔ t ∈ ts) ∧ w' = w) ?_ ?_)
  · refine of_slices_Index_int_int (gLen_nm h ⟨fun i w' => ∃ k : Nat, i = (k : Int) ∧ k ≤ ts.length ∧ (∀ j : Nat, j < k → rd ts (j : Int) ≠ t) ∧ w' = w, fun i _ => (ts.length - i).toNat, ⟨0, rfl, Nat.zero_le _, (fun j hj => by omega), rfl⟩, ?_⟩)
    rintro _ i _ ⟨k, rfl, hk, hall, rfl⟩
    refine gIf_dec (fun hlt => gGet h (by omega) (by omega) (gIf_eq (fun he => ?_) (fun hne => ?_))) (fun hge => ?_)
    · exact ⟨_, rfl, ⟨fun _ => mem_rd.2 ⟨k, by omega, he.symm⟩, fun _ => by omega⟩, rfl⟩
    · refine ⟨⟨k + 1, by rw [i64_id (by omega) (by omega)]; omega, by omega, fun j hj => ?_, rfl⟩, by dsimp only; rw [i64_id (by omega) (by omega)]; omega⟩
      by_cases e : j = k
      · subst e; exact fun e => hne e.symm
      · exact hall j (by omega)
    · refine ⟨_, rfl, ⟨fun h => by omega, fun hm => ?_⟩, rfl⟩
      obtain ⟨j, hj, e⟩ := mem_rd.1 hm
      exact absurd e (hall j (by omega))
  · rintro _ _ ⟨r, rfl, hr, rfl⟩
    exact ⟨_, rfl, by rw [decide_eq_decide.2 hr], rfl⟩
theorem inI_any {v : Value} {ts : List Int} {t : Int} (h : Nm .i64 w v ts) (hl : ts.length ≤ 1000000000) : Calls P n_valisehelp_In_int #[v, .int .i64 t] w (fun e w' => e = .returned (.bool (decide (t ∈ ts))) ∧ w' = w) := by
  refine of_valisehelp_In_int ⟨fun i w' => ∃ k : Nat, i = (k : Int) ∧ k ≤ ts.length ∧ (∀ j : Nat, j < k → rd ts (j : Int) ≠ t) ∧ w' = w, fun i _ => (ts.length - i).toNat, ⟨0, rfl, Nat.zero_le _, (fun j hj => by omega), rfl⟩, ?_⟩
  rintro _ i _ ⟨k, rfl, hk, hall, rfl⟩
  refine gLen_nm h (gIf_dec (fun hlt => gGet h (by omega) (by omega) (gIf_eq (fun he => ?_) (fun hne => ?_))) (fun hge => ?_))
  · exact ⟨by rw [decide_eq_true (mem_rd.2 ⟨k, by omega, he⟩)], rfl⟩
  · refine ⟨⟨k + 1, by rw [i64_id (by omega) (by omega)]; omega, by omega, fun j hj => ?_, rfl⟩, by dsimp only; rw [i64_id (by omega) (by omega)]; omega⟩
    by_cases e : j = k
    · subst e; exact hne
    · exact hall j (by omega)
  · refine ⟨?_, rfl⟩
    rw [decide_eq_false]
    intro hm
    obtain ⟨j, hj, e⟩ := mem_rd.1 hm
    exact absurd e (hall j (by omega))
theorem rightB_f {ts : List Int} {k : Nat} (hk : k < ts.length) (h : okN ts (k + 1) = false) : rightB ts = false := by
  unfold rightB; rw [okN_f h ts.length (by omega)]; rfl
theorem Right_any {v : Value} {ts : List Int} (hb : Nm .i64 w v ts) (hl : ts.length ≤ 1000000000) : Calls P n_chain_Right #[v] w (fun e w' => e = .returned (.bool (rightB ts)) ∧ Ev w w') := by
  refine of_chain_Right (gLen_nm hb ⟨fun i w' => ∃ k : Nat, i = (k : Int) ∧ k ≤ ts.length ∧ okN ts k = true ∧ Ev w w', fun i _ => (ts.length - i).toNat, ⟨0, rfl, Nat.zero_le _, rfl, Ch.refl _ w⟩, ?_⟩)
  rintro _ i w1 ⟨k, rfl, hk, hok, h1⟩
  refine gIf_dec (fun hlt => gGet (hb.ev h1) (by omega) (by omega) (gOf fun w2 h2 => fAlloc (z := .agg #[.nilFunc, .nilFunc]) (Fr.start w2) (by kernel_rfl) fun ad w3 f3 => fStoreA f3 0 rfl (fun w4 f4 => ?_) rfl (fun x hx => ?_))) (fun hge => ?_)
  · have h4 := (h1.trans h2).trans f4.old
    refine gIf_nnb (fun ht => ?_) (fun ht => ⟨?_, h4⟩)
    · refine gSlice_nm (hb.ev h4) 0 k (.inl ⟨rfl, rfl⟩) (.inr ⟨_, rfl⟩) (Nat.zero_le _) hk fun hs => ?_
      rw [List.drop_zero, Nat.sub_zero] at hs
      refine gCall_b0 (containsI_any hs (by rw [List.length_take]; omega)) (gIf_b (fun hc => ⟨?_, h4⟩) (fun hc => ?_))
      · rw [rightB_f (k := k) (by omega) (by rw [okN, hc]; simp)]
      · exact ⟨⟨k + 1, by rw [i64_id (by omega) (by omega)]; omega, by omega, by rw [okN, hok, ht, hc]; rfl, h4⟩, by dsimp only; rw [i64_id (by omega) (by omega)]; omega⟩
    · rw [rightB_f (k := k) (by omega) (by rw [okN, ht]; simp)]
  · simp at hx; rcases hx with rfl | rfl
    · exact cpV_one _
    · exact cuV_one _
  · obtain rfl : k = ts.length := by omega
    refine gLen_nm hb ⟨?_, h1⟩
    unfold rightB
    rw [hok, Bool.true_and]
    congr 2
    exact decide_eq_decide.2 (by omega)
theorem rRight_any {v : Value} {ts : List Int} (hb : Nm .i64 w v ts) (hl : ts.length ≤ 1000000000) : Calls P n_valiseref23_Right #[v] w (fun e w' => e = .returned (.bool (rightB ts)) ∧ Ev w w') := by
  refine of_valiseref23_Right ⟨fun i w' => ∃ k : Nat, i = (k : Int) ∧ k ≤ ts.length ∧ okN ts k = true ∧ Ev w w', fun i _ => (ts.length - i).toNat, ⟨0, rfl, Nat.zero_le _, rfl, Ch.refl _ w⟩, ?_⟩
  rintro _ i w1 ⟨k, rfl, hk, hok, h1⟩
  have h4 := h1.drew
  have no : ¬ (1 ≤ rd ts (k : Int) ∧ rd ts (k : Int) ≤ 6) → k < ts.length → Ending.returned (.bool false) = .returned (.bool (rightB ts)) ∧ Ev w w1.drew := fun h hkl => ⟨by rw [rightB_f (k := k) hkl (by rw [okN, decide_eq_false h]; simp)], h4⟩
  refine gLen_nm (hb.ev h1) (gIf_dec (fun hlt => ?_) (fun hge => ?_))
  · refine ⟨fun w' => w' = w1.drew, rfl, gIdx_nm (hb.ev h1) (by omega) (by omega) fun a1 c1 _ => gLoadB_i (at1 c1) (gIf_ndec (fun h5 => gIdx_nm (hb.ev h1) (by omega) (by omega) fun a2 c2 _ => gLoadB_i (at1 c2) (gIf_ndec (fun h6 => ?_) (fun h6 => no (by omega) (by omega)))) (fun h5 => no (by omega) (by omega)))⟩
    refine gSlice_nm (hb.ev h4) 0 k (.inl ⟨rfl, rfl⟩) (.inr ⟨_, rfl⟩) (Nat.zero_le _) hk fun hs => ?_
    rw [List.drop_zero, Nat.sub_zero] at hs
    refine gIdx_nm (hb.ev h1) (by omega) (by omega) fun a3 c3 _ => gLoadB_i (at1 c3) (gCall_b0 (inI_any hs (by rw [List.length_take]; omega)) ⟨rfl, gIf_b (fun hc => ⟨?_, h4⟩) (fun hc => ?_)⟩)
    · rw [rightB_f (k := k) (by omega) (by rw [okN, hc]; simp)]
    · exact ⟨⟨k + 1, by rw [i64_id (by omega) (by omega)]; omega, by omega, by rw [okN, hok, decide_eq_true (show 1 ≤ rd ts (k : Int) ∧ rd ts (k : Int) ≤ 6 by omega), hc]; rfl, h4⟩, by dsimp only; rw [i64_id (by omega) (by omega)]; omega⟩
  · obtain rfl : k = ts.length := by omega
    refine gLen_nm (hb.ev h1) ⟨?_, h1⟩
    unfold rightB
    rw [hok, Bool.true_and]
    congr 2
    exact decide_eq_decide.2 (by omega)
end
end Go.Proofs.YtilpoinhfiajcaaGreatDoorV

/- Package chain: Forward, Inverse, Choose, Detect. -/
namespace Go.Proofs.YtilpoinhfiajcaaGreatDoorV
open Go Go.RowKit
theorem right_ok {ts : List Int} (h : rightB ts = true) : okN ts ts.length = true := by
  unfold rightB at h; rw [Bool.and_eq_true] at h; exact h.1
theorem right_rg {ts : List Int} (h : rightB ts = true) {k : Nat} (hk : k < ts.length) : 1 ≤ rd ts (k : Int) ∧ rd ts (k : Int) ≤ 6 := (okN_t (right_ok h) k hk).1
theorem right_len {ts : List Int} (h : rightB ts = true) : ts.length ≤ 4 := (rightB_iff.1 h).1
theorem fwdN_len {xs ts : List Int} (h : xs.length ≤ 10000000) : ∀ k, (fwdN xs ts k).1.length ≤ 10000000
  | 0 => h
  | k + 1 => by
    rw [fwdN]
    split
    · rename_i hc
      dsimp only; omega
    · exact fwdN_len h k
theorem fwdN_did (xs ts : List Int) : ∀ k, (fwdN xs ts k).2.length ≤ k
  | 0 => Nat.le_refl _
  | k + 1 => by
    have := fwdN_did xs ts k
    rw [fwdN]
    split
    · dsimp only; rw [List.length_append, List.length_singleton]; omega
    · omega
theorem fwdX_len {xs ts : List Int} (h : xs.length ≤ 10000000) : (fwdX xs ts).1.length ≤ 10000000 := by
  unfold fwdX; split
  · exact fwdN_len h _
  · exact h
theorem choX_len {xs ts : List Int} (h : xs.length ≤ 10000000) : (choX xs ts).1.length ≤ 10000000 := by
  unfold choX; split
  · exact fwdX_len h
  · exact h
/-- Bytes, and tags. -/
def FwdE (w : World) (r : List Int × List Int) (e : Ending) (w' : World) : Prop := ∃ x d, e = .returned (.tuple #[x, d]) ∧ Ev w w' ∧ Nm .u8 w' x r.1 ∧ Nm .i64 w' d r.2
def DetE (w : World) (r : List Int) (e : Ending) (w' : World) : Prop := ∃ v, e = .returned v ∧ Ev w w' ∧ Nm .i64 w' v r
section
variable {w0 w : World} {F : List It} {b tags : Value} {xs ts : List Int}
theorem Forward_any (hb : Nm .u8 w b xs) (ht : Nm .i64 w tags ts) (hl : xs.length ≤ 10000000) (htl : ts.length ≤ 1000000) (hM : MaxL w) : Calls P n_chain_Forward #[b, tags] w (FwdE w (fwdX xs ts)) := by
  refine of_chain_Forward (gCall_v (cloneX_any hb (by omega)) fun x w1 ⟨h1, o1⟩ => gCall_b (Right_any (ht.ev h1) (by omega)) fun w2 h2 => ?_)
  have f2 := ((Fr.start w).newO h1 o1).ev h2
  refine gIf_nb (fun hr => ?_) (fun hr => ?_)
  · have e : fwdX xs ts = (xs, []) := by unfold fwdX; rw [if_neg (by rw [hr]; decide)]
    rw [e]
    exact ⟨x, _, rfl, f2.old, f2.nm 0 rfl, (ON.nil .i64 eN w2 0).nm⟩
  have e : fwdX xs ts = fwdN xs ts ts.length := by unfold fwdX; rw [if_pos hr]
  rw [e]
  refine gLen_nm ((ht.ev h1).ev h2) ⟨fun out did i w' => ∃ k : Nat, i = (k : Int) ∧ k ≤ ts.length ∧ Fr w w' [oIt .i64 eN did (fwdN xs ts k).2, oIt .u8 eB out (fwdN xs ts k).1], fun _ _ i _ => (ts.length - i).toNat, ⟨0, rfl, Nat.zero_le _, f2.nil0 .i64 eN⟩, ?_⟩
  rintro _ out did i w3 ⟨k, rfl, hk, f3⟩
  refine gIf_dec (fun hlt => gGet (ht.ev f3.old) (by omega) (by omega) (gOf fun w4 h4 => fAlloc (z := .agg #[.nilFunc, .nilFunc]) (f3.ev h4) (by kernel_rfl) fun ad w5 f5 => fStoreA f5 0 rfl (fun w6 f6 => ?_) rfl (fun x hx => ?_))) (fun hge => ?_)
  · have f6 : Fr w w6 (sIt ad [cpV (rd ts (k : Int)), cuV (rd ts (k : Int))] :: [oIt .i64 eN did (fwdN xs ts k).2, oIt .u8 eB out (fwdN xs ts k).1]) := f6
    have hkl : k < ts.length := by omega
    have f6d := f6.drop 0
    have f6d : Fr w w6 [oIt .i64 eN did (fwdN xs ts k).2, oIt .u8 eB out (fwdN xs ts k).1] := f6d
    refine fLoad_v f6 0 0 rfl rfl (gPackV (right_rg hr hkl) (f6d.nm 1 rfl) (fwdN_len hl k) (hM.ev f6d.old) fun v w7 h7 o7 => ?_)
    have f7 := f6d.newO h7 o7
    have hdl := fwdN_did xs ts k
    have skip : ¬ ((packX (rd ts (k : Int)) (fwdN xs ts k).1).2 = true ∧ (packX (rd ts (k : Int)) (fwdN xs ts k).1).1.length ≤ 1048576) → (∃ k' : Nat, i64 ((k : Int) + 1) = (k' : Int) ∧ k' ≤ ts.length ∧ Fr w w7 [oIt .i64 eN did (fwdN xs ts k').2, oIt .u8 eB out (fwdN xs ts k').1]) ∧ (ts.length - i64 ((k : Int) + 1)).toNat < (ts.length - (k : Int)).toNat := fun h => by
      refine ⟨⟨k + 1, by rw [i64_id (by omega) (by omega)]; omega, hkl, ?_⟩, by rw [i64_id (by omega) (by omega)]; omega⟩
      rw [fwdN, if_neg h]
      exact f7.drop 0
    refine gIf_b (fun hp => gLen_nm (f7.nm 0 rfl) (gIf_dec (fun hle => ?_) (fun hgt => skip fun h => by omega))) (fun hp => skip fun h => by rw [hp] at h; cases h.1)
    refine fLit_n [rd ts (k : Int)] f7 rfl rfl (fun x hx => ?_) fun t47 w8 f8 => fApp f8 2 rfl (f8.nm 0 rfl) (by simp; omega) fun v' w9 f9 => ⟨⟨k + 1, by rw [i64_id (by omega) (by omega)]; omega, hkl, ?_⟩, by dsimp only; rw [i64_id (by omega) (by omega)]; omega⟩
    · rw [List.mem_singleton.1 hx]
      have := right_rg hr hkl
      have h1 : IntKind.i64.min = -9223372036854775808 := by decide
      have h2 : IntKind.i64.max = 9223372036854775807 := by decide
      rw [h1, h2]; omega
    · rw [fwdN, if_pos ⟨hp, by omega⟩]
      exact f9.picks [2, 1] (by decide)
  · simp at hx; rcases hx with rfl | rfl
    · exact cpV_one _
    · exact cuV_one _
  · obtain rfl : k = ts.length := by omega
    exact ⟨out, did, rfl, f3.old, f3.nm 1 rfl, f3.nm 0 rfl⟩
theorem Inverse_any {x : Value} {most : Int} (hx : Nm .u8 w x xs) (ht : Nm .i64 w tags ts) (hl : xs.length ≤ 10000000) (htl : ts.length ≤ 1000000) (hm : most ≤ 9223372036854775807) : Calls P n_chain_Inverse #[x, .int .i64 most, tags] w (TupE w (invX xs most ts)) := by
  refine of_chain_Inverse (gCall_b (Right_any ht (by omega)) fun w1 h1 => ?_)
  refine gIf_nb (fun hr => ?_) (fun hr => ?_)
  · have e : invX xs most ts = ([], 1) := by unfold invX; rw [if_neg (by rw [hr]; decide)]
    rw [e]
    exact ⟨_, rfl, h1, ON.nil _ _ _ _⟩
  refine ⟨fun w' => w' = w1 ∧ ¬ (ts.length = 0 ∧ (xs.length : Int) > (if 0 > most then 0 else most)), gLen_nm (ht.ev h1) (gIf_eq (fun h0 => gLen_nm (hx.ev h1) (gIf_dec (fun hg => ?_) (fun hg => ⟨rfl, fun h => hg h.2⟩))) (fun h0 => ⟨rfl, fun h => h0 (by omega)⟩)), ?_⟩
  · have e : invX xs most ts = ([], 5) := by unfold invX; rw [if_pos hr, if_pos ⟨by omega, hg⟩]
    rw [e]
    exact ⟨_, rfl, h1, ON.nil _ _ _ _⟩
  rintro _ w2 ⟨hw2, hno⟩
  obtain rfl : w1 = w2 := hw2.symm
  have eI : invX xs most ts = invN ts most ts.length xs := by unfold invX; rw [if_pos hr, if_neg hno]
  rw [eI]
  refine gCall_v (cloneX_any (hx.ev h1) (by omega)) fun out w3 ⟨h3, o3⟩ => gLen_nm ((ht.ev h1).ev h3) ?_
  have f3 := ((Fr.start w).ev h1).newO h3 o3
  refine ⟨fun out i w' => ∃ (j : Nat) (X : List Int), i = (j : Int) - 1 ∧ j ≤ ts.length ∧ X.length ≤ 10000000 ∧ Fr w w' [oIt .u8 eB out X] ∧ invN ts most ts.length xs = invN ts most j X, fun _ i _ => (i + 1).toNat, ⟨ts.length, xs, by rw [i64_id (by omega) (by omega)], Nat.le_refl _, hl, f3, rfl⟩, ?_⟩
  rintro _ out i w4 ⟨j, X, rfl, hj, hX, f4, hI⟩
  refine gIf_dec (fun hge => ?_) (fun hlt => ?_)
  · obtain ⟨i, rfl⟩ : ∃ i, j = i + 1 := ⟨j - 1, by omega⟩
    have hi : ((i + 1 : Nat) : Int) - 1 = (i : Int) := by omega
    rw [hi]
    refine ⟨fun limit w' => w' = w4 ∧ limit = if (i : Int) = 0 then most else 1048576, gIf_eq (fun h => ⟨rfl, (if_pos h).symm⟩) (fun h => ⟨rfl, (if_neg h).symm⟩), ?_⟩
    rintro _ limit w5 ⟨hw5, hlim⟩
    obtain rfl : w4 = w5 := hw5.symm
    have hlm : limit ≤ 9223372036854775807 := by rw [hlim]; split <;> omega
    refine gGet (ht.ev f4.old) (by omega) (by omega) (gOf fun w6 h6 => fAlloc (z := .agg #[.nilFunc, .nilFunc]) (f4.ev h6) (by kernel_rfl) fun ad w7 f7 => fStoreA f7 0 rfl (fun w8 f8 => ?_) rfl (fun x hx => ?_))
    · have f8 : Fr w w8 (sIt ad [cpV (rd ts (i : Int)), cuV (rd ts (i : Int))] :: [oIt .u8 eB out X]) := f8
      have f8d := f8.drop 0
      have f8d : Fr w w8 [oIt .u8 eB out X] := f8d
      refine fLoad_v f8 0 1 rfl rfl (gUnpackV (right_rg hr (show i < ts.length by omega)) (f8d.nm 0 rfl) hX hlm fun v w9 h9 o9 => ?_)
      refine gIf_neq (fun hne => ?_) (fun he => ?_)
      · have e : invN ts most ts.length xs = ([], (unpackX (rd ts (i : Int)) X limit).2) := by rw [hI, invN, ← hlim, if_pos hne]
        rw [e]
        exact ⟨_, rfl, f8d.old.trans h9, ON.nil _ _ _ _⟩
      · have f9 := (f8d.newO h9 o9).picks [0] (by decide)
        refine ⟨⟨i, _, by rw [i64_id (by omega) (by omega)], by omega, Nat.le_trans (unpackX_len (f8d.nm 0 rfl).2) (by decide), f9, ?_⟩, by dsimp only; rw [i64_id (by omega) (by omega)]; omega⟩
        rw [hI, invN, ← hlim, if_neg (by omega)]
    · simp at hx; rcases hx with rfl | rfl
      · exact cpV_one _
      · exact cuV_one _
  · obtain rfl : j = 0 := by omega
    rw [hI, invN]
    exact ⟨out, rfl, f4.old, f4.on 0 rfl⟩
theorem Choose_any (hb : Nm .u8 w b xs) (ht : Nm .i64 w tags ts) (hl : xs.length ≤ 10000000) (htl : ts.length ≤ 1000000) (hM : MaxL w) : Calls P n_chain_Choose #[b, tags] w (FwdE w (choX xs ts)) := by
  refine of_chain_Choose (gCall_of (Forward_any hb ht hl htl hM) ?_)
  rintro _ w1 ⟨x, d, rfl, h1, nx, nd⟩
  have hdr := fwdX_right xs ts
  have hdl := right_len hdr
  refine ⟨_, _, rfl, gLen_nm (hb.ev h1) (gCall_of (Inverse_any nx nd (fwdX_len hl) (by omega) (by omega)) ?_)⟩
  rintro _ w2 ⟨y, rfl, h2, oy⟩
  have hb2 := (hb.ev h1).ev h2
  have no : ¬ ((invX (fwdX xs ts).1 (xs.length : Int) (fwdX xs ts).2).2 = 0 ∧ (invX (fwdX xs ts).1 (xs.length : Int) (fwdX xs ts).2).1 = xs) → gCall P n_bytes_Clone shV #[b] w2 fun (t33 : Value) ww4 => FwdE w (choX xs ts) (.returned (.tuple #[t33, .slice none 0 0])) ww4 := fun h => by
    have e : choX xs ts = (xs, []) := by unfold choX; rw [if_neg h]
    rw [e]
    exact gCall_v (cloneX_any hb2 (by omega)) fun z w3 ⟨h3, o3⟩ => ⟨z, _, rfl, (h1.trans h2).trans h3, o3.nm, (ON.nil .i64 eN w3 0).nm⟩
  refine ⟨_, _, rfl, gIf_nneq (fun he => gCall_b0 (equalX_any oy.nm hb2) (gIf_nb (fun h => no fun hc => of_decide_eq_false h hc.2) (fun h => ?_))) (fun hne => no fun hc => hne hc.1)⟩
  have e : choX xs ts = fwdX xs ts := by unfold choX; rw [if_pos ⟨he, of_decide_eq_true h⟩]
  rw [e]
  exact ⟨x, d, rfl, h1.trans h2, nx.ev h2, nd.ev h2⟩
/-! ### Detect -/
def txB (c : Int) : Bool := decide (32 ≤ c ∧ c ≤ 126 ∨ c = 9 ∨ c = 10 ∨ c = 13)
def detX (xs : List Int) : List Int :=
  if (parseW xs).2 = true then [1] else if (parseP xs).2 = true then [2] else if 10 * ((xs.countP txB : Nat) : Int) > 9 * (xs.length : Int) then [5, 6, 4] else if widI xs ≠ 0 then [3] else []
theorem detX_len (xs : List Int) : (detX xs).length ≤ 3 := by unfold detX; (repeat' split) <;> simp
theorem cnt_next {xs : List Int} {k : Nat} (hk : k < xs.length) : (xs.take (k + 1)).countP txB = (xs.take k).countP txB + if txB (rd xs (k : Int)) = true then 1 else 0 := by
  rw [List.take_succ_eq_append_getElem hk, List.countP_append, rd_nat xs k hk]
  simp [List.countP_cons, List.countP_nil]
theorem texty_any {c : Int} : Calls P n_chain_texty #[.int .u8 c] w (fun e w' => e = .returned (.bool (txB c)) ∧ w' = w) := by
  have h2 : gIf (!(c == 9)) (gIf (!(c == 10)) (Ending.returned (.bool (c == 13)) = .returned (.bool (decide (c = 9 ∨ c = 10 ∨ c = 13))) ∧ w = w) (Ending.returned (.bool true) = .returned (.bool (decide (c = 9 ∨ c = 10 ∨ c = 13))) ∧ w = w)) (Ending.returned (.bool true) = .returned (.bool (decide (c = 9 ∨ c = 10 ∨ c = 13))) ∧ w = w) := by
    refine gIf_neqq (fun h1 => gIf_neqq (fun h2 => ⟨?_, rfl⟩) (fun h2 => ⟨?_, rfl⟩)) (fun h1 => ⟨?_, rfl⟩)
    · congr 2
      by_cases h : c = 13
      · subst h; rfl
      · rw [decide_eq_false (by omega)]; simpa using h
    · rw [decide_eq_true (by omega)]
    · rw [decide_eq_true (by omega)]
  refine of_chain_texty (gIf_dec (fun h1 => gIf_ndec (fun h3 => ?_) (fun h3 => ⟨?_, rfl⟩)) (fun h1 => ?_))
  · rw [show txB c = decide (c = 9 ∨ c = 10 ∨ c = 13) from decide_eq_decide.2 (by omega)]; exact h2
  · rw [show txB c = true from decide_eq_true (by omega)]
  · rw [show txB c = decide (c = 9 ∨ c = 10 ∨ c = 13) from decide_eq_decide.2 (by omega)]; exact h2
theorem Detect_any (hb : Nm .u8 w b xs) (hl : xs.length ≤ 100000000) : Calls P n_chain_Detect #[b] w (DetE w (detX xs)) := by
  refine of_chain_Detect (gCall_wav (wvParse_any hb (by omega)) fun w1 h1 => fWvNew ((Fr.start w).ev h1) fun t3 w2 f2 => fWvSet f2 0 rfl rfl fun w3 f3 => gIf_b (fun hw => ?_) (fun hw => ?_))
  · refine fLit_n [1] f3 rfl rfl (fun x hx => by rw [List.mem_singleton.1 hx]; decide) fun v w4 f4 => ⟨v, rfl, f4.old, ?_⟩
    rw [show detX xs = [1] by unfold detX; rw [if_pos hw]]
    exact f4.nm 0 rfl
  refine gCall_pic (Parse_any (hb.ev f3.old) (by omega)) fun w5 h5 => fPicNew (f3.ev h5) fun t5 w6 f6 => fPicSet f6 0 rfl rfl fun w7 f7 => gIf_b (fun hp => ?_) (fun hp => ?_)
  · refine fLit_n [2] f7 rfl rfl (fun x hx => by rw [List.mem_singleton.1 hx]; decide) fun v w8 f8 => ⟨v, rfl, f8.old, ?_⟩
    rw [show detX xs = [2] by unfold detX; rw [if_neg (by rw [hw]; decide), if_pos hp]]
    exact f8.nm 0 rfl
  have hb7 := hb.ev f7.old
  have hcl : ∀ k : Nat, (xs.take k).countP txB ≤ k := fun k => Nat.le_trans List.countP_le_length (by rw [List.length_take]; omega)
  refine gLen_nm hb7 ⟨fun n i w' => ∃ k : Nat, i = (k : Int) ∧ k ≤ xs.length ∧ n = (((xs.take k).countP txB : Nat) : Int) ∧ w' = w7, fun _ i _ => (xs.length - i).toNat, ⟨0, rfl, Nat.zero_le _, rfl, rfl⟩, ?_⟩
  rintro _ n i w9 ⟨k, rfl, hk, rfl, hw9⟩
  obtain rfl : w7 = w9 := hw9.symm
  have hck := hcl k
  refine gIf_dec (fun hlt => gGet hb7 (by omega) (by omega) (gCall_b0 texty_any (gIf_b (fun h => ?_) (fun h => ?_)))) (fun hge => ?_)
  · exact ⟨⟨k + 1, by rw [i64_id (by omega) (by omega)]; omega, by omega, by rw [cnt_next (by omega), if_pos h, i64_id (by omega) (by omega)]; omega, rfl⟩, by dsimp only; rw [i64_id (n := (k : Int) + 1) (by omega) (by omega)]; omega⟩
  · exact ⟨⟨k + 1, by rw [i64_id (by omega) (by omega)]; omega, by omega, by rw [cnt_next (by omega), if_neg (by rw [h]; decide)]; rfl, rfl⟩, by dsimp only; rw [i64_id (n := (k : Int) + 1) (by omega) (by omega)]; omega⟩
  · obtain rfl : k = xs.length := by omega
    rw [List.take_length] at hck ⊢
    have d0 : detX xs = if 10 * ((xs.countP txB : Nat) : Int) > 9 * (xs.length : Int) then [5, 6, 4] else if widI xs ≠ 0 then [3] else [] := by unfold detX; rw [if_neg (by rw [hw]; decide), if_neg (by rw [hp]; decide)]
    refine gLen_nm hb7 ?_
    rw [i64_id (n := 10 * ((xs.countP txB : Nat) : Int)) (by omega) (by omega), i64_id (n := 9 * (xs.length : Int)) (by omega) (by omega)]
    refine gIf_dec (fun hg => ?_) (fun hg => gCall_i (Width_any hb7 (by omega)) fun w12 h12 => gIf_neq (fun hne => ?_) (fun he => ?_))
    · refine fLit_n [5, 6, 4] f7 rfl rfl (fun x hx => by simp at hx; rcases hx with rfl | rfl | rfl <;> decide) fun v w8 f8 => ⟨v, rfl, f8.old, ?_⟩
      rw [d0, if_pos hg]
      exact f8.nm 0 rfl
    · refine fLit_n [3] (f7.ev h12) rfl rfl (fun x hx => by rw [List.mem_singleton.1 hx]; decide) fun v w8 f8 => ⟨v, rfl, f8.old, ?_⟩
      rw [d0, if_neg hg, if_pos hne]
      exact f8.nm 0 rfl
    · refine ⟨_, rfl, f7.old.trans h12, ?_⟩
      rw [d0, if_neg hg, if_neg (by omega)]
      exact (ON.nil .i64 eN w12 0).nm
theorem awake23_any : Calls P n_valiselaw23_awake #[] w (fun e w' => e = .returned (.bool true) ∧ Ev w w') := by
  have r6 : rightB [6] = true := by decide
  have d3 : detX [97, 97, 97] = [5, 6, 4] := by decide +kernel
  refine of_valiselaw23_awake (fLit_n [6] (Fr.start w) rfl rfl (fun x hx => by rw [List.mem_singleton.1 hx]; decide) fun v w1 f1 => gCall_b (Right_any (f1.nm 0 rfl) (by decide)) fun w2 h2 => ?_)
  rw [r6]
  refine gIf_t (fLitC [97, 97, 97] (f1.ev h2) rfl rfl (fun x hx => by simp at hx; subst hx; decide) fun t w3 f3 => gCall_of (Detect_any (Cn.nm (f3.get 0 rfl)) (by decide)) ?_)
  rintro _ w4 ⟨u, rfl, h4, n4⟩
  rw [d3] at n4
  exact ⟨u, rfl, gLen_nm n4 ⟨rfl, f3.old.trans h4⟩⟩
theorem awake23_end {w0 : World} (h : Ev w0 w) : gCall P n_valiselaw23_awake shB #[] w fun t ww => Holds w0 (.returned (.bool t)) ww := gCall_b awake23_any fun _ h2 => ⟨rfl, h.trans h2⟩
end
end Go.Proofs.YtilpoinhfiajcaaGreatDoorV

/- The law ChainBack. -/
namespace Go.Proofs.YtilpoinhfiajcaaGreatDoorV
open Go Go.RowKit
section
variable {w : World} {b tags : Value} {xs ts : List Int}
theorem ChainBack_law (hb : Nm .u8 w b xs) (ht : Nm .i64 w tags ts) (hM : MaxL w) : Calls P n_valiselaw23_ChainBack #[b, tags] w (Holds w) := by
  have aw := awake23_end (Ch.refl No w)
  refine of_valiselaw23_ChainBack ⟨fun w' => w' = w ∧ xs.length ≤ 2000 ∧ ts.length ≤ 40, gLen_nm hb (gIf_ndec (fun h => gLen_nm ht (gIf_dec (fun h2 => aw) (fun h2 => ⟨rfl, by omega, by omega⟩))) (fun h => aw)), ?_⟩
  rintro _ w3 ⟨hw3, hl, htl⟩
  obtain rfl : w = w3 := hw3.symm
  refine ⟨fun tg k w' => ∃ (j : Nat) (us : List Int), k = (j : Int) ∧ j ≤ 2 ∧ us.length ≤ 40 ∧ Nm .i64 w' tg us ∧ Ev w w', fun _ k _ => (2 - k).toNat, ⟨0, ts, rfl, by omega, htl, ht, Ch.refl No w⟩, ?_⟩
  rintro _ tg k w4 ⟨j, us, rfl, hj, hus, hn, h4⟩
  refine gIf_dec (fun hlt => ⟨fun t w' => ∃ vs : List Int, vs.length ≤ 40 ∧ Nm .i64 w' t vs ∧ Ev w w', ?_, ?_⟩) (fun hge => ⟨rfl, h4⟩)
  · obtain ⟨cb, cr, cn, cf⟩ := choX_back xs us
    refine gCall_of (Choose_any (hb.ev h4) hn (by omega) (by omega) (hM.ev h4)) ?_
    rintro _ w5 ⟨x, d, rfl, h5, nx, nd⟩
    have hdl := right_len cr
    refine ⟨_, _, rfl, gLen_nm hb (gCall_of (Inverse_any nx nd (choX_len (by omega)) (by omega) (by omega)) ?_)⟩
    rintro _ w6 ⟨c, rfl, h6, oc⟩
    rw [cb] at oc ⊢
    have h06 := (h4.trans h5).trans h6
    have nx6 := nx.ev h6
    have nd6 := nd.ev h6
    have hn6 := (hn.ev h5).ev h6
    refine ⟨_, _, rfl, fun w' => Ev w w', gCall_b awake23_any fun w7 h7 => gIf_nn (gIf_nneq (fun _ => gCall_b0 (Bytes_any (hb.ev (h06.trans h7)) (oc.nm.ev h7)) ?_) (fun h => absurd rfl h)), ?_⟩
    · rw [decide_eq_true rfl]
      have tail : gCall P n_valiseref23_Right shB #[d] w7 fun (t62 : Bool) ww12 => gIf (!(!t62)) (gCall P n_valiseref23_Right shB #[tg] ww12 fun (t67 : Bool) ww13 => gIf (!t67) (gLen P t_sl_int d fun (t71 : Nat) => gIf (decide ((t71 : Int) > 0)) (Holds w (.returned (.bool false)) ww13) (Ev w ww13)) (Ev w ww13)) (Holds w (.returned (.bool false)) ww12) := by
        refine gCall_b (rRight_any (nd6.ev h7) (by omega)) fun w8 h8 => ?_
        rw [cr]
        refine gIf_nn (gCall_b (rRight_any ((hn6.ev h7).ev h8) (by omega)) fun w9 h9 => ?_)
        have h09 := ((h06.trans h7).trans h8).trans h9
        refine gIf_nb (fun hr => gLen_nm nd6 (gIf_dec (fun hg => ?_) (fun _ => h09))) (fun _ => h09)
        rw [cf hr] at hg
        simp at hg
      refine gIf_nn (gLen_nm nd6 (gIf_eq (fun h0 => gCall_b0 (Bytes_any (nx6.ev h7) (hb.ev (h06.trans h7))) ?_) (fun h0 => tail)))
      rw [cn (List.eq_nil_of_length_eq_zero (by omega)), decide_eq_true rfl]
      exact gIf_nn tail
    · rintro _ w14 h14
      refine gCall_of (Detect_any (hb.ev h14) (by omega)) ?_
      rintro _ w15 ⟨v, rfl, h15, n15⟩
      exact ⟨v, rfl, detX xs, by have := detX_len xs; omega, n15, h14.trans h15⟩
  · rintro _ t w16 ⟨vs, hvs, hv, h16⟩
    exact ⟨⟨j + 1, vs, by rw [i64_id (by omega) (by omega)]; omega, by omega, hvs, hv, h16⟩, by dsimp only; rw [i64_id (by omega) (by omega)]; omega⟩
end
end Go.Proofs.YtilpoinhfiajcaaGreatDoorV

/- The law ChainTells. -/
namespace Go.Proofs.YtilpoinhfiajcaaGreatDoorV
open Go Go.RowKit
section
variable {w : World} {b tags : Value} {xs ts : List Int}
theorem SameI_any {a c : Value} {ys : List Int} (ha : Nm .i64 w a xs) (hb : Nm .i64 w c ys) (hl : xs.length ≤ 1000000000) :
    Calls P n_valisehelp_Same_int #[a, c, .func (.func n_valisehelp_Plain_int_1) #[] #[]] w (fun e w' => e = .returned (.bool (decide (xs = ys))) ∧ Ev w w') := by
  refine of_valisehelp_Same_int (gLen_nm ha (gLen_nm hb (gIf_neq (fun hne => ⟨by rw [decide_eq_false fun h => hne (by rw [h])], Ch.refl _ w⟩) (fun heq => ?_))))
  have hle : xs.length = ys.length := by omega
  refine ⟨fun i w' => ∃ j : Nat, i = j ∧ j ≤ xs.length ∧ (∀ q, q < j → rd xs q = rd ys q) ∧ Ev w w', fun i _ => xs.length - i.toNat, ⟨0, rfl, by omega, by omega, Ch.refl _ w⟩, ?_⟩
  rintro _ i w1 ⟨j, rfl, hj, hq, h1⟩
  refine gLen_nm ha (gIf_dec (fun hlt => ?_) (fun hge => ⟨?_, h1⟩))
  · refine ⟨fun w' => w' = w1.drew, rfl, gIdx_nm (ha.ev h1) (by omega) (by omega) fun a1 c1 _ => gLoadB_i (at1 c1) (gIdx_nm (hb.ev h1) (by omega) (by omega) fun a2 c2 _ => gLoadB_i (at1 c2) (gCallV_of rfl (by kernel_rfl) (of_valisehelp_Plain_int_1 (R := fun e w' => e = .returned (.bool (rd xs j == rd ys j)) ∧ w' = w1.drew) ⟨rfl, rfl⟩) ?_))⟩
    rintro _ _ ⟨rfl, rfl⟩
    refine ⟨_, rfl, rfl, ?_⟩
    refine gIf_neqq (fun hne => ⟨?_, h1.drew⟩) (fun he => ?_)
    · rw [decide_eq_false fun h => hne (by rw [h])]
    · rw [i64_id (n := (j : Int) + 1) (by omega) (by omega)]
      refine ⟨⟨j + 1, by omega, by omega, fun q hq' => ?_, h1.drew⟩, by dsimp only; omega⟩
      rcases Nat.lt_or_ge q j with h | h
      · exact hq q h
      · have : q = j := by omega
        subst this; exact he
  · rw [decide_eq_true]
    refine List.ext_getElem hle fun q h1 h2 => ?_
    rw [← rd_nat xs q h1, ← rd_nat ys q h2]; exact hq q (by omega)
theorem PlainI_any {a c : Value} {ys : List Int} (ha : Nm .i64 w a xs) (hb : Nm .i64 w c ys) (hl : xs.length ≤ 1000000000) :
    Calls P n_valisehelp_Plain_int #[a, c] w (fun e w' => e = .returned (.bool (decide (xs = ys))) ∧ Ev w w') :=
  of_valisehelp_Plain_int (gCall_of (SameI_any ha hb hl) fun _ _ ⟨h1, h2⟩ => ⟨_, h1, rfl, h2⟩)
theorem rDetect_any (hb : Nm .u8 w b xs) (hl : xs.length ≤ 100000000) : Calls P n_valiseref23_Detect #[b] w (DetE w (detX xs)) := by
  refine of_valiseref23_Detect (gCall_wav (rwParse_any hb (by omega)) fun w1 h1 => fWvNew ((Fr.start w).ev h1) fun t3 w2 f2 => fWvSet f2 0 rfl rfl fun w3 f3 => ?_)
  refine gCall_pic (rParse_any (hb.ev f3.old) (by omega)) fun w5 h5 => fPicNew (f3.ev h5) fun t5 w6 f6 => fPicSet f6 0 rfl rfl fun w7 f7 => ?_
  have hb7 := hb.ev f7.old
  have hcl : ∀ k : Nat, (xs.take k).countP txB ≤ k := fun k => Nat.le_trans List.countP_le_length (by rw [List.length_take]; omega)
  refine ⟨fun n i w' => ∃ k : Nat, i = (k : Int) ∧ k ≤ xs.length ∧ n = (((xs.take k).countP txB : Nat) : Int) ∧ w' = w7, fun _ i _ => (xs.length - i).toNat, ⟨0, rfl, Nat.zero_le _, rfl, rfl⟩, ?_⟩
  rintro _ n i w9 ⟨k, rfl, hk, rfl, hw9⟩
  obtain rfl : w7 = w9 := hw9.symm
  have hck := hcl k
  refine gLen_nm hb7 (gIf_dec (fun hlt => ?_) (fun hge => ?_))
  · have hkl : k < xs.length := by omega
    have hc := cnt_next hkl
    refine ⟨fun n' w' => w' = w7 ∧ n' = (((xs.take (k + 1)).countP txB : Nat) : Int), ?_, ?_⟩
    · obtain ⟨c, hcc⟩ : ∃ c, c = rd xs (k : Int) := ⟨_, rfl⟩
      rw [← hcc] at hc
      have yes : (32 ≤ c ∧ c ≤ 126 ∨ c = 9 ∨ c = 10 ∨ c = 13) → w7 = w7 ∧ i64 ((((xs.take k).countP txB : Nat) : Int) + 1) = (((xs.take (k + 1)).countP txB : Nat) : Int) := fun h => ⟨rfl, by rw [hc, if_pos (show txB c = true from decide_eq_true h), i64_id (by omega) (by omega)]; omega⟩
      have no : ¬ (32 ≤ c ∧ c ≤ 126 ∨ c = 9 ∨ c = 10 ∨ c = 13) → w7 = w7 ∧ (((xs.take k).countP txB : Nat) : Int) = (((xs.take (k + 1)).countP txB : Nat) : Int) := fun h => ⟨rfl, by rw [hc, if_neg (by rw [show txB c = false from decide_eq_false h]; decide)]; rfl⟩
      have g : ∀ {K : Int → Prop}, K c → gIdx P t_sl_uint8 b (.int .i64 (k : Int)) fun ad => gLoad P t_uint8 (shI .u8) (.pointer (some ad)) w7 K := fun {K} h => gGet hb7 (by omega) (by omega) (by rw [← hcc]; exact h)
      exact g (gIf_dec (fun h1 => g (gIf_ndec (fun h2 => g (gIf_neqq (fun h3 => g (gIf_neqq (fun h4 => g (gIf_eq (fun h5 => yes (by omega)) (fun h5 => no (by omega)))) (fun h4 => yes (by omega)))) (fun h3 => yes (by omega)))) (fun h2 => yes (by omega)))) (fun h1 => g (gIf_neqq (fun h3 => g (gIf_neqq (fun h4 => g (gIf_eq (fun h5 => yes (by omega)) (fun h5 => no (by omega)))) (fun h4 => yes (by omega)))) (fun h3 => yes (by omega)))))
    · rintro _ n' w8 ⟨hw8, rfl⟩
      obtain rfl : w7 = w8 := hw8.symm
      exact ⟨⟨k + 1, by rw [i64_id (by omega) (by omega)]; omega, hkl, rfl, rfl⟩, by dsimp only; rw [i64_id (n := (k : Int) + 1) (by omega) (by omega)]; omega⟩
  · obtain rfl : k = xs.length := by omega
    rw [List.take_length] at hck ⊢
    refine gIf_b (fun hw => ?_) (fun hw => gIf_b (fun hp => ?_) (fun hp => ?_))
    · refine fLit_n [1] f7 rfl rfl (fun x hx => by rw [List.mem_singleton.1 hx]; decide) fun v w4 f4 => ⟨v, rfl, f4.old, ?_⟩
      rw [show detX xs = [1] by unfold detX; rw [if_pos hw]]
      exact f4.nm 0 rfl
    · refine fLit_n [2] f7 rfl rfl (fun x hx => by rw [List.mem_singleton.1 hx]; decide) fun v w8 f8 => ⟨v, rfl, f8.old, ?_⟩
      rw [show detX xs = [2] by unfold detX; rw [if_neg (by rw [hw]; decide), if_pos hp]]
      exact f8.nm 0 rfl
    have d0 : detX xs = if 10 * ((xs.countP txB : Nat) : Int) > 9 * (xs.length : Int) then [5, 6, 4] else if widI xs ≠ 0 then [3] else [] := by unfold detX; rw [if_neg (by rw [hw]; decide), if_neg (by rw [hp]; decide)]
    refine gLen_nm hb7 ?_
    rw [i64_id (n := 10 * ((xs.countP txB : Nat) : Int)) (by omega) (by omega), i64_id (n := 9 * (xs.length : Int)) (by omega) (by omega)]
    refine gIf_dec (fun hg => ?_) (fun hg => gCall_i (rWidth_any hb7 (by omega)) fun w12 h12 => gIf_neq (fun hne => ?_) (fun he => ?_))
    · refine fLit_n [5, 6, 4] f7 rfl rfl (fun x hx => by simp at hx; rcases hx with rfl | rfl | rfl <;> decide) fun v w8 f8 => ⟨v, rfl, f8.old, ?_⟩
      rw [d0, if_pos hg]
      exact f8.nm 0 rfl
    · refine fLit_n [3] (f7.ev h12) rfl rfl (fun x hx => by rw [List.mem_singleton.1 hx]; decide) fun v w8 f8 => ⟨v, rfl, f8.old, ?_⟩
      rw [d0, if_neg hg, if_pos hne]
      exact f8.nm 0 rfl
    · refine ⟨_, rfl, f7.old.trans h12, ?_⟩
      rw [d0, if_neg hg, if_neg (by omega)]
      exact (ON.nil .i64 eN w12 0).nm
theorem ChainTells_law (hb : Nm .u8 w b xs) (ht : Nm .i64 w tags ts) : Calls P n_valiselaw23_ChainTells #[b, tags] w (Holds w) := by
  have aw := awake23_end (Ch.refl No w)
  refine of_valiselaw23_ChainTells ⟨fun w' => w' = w ∧ xs.length ≤ 3000 ∧ ts.length ≤ 40, gLen_nm hb (gIf_ndec (fun h => gLen_nm ht (gIf_dec (fun h2 => aw) (fun h2 => ⟨rfl, by omega, by omega⟩))) (fun h => aw)), ?_⟩
  rintro _ w3 ⟨hw3, hl, htl⟩
  obtain rfl : w = w3 := hw3.symm
  refine gCall_v (Own_byte_any hb (by omega) (by decide)) fun o w4 ⟨h4, ho⟩ => gCall_b awake23_any fun w5 h5 => gIf_t (gCall_b (Right_any (ht.ev (h4.trans h5)) (by omega)) fun w6 h6 => gCall_b (rRight_any ((ht.ev (h4.trans h5)).ev h6) (by omega)) fun w7 h7 => ?_)
  have h47 := (h5.trans h6).trans h7
  refine gEq_bool ?_
  rw [beq_self_eq_true]
  refine gIf_t (gCall_of (Detect_any (ho.nm.ev h47) (by omega)) ?_)
  rintro _ w8 ⟨u, rfl, h8, n8⟩
  refine ⟨u, rfl, gCall_of (rDetect_any (hb.ev ((h4.trans h47).trans h8)) (by omega)) ?_⟩
  rintro _ w9 ⟨v, rfl, h9, n9⟩
  refine ⟨v, rfl, gCall_b (PlainI_any (n8.ev h9) n9 (by have := detX_len xs; omega)) fun w10 h10 => ?_⟩
  rw [decide_eq_true rfl]
  have h410 := ((h47.trans h8).trans h9).trans h10
  exact gIf_t (gCall_b (Kept_byte_any (ho.ev h410) (hb.ev (h4.trans h410)) (by omega)) fun w11 h11 => ⟨rfl, (h4.trans h410).trans h11⟩)
end
end Go.Proofs.YtilpoinhfiajcaaGreatDoorV
