/- The laws PictureSays, PictureBmp: the plain part. -/
import Derived.Test.YtflchmhhmkkooaaVPictL
import Derived.Test.YtflchmhhmkkooaaVHelpDig
namespace Go.Proofs.YtflchmhhmkkooaaV
open Go Go.RowKit
section
variable {xs r : List Int} {a : Nat} {c : Int}
theorem rd_drop (h : xs.drop a = c :: r) : rd xs a = c ∧ a < xs.length ∧ xs.drop (a + 1) = r := by
  have hlt : a < xs.length := by
    rcases Nat.lt_or_ge a xs.length with h1 | h1
    · exact h1
    · rw [List.drop_of_length_le h1] at h; cases h
  rw [List.drop_eq_getElem_cons hlt] at h
  injection h with h1 h2
  exact ⟨by rw [rd_nat xs a hlt]; exact h1, hlt, h2⟩
theorem drop_more {ys zs : List Int} (h : xs.drop a = ys ++ zs) : xs.drop (a + ys.length) = zs := by
  rw [← List.drop_drop, h, List.drop_left]
theorem blank_ws : ∀ (ws : List Int) (f a : Nat), (∀ c ∈ ws, whiteB c = true) → xs.drop a = ws ++ r → blankL xs (f + ws.length) a = blankL xs f (a + ws.length)
  | [], f, a, _, _ => rfl
  | c :: ws, f, a, hw, h => by
    obtain ⟨h1, h2, h3⟩ := rd_drop (by simpa using h)
    rw [List.length_cons, ← Nat.add_assoc, blankL, if_pos h2, h1, hw c (by simp), if_pos rfl, blank_ws ws f (a + 1) (fun c hc => hw c (by simp [hc])) h3, show a + 1 + ws.length = a + (ws.length + 1) by omega]
theorem nl_at : ∀ (rem : List Int) (a : Nat), (∀ c ∈ rem, c ≠ 10) → xs.drop a = rem ++ 10 :: r → nlI xs a = some (a + rem.length)
  | [], a, _, h => by
    obtain ⟨h1, h2, _⟩ := rd_drop h
    rw [nlI_step h2, if_pos h1]; rfl
  | c :: rem, a, hr, h => by
    obtain ⟨h1, h2, h3⟩ := rd_drop (by simpa using h)
    rw [nlI_step h2, if_neg (by rw [h1]; exact hr c (by simp)), nl_at rem (a + 1) (fun c hc => hr c (by simp [hc])) h3, List.length_cons, show a + 1 + rem.length = a + (rem.length + 1) by omega]
theorem blank_gap {ws rem : List Int} {d : Int} (hw : ∀ c ∈ ws, whiteB c = true) (hr : ∀ c ∈ rem, c ≠ 10) (hd : 48 ≤ d ∧ d ≤ 57) (h : xs.drop a = ws ++ (35 :: (rem ++ (10 :: d :: r)))) : blankI xs a = (true, a + (ws.length + 1 + rem.length + 1)) := by
  have hl : xs.length - a = ws.length + (1 + (rem.length + (1 + (1 + r.length)))) := by
    rw [← List.length_drop, h]; simp; omega
  unfold blankI
  rw [show xs.length + 1 - a = (rem.length + r.length + 2 + 1 + 1) + ws.length by omega, blank_ws ws _ a hw h]
  have h2 := drop_more h
  obtain ⟨k1, k2, k3⟩ := rd_drop h2
  have k4 := nl_at (35 :: rem) (a + ws.length) (fun c hc => by rcases List.mem_cons.1 hc with rfl | hc; decide; exact hr c hc) (by simpa using h2)
  rw [blankL, if_pos k2, k1, if_neg (by decide), if_pos rfl, k4]
  dsimp only
  have h4 : xs.drop (a + ws.length + (35 :: rem).length) = 10 :: d :: r := drop_more (by simpa using h2)
  obtain ⟨_, _, k5⟩ := rd_drop h4
  obtain ⟨k6, k7, _⟩ := rd_drop k5
  rw [blankL, if_pos k7, k6, if_neg (by simp [whiteB]; omega), if_neg (by omega)]
  simp only [List.length_cons]
  congr 1; omega
theorem run_ds {d : Int} (hd : ¬ (48 ≤ d ∧ d ≤ 57)) : ∀ (ds : List Int) (f a : Nat) (v : Int), (∀ c ∈ ds, 48 ≤ c ∧ c ≤ 57) → xs.drop a = ds ++ d :: r → ds.length ≤ f → runL xs f a v = (ds.length, valL v ds)
  | [], f, a, v, _, h, _ => by
    obtain ⟨h1, h2, _⟩ := rd_drop h
    cases f with
    | zero => rfl
    | succ f => rw [runL, if_neg (by rw [h1, digB_iff]; exact fun hh => hd hh.2)]; rfl
  | c :: ds, f, a, v, hc, h, hf => by
    obtain ⟨h1, h2, h3⟩ := rd_drop (by simpa using h)
    cases f with
    | zero => simp at hf
    | succ f =>
      rw [runL, if_pos ⟨h2, by rw [h1, digB_iff]; exact hc c (by simp)⟩, h1, run_ds hd ds f (a + 1) _ (fun c hh => hc c (by simp [hh])) h3 (by simpa using hf)]
      rfl
theorem tok_says {ws rem : List Int} {n : Nat} {d most : Int} (hw : ∀ c ∈ ws, whiteB c = true) (hr : ∀ c ∈ rem, c ≠ 10) (hd : ¬ (48 ≤ d ∧ d ≤ 57)) (hn : 1 ≤ n) (hn2 : n < 100000) (hm : (n : Int) ≤ most)
    (h : xs.drop a = (ws ++ (35 :: (rem ++ [10]))) ++ (digL n ++ d :: r)) : tokP xs most a = some ((n : Int), a + (ws ++ (35 :: (rem ++ [10]))).length + (digL n).length) := by
  obtain ⟨l1, l2⟩ := digL_len 4 (n := n) (by simpa using hn2)
  have hgl : (ws ++ (35 :: (rem ++ [10]))).length = ws.length + 1 + rem.length + 1 := by simp; omega
  obtain ⟨c, ds, hds⟩ := List.exists_cons_of_ne_nil l2
  have hc := digL_dig n c (by rw [hds]; simp)
  have hb := blank_gap (r := ds ++ d :: r) hw hr hc (by rw [h, hds]; simp)
  rw [← hgl] at hb
  have h2 := drop_more h
  have hrun := run_ds hd (digL n) 6 _ 0 (digL_dig n) h2 (by omega)
  have hnum : numPI xs (a + (ws ++ (35 :: (rem ++ [10]))).length) most = ((n : Int), a + (ws ++ (35 :: (rem ++ [10]))).length + (digL n).length) := by
    unfold numPI
    rw [hrun, if_neg (by dsimp only; omega), valL_dig, if_neg (by omega)]
  unfold tokP
  rw [hb]
  dsimp only
  rw [hnum, if_pos ⟨rfl, by omega, by dsimp only; omega⟩]
end
theorem says_end {ws rem px : List Int} {cc : Int} {W H : Nat} (hw : ∀ c ∈ ws, whiteB c = true) (hr : ∀ c ∈ rem, c ≠ 10) (hcc : cc = 53 ∨ cc = 54) (hW : 1 ≤ W ∧ W ≤ 20) (hH : 1 ≤ H ∧ H ≤ 20) {g hd : List Int} (hg : g = ws ++ (35 :: (rem ++ [10])))
    (hhd : hd = [80, cc] ++ g ++ digL W ++ g ++ digL H ++ g ++ [50, 53, 53, 32]) : pnmP (hd ++ px) = rightP ⟨W, H, if cc = 54 then 3 else 1, W * (if cc = 54 then 3 else 1), hd.length⟩ (hd ++ px).length := by
  have h255 : digL 255 = [50, 53, 53] := by decide +kernel
  have hxs : hd ++ px = [80, cc] ++ (g ++ (digL W ++ (g ++ (digL H ++ (g ++ (digL 255 ++ (32 :: px))))))) := by rw [hhd, h255]; simp
  generalize hX : hd ++ px = xs at *
  have d0 : xs.drop 2 = g ++ (digL W ++ (g ++ (digL H ++ (g ++ (digL 255 ++ (32 :: px)))))) := by rw [hxs]; rfl
  have hgc : ∃ q, g = (ws ++ 35 :: rem ++ [10]) ∧ q = (0 : Nat) := ⟨0, by rw [hg]; simp, rfl⟩
  -- what stands behind a number is no digit
  have hnd : ∀ {t : List Int}, ∃ (d : Int) (r : List Int), ¬ (48 ≤ d ∧ d ≤ 57) ∧ g ++ t = d :: r := by
    intro t
    cases ws with
    | nil => exact ⟨35, _, by decide, by rw [hg]; rfl⟩
    | cons c ws =>
      refine ⟨c, _, fun hc => ?_, by rw [hg]; rfl⟩
      have := hw c (by simp)
      simp [whiteB] at this; omega
  have dA := drop_more d0
  have d1 := drop_more dA
  have dB := drop_more d1
  have d2 := drop_more dB
  have dC := drop_more d2
  have d3 := drop_more dC
  obtain ⟨e1, r1, n1, q1⟩ := hnd (t := digL H ++ (g ++ (digL 255 ++ (32 :: px))))
  obtain ⟨e2, r2, n2, q2⟩ := hnd (t := digL 255 ++ (32 :: px))
  have t0 := tok_says (most := 32768) hw hr n1 hW.1 (by omega) (by omega) (by rw [d0, q1, hg])
  have t1 := tok_says (most := 32768) hw hr n2 hH.1 (by omega) (by omega) (by rw [d1, q2, hg])
  have t2 := tok_says (n := 255) (d := 32) (most := 255) hw hr (by decide) (by decide) (by decide) (by decide) (by rw [d2, hg])
  rw [← hg] at t0 t1 t2
  have k1 : toks (tkP xs) 1 = some ([(W : Int)], _) := toks_yes (l := []) rfl t0
  have k2 := toks_yes k1 t1
  have k3 := toks_yes k2 t2
  obtain ⟨z1, z2, _⟩ := rd_drop d3
  have hlen2 : 2 ≤ xs.length := by rw [hxs]; simp
  have hr0 : rd xs 0 = 80 := by rw [hxs]; rfl
  have hr1 : rd xs 1 = cc := by rw [hxs]; rfl
  have hhd2 : hdP xs = true := decide_eq_true ⟨hlen2, hr0, by rw [hr1]; exact hcc⟩
  have hpl : plP xs = if cc = 54 then 3 else 1 := by unfold plP; rw [hr1]
  unfold pnmP
  rw [hhd2, if_pos rfl, k3]
  show endP xs _ _ = _
  unfold endP
  rw [if_pos ⟨z2, by rw [z1]; rfl⟩]
  unfold pcP
  rw [hpl]
  congr 1
  rw [h255]
  simp only [List.nil_append, List.cons_append, List.getD_cons_zero, List.getD_cons_succ, Pc.mk.injEq, true_and]
  rw [hhd]
  simp
  omega
end Go.Proofs.YtflchmhhmkkooaaV
