import Derived.Test.YtijimpchglmkhaaVPart9
set_option linter.unusedVariables false
set_option linter.unusedSimpArgs false
/- The law WordsOften. -/
namespace Go.Proofs.YtijimpchglmkhaaV
open Go Go.RowKit
theorem sortedU_one {ws : List (List UInt8)} {s : List UInt8} (h : ∀ x, x ∈ ws ↔ x = s) : sortedU ws = [s] :=
  rise_eq (fun x => ws.count x) (sortedU_rise ws) (List.pairwise_singleton _ _) fun x => by rw [mem_sortedU, h x, List.mem_singleton]
theorem sortedU_nil : sortedU [] = [] := by
  refine List.eq_nil_iff_forall_not_mem.2 fun x hx => ?_
  have := mem_sortedU.1 hx; cases this
theorem findU_rep (n : Nat) (s : List UInt8) : findU (List.replicate n s) = if 2 ≤ n then [s] else [] := by
  cases n with
  | zero => unfold findU; rw [show List.replicate 0 s = [] from rfl, sortedU_nil]; rfl
  | succ n =>
    unfold findU
    rw [sortedU_one (ws := List.replicate (n + 1) s) (s := s) fun x => by rw [List.mem_replicate]; simp]
    by_cases h : 2 ≤ n + 1
    · rw [if_pos h, List.filter_cons_of_pos (by rw [List.count_replicate_self]; exact decide_eq_true (by omega))]; rfl
    · rw [if_neg h, List.filter_cons_of_neg (by rw [List.count_replicate_self]; simp; omega)]; rfl
theorem runN_app : ∀ {u rest : List Int}, (∀ x ∈ u, letB x = true) → (∀ c r, rest = c :: r → letB c = false) → runN (u ++ rest) = u.length
  | [], rest, _, h => by
    cases rest with
    | nil => rfl
    | cons c r => rw [List.nil_append, runN, if_neg (by rw [h c r rfl]; decide)]; rfl
  | x :: u, rest, h1, h2 => by rw [List.cons_append, runN, if_pos (h1 x List.mem_cons_self), runN_app (fun y hy => h1 y (List.mem_cons_of_mem _ hy)) h2]; rfl
theorem wordsU_no {c : Int} {rest : List Int} (hc : letB c = false) : wordsU (c :: rest) = wordsU rest := by
  have hr : runN (c :: rest) = 0 := by rw [runN, if_neg (by rw [hc]; decide)]
  rw [wordsU_step (by simp), hr, if_neg (by omega), if_pos (by omega)]; rfl
theorem wordsU_word {u rest : List Int} {c : Int} (hu : ∀ x ∈ u, letB x = true) (hc : letB c = false) : wordsU (u ++ c :: rest) = (if 3 ≤ u.length ∧ u.length ≤ 24 then [bU u] else []) ++ wordsU rest := by
  by_cases h0 : u = []
  · subst h0; rw [List.nil_append, wordsU_no hc, if_neg (by simp)]; rfl
  · have hp : 0 < u.length := List.length_pos_iff.2 h0
    have hr : runN (u ++ c :: rest) = u.length := runN_app hu fun c' r h => by injection h with h; rw [← h]; exact hc
    rw [wordsU_step (by simp), hr, List.take_left' rfl, if_neg (show ¬ (1 > u.length) by omega), List.drop_left' rfl, wordsU_no hc]
def wlR (u : List Int) (c : Int) (n : Nat) : List Int := (List.replicate n (u ++ [c])).flatten
theorem wlR_succ (u : List Int) (c : Int) (n : Nat) : wlR u c (n + 1) = wlR u c n ++ (u ++ [c]) := by
  unfold wlR; rw [List.replicate_succ', List.flatten_append]; simp
theorem wlR_len (u : List Int) (c : Int) : ∀ n, (wlR u c n).length = n * (u.length + 1)
  | 0 => by simp [wlR]
  | n + 1 => by rw [wlR_succ, List.length_append, wlR_len u c n, List.length_append, Nat.succ_mul]; rfl
theorem wordsU_rep {u : List Int} {c : Int} (hu : ∀ x ∈ u, letB x = true) (hc : letB c = false) : ∀ n, wordsU (wlR u c n) = if 3 ≤ u.length ∧ u.length ≤ 24 then List.replicate n (bU u) else []
  | 0 => by rw [show wlR u c 0 = [] by simp [wlR], wordsU_nil]; split <;> rfl
  | n + 1 => by
    have e : wlR u c (n + 1) = u ++ c :: wlR u c n := by unfold wlR; rw [List.replicate_succ, List.flatten_cons, List.append_assoc]; rfl
    rw [e, wordsU_word hu hc, wordsU_rep hu hc n]
    split
    · rw [List.replicate_succ]; rfl
    · rfl
theorem one_of {α : Type} {l : List α} (h : l.length = 1) : ∃ a, l = [a] := by
  match l, h with
  | [a], _ => exact ⟨a, rfl⟩
section
variable {w : World}
theorem awake21_any : Calls P n_valiselaw21_awake #[] w (fun e w' => e = .returned (.bool true) ∧ Ev w w') := by
  have hin : inR .u8 [97, 98, 99, 32, 97, 98, 99] := fun x hx => by simp at hx; rcases hx with rfl | rfl | rfl | rfl | rfl | rfl | rfl <;> decide
  have hp : wordsU [97, 98, 99, 32, 97, 98, 99] = List.replicate 2 [97, 98, 99] := by decide +kernel
  refine of_valiselaw21_awake (fLitC [97, 98, 99, 32, 97, 98, 99] (Fr.start w) rfl rfl hin fun v w2 f2 => gCall_of (Find_any (Cn.nm (f2.get 0 rfl)) (by decide)) ?_)
  rintro _ w3 ⟨t, T, rfl, hT, g3⟩
  rw [hp, findU_rep, if_pos (by decide)] at hT
  have f3 := f2.glue g3
  obtain ⟨u, rfl⟩ : ∃ u, T = [u] := by
    exact one_of (by have := congrArg List.length hT; simpa using this)
  obtain ⟨s1, s2⟩ := wdP_at f3
  have hu : u.2 = [97, 98, 99] := by simp at hT; rw [hT]; rfl
  have hN := s2 u List.mem_cons_self
  rw [hu] at hN
  refine ⟨_, rfl, gLen_slv s1 (gIf_eq (fun _ => gIdx_1 s1 (by decide) (by simp) fun a x hx hc _ => ?_) (fun h => (h rfl).elim))⟩
  have hx : x = u.1 := by simpa using hx.symm
  subst hx
  refine gLoad_v hc (gConv_bs hN ⟨?_, f3.old⟩)
  show Ending.returned (.bool ((bsOf [97, 98, 99]).toList == (ByteArray.mk #[97, 98, 99]).toList)) = _
  rw [show ByteArray.mk #[97, 98, 99] = bsOf [97, 98, 99] by decide]; simp
theorem awake21_end {w0 : World} (h : Ev w0 w) : gCall P n_valiselaw21_awake shB #[] w fun t ww => Holds w0 (.returned (.bool t)) ww := gCall_b awake21_any fun _ h2 => ⟨rfl, h.trans h2⟩
def ltrs (xs : List Int) : List Int := (xs.take 30).map fun x => 97 + x % 26
theorem ltrs_next {xs : List Int} {k : Nat} (h1 : k < xs.length) (h2 : k < 30) : (ltrs xs).take (k + 1) = (ltrs xs).take k ++ [97 + rd xs (k : Int) % 26] := by
  have hl : k < (ltrs xs).length := by unfold ltrs; rw [List.length_map, List.length_take]; omega
  rw [List.take_succ_eq_append_getElem hl, rd_nat xs k h1]
  simp [ltrs]
theorem WordsOften_law {l0 : Value} {xs : List Int} {n1 c2 : Int} (hb : Nm .u8 w l0 xs) (_ : IntKind.i64.min ≤ n1 ∧ n1 ≤ IntKind.i64.max) (hc : IntKind.u8.min ≤ c2 ∧ c2 ≤ IntKind.u8.max) : Calls P n_valiselaw21_WordsOften #[l0, .int .i64 n1, .int .u8 c2] w (Holds w) := by
  have hc2 : 0 ≤ c2 ∧ c2 < 256 := by simp [IntKind.min, IntKind.max, IntKind.signed, IntKind.bits] at hc; omega
  have un : 0 ≤ u64 n1 := by rw [u64_def]; omega
  obtain ⟨n, en, hn4⟩ : ∃ n : Nat, i64 (Int.tmod (u64 n1) 5) = (n : Int) ∧ n ≤ 4 := by
    refine ⟨(u64 n1 % 5).toNat, ?_, by omega⟩
    rw [Int.tmod_eq_emod_of_nonneg un, i64_id (by omega) (by omega)]; omega
  have aw := awake21_end (Ch.refl No w)
  refine of_valiselaw21_WordsOften ⟨fun w' => w' = w ∧ letB c2 = false, ?_, ?_⟩
  · refine gIf_dec (fun h1 => gIf_ndec (fun h2 => gIf_dec (fun h3 => gIf_dec (fun h4 => aw) (fun h4 => ?_)) (fun h3 => ?_)) (fun h2 => aw)) (fun h1 => gIf_dec (fun h3 => gIf_dec (fun h4 => aw) (fun h4 => ?_)) (fun h3 => ?_))
    all_goals exact ⟨rfl, by unfold letB; exact decide_eq_false (by omega)⟩
  rintro _ w1 ⟨hw1, hlc⟩
  obtain rfl : w = w1 := hw1.symm
  have hll : (ltrs xs).length = min 30 xs.length := by unfold ltrs; rw [List.length_map, List.length_take]
  have hlet : ∀ x ∈ ltrs xs, letB x = true := fun x hx => by
    unfold ltrs at hx
    obtain ⟨y, _, rfl⟩ := List.mem_map.1 hx
    exact decide_eq_true (by omega)
  have hlu : inR .u8 (ltrs xs) := fun x hx => by
    have := of_decide_eq_true (hlet x hx)
    simp [IntKind.min, IntKind.max, IntKind.signed, IntKind.bits]; omega
  refine ⟨fun w7 w' => Fr w w' [oIt .u8 eB w7 (ltrs xs)], ⟨fun w7 i w' => ∃ k : Nat, i = (k : Int) ∧ k ≤ min 30 xs.length ∧ Fr w w' [oIt .u8 eB w7 ((ltrs xs).take k)], fun _ i _ => (30 - i).toNat, ⟨0, rfl, Nat.zero_le _, (Fr.start w).nil0 .u8 eB⟩, ?_⟩, ?_⟩
  · rintro _ w7 i w2 ⟨k, rfl, hk, f2⟩
    have fin : min 30 xs.length ≤ k → Fr w w2 [oIt .u8 eB w7 (ltrs xs)] := fun h => by rwa [List.take_of_length_le (by omega)] at f2
    have hb2 := hb.ev f2.old
    refine gLen_nm hb2 (gIf_dec (fun h1 => gIf_dec (fun h2 => gGet hb2 (by omega) (by omega) ?_) (fun h2 => fin (by omega))) (fun h1 => fin (by omega)))
    have hr := rd_u8 hb.2 (k : Int)
    rw [Int.tmod_eq_emod_of_nonneg hr.1, show u8 (97 + rd xs (k : Int) % 26) = 97 + rd xs (k : Int) % 26 by rw [u8_def]; omega]
    refine fAppB rfl f2 (by omega) (by rw [List.length_take]; omega) fun b' w' f' => ⟨⟨k + 1, by rw [i64_id (by omega) (by omega)]; omega, by omega, ?_⟩, by dsimp only; rw [i64_id (by omega) (by omega)]; omega⟩
    rw [ltrs_next (by omega) (by omega)]; exact f'
  rintro _ w7 w3 f3
  rw [en]
  refine ⟨fun b9 i w' => ∃ k : Nat, i = (k : Int) ∧ k ≤ n ∧ Fr w w' [oIt .u8 eB b9 (wlR (ltrs xs) c2 k), oIt .u8 eB w7 (ltrs xs)], fun _ i _ => (10 - i).toNat, ⟨0, rfl, Nat.zero_le _, f3.nil0 .u8 eB⟩, ?_⟩
  rintro _ b9 i w4 ⟨k, rfl, hk, f4⟩
  have hbl := wlR_len (ltrs xs) c2 k
  have hbl2 : k * ((ltrs xs).length + 1) ≤ 4 * 31 := Nat.mul_le_mul (by omega) (by omega)
  refine gIf_dec (fun hlt => ?_) (fun hge => ?_)
  · refine fApp f4 0 rfl (f4.nm 1 rfl) (by omega) fun v5 w5 f5 => fAppB rfl f5 hc2 (by rw [List.length_append]; omega) fun v6 w6 f6 => ⟨⟨k + 1, by rw [i64_id (by omega) (by omega)]; omega, by omega, ?_⟩, by dsimp only; rw [i64_id (by omega) (by omega)]; omega⟩
    rw [wlR_succ, ← List.append_assoc]; exact f6
  obtain rfl : k = n := by omega
  refine gCall_of (Find_any (f4.nm 0 rfl) (by omega)) ?_
  rintro _ w5 ⟨t, T, rfl, hT, g5⟩
  rw [wordsU_rep hlet hlc] at hT
  have f5 := f4.glue g5
  have none : (¬ (3 ≤ (ltrs xs).length ∧ (ltrs xs).length ≤ 24) ∨ k < 2) → gCall P n_valiselaw21_awake shB #[] w5 fun (t75 : Bool) ww16 => gIf t75 (gLen P t_sl_sl_uint8 t fun (t78 : Nat) => Holds w (.returned (.bool ((t78 : Int) == 0))) ww16) (Holds w (.returned (.bool false)) ww16) := fun h => by
    have hT0 : T = [] := by
      have : T.map (·.2) = [] := by
        rw [hT]
        split
        · rw [findU_rep, if_neg (by omega)]; rfl
        · rw [show ([] : List (List UInt8)) = List.replicate 0 [] from rfl, findU_rep]; rfl
      exact List.map_eq_nil_iff.1 this
    subst hT0
    refine gCall_b awake21_any fun w6 h6 => gIf_t (gLen_slv ((wdP_at f5).1.ev h6) ⟨rfl, f5.old.trans h6⟩)
  refine ⟨t, rfl, fun w' => w' = w5 ∧ (3 ≤ (ltrs xs).length ∧ (ltrs xs).length ≤ 24) ∧ 2 ≤ k, ?_, ?_⟩
  · have hN := (f4.nm 1 rfl).ev g5.old
    refine gLen_nm hN (gIf_ndec (fun h3 => gLen_nm hN (gIf_ndec (fun h24 => gIf_dec (fun h2 => none (.inr (by omega))) (fun h2 => ⟨rfl, by omega, by omega⟩)) (fun h24 => none (.inl (by omega))))) (fun h3 => none (.inl (by omega))))
  · rintro _ w6 ⟨hw6, h3, h2⟩
    obtain rfl : w5 = w6 := hw6.symm
    rw [if_pos h3, findU_rep, if_pos h2] at hT
    obtain ⟨u, rfl⟩ : ∃ u, T = [u] := by
      exact one_of (by have := congrArg List.length hT; simpa using this)
    obtain ⟨s1, s2⟩ := wdP_at f5
    have hu : u.2 = ltrs xs := by simp at hT; rw [hT, iU_bU hlu]
    have hN := s2 u List.mem_cons_self
    rw [hu] at hN
    refine gCall_b awake21_any fun w7' h7 => gIf_t (gLen_slv (s1.ev h7) (gIf_eq (fun _ => gIdx_1 (s1.ev h7) (by decide) (by simp) fun a x hx hc _ => ?_) (fun h => (h rfl).elim)))
    have hx : x = u.1 := by simpa using hx.symm
    subst hx
    refine gLoad_v hc (gCall_b0 (Bytes_any (hN.ev h7) ((f4.nm 1 rfl).ev (g5.old.trans h7))) ⟨?_, f5.old.trans h7⟩)
    rw [decide_eq_true rfl]
end
end Go.Proofs.YtijimpchglmkhaaV

/- What was packed is unpacked: plain; the law WordsBack. -/
namespace Go.Proofs.YtijimpchglmkhaaV
open Go Go.RowKit
theorem unS_lit {L : List (List Int)} {lim : Int} : ∀ {u rest out : List Int}, (∀ c ∈ u, c < 128) → unS L lim (u ++ rest) out = if u = [] ∨ ((out.length + u.length : Nat) : Int) ≤ lim then unS L lim rest (out ++ u) else ([], 5)
  | [], rest, out, _ => by rw [if_pos (.inl rfl)]; simp
  | c :: u, rest, out, h => by
    have hc := h c List.mem_cons_self
    have ih := unS_lit (L := L) (lim := lim) (u := u) (rest := rest) (out := out ++ [c]) fun x hx => h x (List.mem_cons_of_mem _ hx)
    have st : unS L lim (c :: (u ++ rest)) out = if ((out ++ [c]).length : Int) > lim then ([], 5) else unS L lim (u ++ rest) (out ++ [c]) := by
      have := unS_step (M := L) (lim := lim) (xs := c :: (u ++ rest)) (ys := out) (k := 0) (by simp)
      rw [List.drop_zero, show rd (c :: (u ++ rest)) ((0 : Nat) : Int) = c from rfl, if_pos hc] at this
      exact this
    rw [List.cons_append, st, ih, List.length_append, List.length_singleton]
    by_cases h1 : ((out.length + 1 : Nat) : Int) > lim
    · rw [if_pos h1, if_neg (by simp; omega)]
    · rw [if_neg h1]
      by_cases hu : u = []
      · subst hu; rw [if_pos (.inl rfl), if_pos (.inr (by simp; omega))]; simp
      · by_cases h2 : ((out.length + (c :: u).length : Nat) : Int) ≤ lim
        · rw [if_pos (.inr (by simp at h2 ⊢; omega)), if_pos (.inr h2)]; simp
        · rw [if_neg (by simp at h2 ⊢; exact ⟨hu, by omega⟩), if_neg (by simp at h2 ⊢; omega)]
theorem idxW_get {L : List (List Int)} {u : List Int} (h : idxW L u < L.length) : L[idxW L u] = u := by
  have := List.findIdx_getElem (w := h)
  unfold idxW at h ⊢
  simpa using this
theorem run_let : ∀ {xs : List Int}, ∀ c ∈ xs.take (runN xs), letB c = true
  | [], c, h => by simp at h
  | x :: r, c, h => by
    rw [runN] at h
    split at h
    · rename_i hx
      rw [List.take_succ_cons] at h
      rcases List.mem_cons.1 h with rfl | h
      · exact hx
      · exact run_let c h
    · simp at h
theorem un_apply {L : List (List Int)} {lim : Int} (hL : L.length ≤ 64) : ∀ (n : Nat) (xs out : List Int), xs.length ≤ n → inR .u8 xs → unS L lim (applyW L xs) out = if xs = [] ∨ ((out.length + xs.length : Nat) : Int) ≤ lim then (out ++ xs, 0) else ([], 5)
  | 0, xs, out, h, _ => by
    obtain rfl : xs = [] := List.eq_nil_of_length_eq_zero (by omega)
    rw [applyW_nil, unS_nil, if_pos (.inl rfl), List.append_nil]
  | n + 1, xs, out, h, hx => by
    by_cases he : xs = []
    · subst he; rw [applyW_nil, unS_nil, if_pos (.inl rfl), List.append_nil]
    have h0 : 0 < xs.length := List.length_pos_iff.2 he
    have hm1 := mxR_pos xs
    have hrl := runN_le xs
    have hm2 : mxR xs ≤ xs.length := by unfold mxR; split <;> omega
    have hsp : xs.take (mxR xs) ++ xs.drop (mxR xs) = xs := List.take_append_drop _ _
    have hdl : (xs.drop (mxR xs)).length = xs.length - mxR xs := List.length_drop
    have htl : (xs.take (mxR xs)).length = mxR xs := by rw [List.length_take]; omega
    have ih := fun out => un_apply (lim := lim) hL n (xs.drop (mxR xs)) out (by omega) (hx.drop _)
    -- one token: as it is put behind, held against the limit
    have key : unS L lim (tokW L xs ++ applyW L (xs.drop (mxR xs))) out = if ((out.length + mxR xs : Nat) : Int) ≤ lim then unS L lim (applyW L (xs.drop (mxR xs))) (out ++ xs.take (mxR xs)) else ([], 5) := by
      generalize applyW L (xs.drop (mxR xs)) = R
      have hr0 := rd_u8 hx 0
      have t1 : runN xs = 0 → xs.take (mxR xs) = [rd xs 0] := fun hz => by
        have : mxR xs = 1 := by unfold mxR; rw [hz]; rfl
        have e : rd xs 0 = xs[0] := rd_nat xs 0 h0
        rw [this, e]
        match xs, h0 with
        | x :: r, _ => rfl
      unfold tokW
      by_cases h1 : 0 < runN xs ∧ idxW L (xs.take (runN xs)) < L.length
      · rw [if_pos h1]
        have hg := idxW_get h1.2
        have hmx : mxR xs = runN xs := by unfold mxR; rw [if_neg (by omega)]
        rw [hmx]
        have hul : (xs.take (runN xs)).length = runN xs := by rw [List.length_take]; omega
        obtain ⟨q, hq⟩ : ∃ q, q = idxW L (xs.take (runN xs)) := ⟨_, rfl⟩
        have hqL := h1.2
        simp only [← hq] at hg hqL ⊢
        have := unS_step (M := L) (lim := lim) (xs := (128 + (q : Int)) :: R) (ys := out) (k := 0) (by simp)
        rw [List.drop_zero, show rd ((128 + (q : Int)) :: R) ((0 : Nat) : Int) = 128 + (q : Int) from rfl, if_neg (by omega), if_neg (by omega), if_pos (by omega), show (128 + (q : Int) - 128).toNat = q by omega, List.getD_eq_getElem?_getD, List.getElem?_eq_getElem hqL, Option.getD_some, hg, List.length_append, hul] at this
        rw [List.singleton_append, this]
        by_cases hh : ((out.length + runN xs : Nat) : Int) ≤ lim
        · rw [if_neg (by omega), if_pos hh]; rfl
        · rw [if_pos (by omega), if_neg hh]
      · rw [if_neg h1]
        by_cases h2 : 0 < runN xs
        · rw [if_pos h2]
          have hmx : mxR xs = runN xs := by unfold mxR; rw [if_neg (by omega)]
          rw [hmx]
          have hul : (xs.take (runN xs)).length = runN xs := by rw [List.length_take]; omega
          rw [unS_lit fun c hc => by have := of_decide_eq_true (run_let c hc); omega, hul]
          have hne : xs.take (runN xs) ≠ [] := fun e => by rw [e] at hul; simp at hul; omega
          by_cases hh : ((out.length + runN xs : Nat) : Int) ≤ lim
          · rw [if_pos (.inr hh), if_pos hh]
          · rw [if_neg (by rintro (h | h); exact hne h; exact hh h), if_neg hh]
        · rw [if_neg h2, t1 (by omega)]
          have hm : mxR xs = 1 := by unfold mxR; rw [if_pos (by omega)]
          rw [hm]
          by_cases h3 : rd xs 0 ≥ 128
          · rw [if_pos h3]
            have := unS_step (M := L) (lim := lim) (xs := 255 :: rd xs 0 :: R) (ys := out) (k := 0) (by simp)
            rw [List.drop_zero, show rd (255 :: rd xs 0 :: R) ((0 : Nat) : Int) = 255 from rfl, if_neg (by decide), if_pos rfl, if_neg (by simp), show rd (255 :: rd xs 0 :: R) ((0 + 1 : Nat) : Int) = rd xs 0 from rfl, if_neg (by omega), List.length_append, List.length_singleton] at this
            rw [show [255, rd xs 0] ++ R = 255 :: rd xs 0 :: R from rfl, this]
            by_cases hh : ((out.length + 1 : Nat) : Int) ≤ lim
            · rw [if_neg (by omega), if_pos hh]; rfl
            · rw [if_pos (by omega), if_neg hh]
          · rw [if_neg h3, unS_lit fun c hc => by rw [List.mem_singleton.1 hc]; omega, List.length_singleton]
            by_cases hh : ((out.length + 1 : Nat) : Int) ≤ lim
            · rw [if_pos (.inr hh), if_pos hh]
            · rw [if_neg (by simp; omega), if_neg hh]
    rw [applyW_step he, key, ih, List.append_assoc, hsp, List.length_append, htl, hdl]
    by_cases hh : ((out.length + xs.length : Nat) : Int) ≤ lim
    · rw [if_pos (show ((out.length + mxR xs : Nat) : Int) ≤ lim by omega), if_pos (.inr (by omega)), if_pos (.inr hh)]
    · rw [if_neg (show ¬ (xs = [] ∨ ((out.length + xs.length : Nat) : Int) ≤ lim) from fun h => h.elim he hh)]
      by_cases h4 : ((out.length + mxR xs : Nat) : Int) ≤ lim
      · rw [if_pos h4, if_neg]
        rintro (h5 | h5)
        · have := congrArg List.length h5
          rw [hdl] at this; simp at this; omega
        · omega
      · rw [if_neg h4]
theorem undo_apply {L : List (List Int)} {xs : List Int} (limit : Int) (hL : L.length ≤ 64) (hx : inR .u8 xs) : undoW L (applyW L xs) limit = if (xs.length : Int) > (if 0 > limit then 0 else limit) then ([], 5) else (xs, 0) := by
  unfold undoW
  rw [List.take_of_length_le hL, un_apply hL xs.length xs [] (Nat.le_refl _) hx]
  generalize hmx : (if 0 > limit then 0 else limit) = mx
  have h0 : 0 ≤ mx := by rw [← hmx]; split <;> omega
  by_cases h : (xs.length : Int) > mx
  · rw [if_pos h, if_neg]
    rintro (h1 | h1)
    · rw [h1] at h; simp at h; omega
    · simp at h1; omega
  · rw [if_neg h, if_pos (.inr (by simp; omega)), List.nil_append]
theorem wordsU_let {xs : List Int} (hx : inR .u8 xs) : ∀ (n : Nat), xs.length ≤ n → ∀ s ∈ wordsU xs, ∀ c ∈ iU s, letB c = true := by
  intro n
  induction n generalizing xs with
  | zero =>
    intro h s hs
    obtain rfl : xs = [] := List.eq_nil_of_length_eq_zero (by omega)
    cases hs
  | succ n ih =>
    intro h s hs
    by_cases he : xs = []
    · subst he; cases hs
    have h0 : 0 < xs.length := List.length_pos_iff.2 he
    rw [wordsU_step he] at hs
    rcases List.mem_append.1 hs with hs | hs
    · split at hs
      · rw [List.mem_singleton.1 hs, iU_bU (hx.take _)]
        exact run_let
      · cases hs
    · exact ih (hx.drop _) (by rw [List.length_drop]; split <;> omega) s hs
theorem runN_all : ∀ {u : List Int}, (∀ c ∈ u, letB c = true) → runN u = u.length
  | u, h => by have := runN_app (u := u) (rest := []) h (fun c r h => by cases h); rwa [List.append_nil] at this
theorem wordsR_of {xs rest : List Int} {a0 : Nat} {L : List (List Int)} (hL : ∀ u ∈ L, 3 ≤ u.length ∧ u.length ≤ 24 ∧ ∀ c ∈ u, letB c = true) (ha : a0 ≤ xs.length) (hx : xs.drop a0 = txtB L ++ rest) : ∀ k, k ≤ L.length → wordsR xs a0 k = .inl (L.take k, a0 + (txtB (L.take k)).length) := by
  intro k
  induction k with
  | zero => intro _; rw [wordsR]; simp [txtB]
  | succ k ih =>
    intro hk
    obtain ⟨h3, h24, hlet⟩ := hL L[k] (List.getElem_mem (by omega))
    have hsp : txtB L = txtB (L.take k) ++ (numB L[k].length ++ (L[k] ++ txtB (L.drop (k + 1)))) := by
      have e1 : txtB L = txtB (L.take (k + 1)) ++ txtB (L.drop (k + 1)) := by
        unfold txtB
        conv => lhs; rw [← List.take_append_drop (k + 1) L]
        rw [List.map_append, List.flatten_append]
      rw [e1, txtB_next (by omega)]; simp only [List.append_assoc]
    have hd : xs.drop (a0 + (txtB (L.take k)).length) = numB L[k].length ++ (L[k] ++ (txtB (L.drop (k + 1)) ++ rest)) := by
      rw [← List.drop_drop, hx, hsp]
      simp only [List.append_assoc, List.drop_left]
    have hlen : a0 + (txtB (L.take k)).length ≤ xs.length := by
      have h1 : (txtB L).length ≤ xs.length - a0 := by rw [← List.length_drop, hx, List.length_append]; omega
      rw [hsp, List.length_append] at h1; omega
    have htx := textR_of (xs := xs) (ys := L[k]) (a := a0 + (txtB (L.take k)).length) (m := 24) (by omega) (by omega) hlen hd
    rw [wordsR, ih (by omega)]
    dsimp only
    rw [htx]
    dsimp only
    rw [if_neg (show ¬ ((0 : Int) ≠ 0) from fun h => h rfl), runN_all hlet, if_neg (by omega), txtB_next (by omega), List.take_succ_eq_append_getElem (by omega)]
    congr 2
    simp only [List.length_append]; omega
theorem findW_let {xs : List Int} (hx : inR .u8 xs) : ∀ u ∈ findW xs, 3 ≤ u.length ∧ u.length ≤ 24 ∧ ∀ c ∈ u, letB c = true := fun u hu => by
  have h1 := (findW_rg xs).2 u hu
  unfold findW at hu
  obtain ⟨s, hs, rfl⟩ := List.mem_map.1 hu
  exact ⟨h1.1, h1.2, wordsU_let hx xs.length (Nat.le_refl _) s ((findU_sub _).2 s hs).1⟩
theorem unpack_packWd {xs : List Int} (hx : inR .u8 xs) (hok : (packWd xs).2 = true) (limit : Int) : unpackWd (packWd xs).1 limit = if (xs.length : Int) > (if 0 > limit then 0 else limit) then ([], 5) else (xs, 0) := by
  have hc : ¬ (findW xs = [] ∨ xs.length > 1048576) := fun h => by unfold packWd at hok; rw [if_pos h] at hok; cases hok
  have hp : (packWd xs).1 = numB (findW xs).length ++ (txtB (findW xs) ++ applyW (findW xs) xs) := by unfold packWd; rw [if_neg hc, List.append_assoc]
  have hrg := findW_rg xs
  have hlet := findW_let hx
  have hne : findW xs ≠ [] := fun h => hc (.inl h)
  have hl0 : 0 < (findW xs).length := List.length_pos_iff.2 hne
  obtain ⟨ys, hys⟩ : ∃ ys, ys = (packWd xs).1 := ⟨_, rfl⟩
  rw [← hys] at hp ⊢
  have hnum : numR ys 0 0 18446744073709551615 = (((findW xs).length : Int), 0 + (numB (findW xs).length).length, 0) := numR_of (rest := txtB (findW xs) ++ applyW (findW xs) xs) (by omega) (by omega) (by rw [List.drop_zero]; exact hp)
  have hd : ys.drop (0 + (numB (findW xs).length).length) = txtB (findW xs) ++ applyW (findW xs) xs := by rw [Nat.zero_add, hp, List.drop_left]
  have hle : 0 + (numB (findW xs).length).length ≤ ys.length := by rw [hp, List.length_append]; omega
  have hw := wordsR_of hlet hle hd (findW xs).length (Nat.le_refl _)
  rw [List.take_length] at hw
  unfold unpackWd
  rw [hnum]
  dsimp only
  rw [if_neg (show ¬ ((0 : Int) ≠ 0) from fun h => h rfl), if_neg (by omega), Int.toNat_natCast, hw]
  dsimp only
  rw [← List.drop_drop, hd, List.drop_left, undo_apply _ hrg.1 hx]
  have hxl : xs.length ≤ 1048576 := by omega
  by_cases h : (xs.length : Int) > (if 0 > limit then 0 else limit)
  · rw [if_pos h, if_pos (by split at h <;> (try split) <;> (try split) <;> omega)]
  · rw [if_neg h, if_neg (by split at h <;> (try split) <;> (try split) <;> omega)]
section
variable {w : World}
theorem packWd_len {xs : List Int} (hl : xs.length ≤ 1048576) : (packWd xs).1.length ≤ 5000000 := by
  have hrg := findW_rg xs
  have h1 := applyW_len (findW xs) xs
  have h2 := txtB_len (L := findW xs) fun u hu => (hrg.2 u hu).2
  have h3 : (numB (findW xs).length).length ≤ 10 := numB_len64 (by omega)
  unfold packWd
  split
  · exact Nat.zero_le _
  · simp only [List.length_append]; omega
theorem WordsBack_law {b : Value} {xs : List Int} (hb : Nm .u8 w b xs) : Calls P n_valiselaw21_WordsBack #[b] w (Holds w) := by
  refine of_valiselaw21_WordsBack (gLen_nm hb (gIf_dec (fun _ => awake21_end (Ch.refl _ w)) (fun hgt => ?_)))
  have hl : xs.length ≤ 3000 := by omega
  have hpl := packWd_len (xs := xs) (by omega)
  refine gCall_of (wPack_any hb (by omega)) ?_
  rintro _ w2 ⟨x, rfl, h2, nx⟩
  have none : (packWd xs).2 = false → ∀ {w3 : World}, Ev w2 w3 → gCall P n_valiselaw21_awake shB #[] w3 fun (t27 : Bool) ww6 => gIf t27 (gCall P n_words_Find shV #[b] ww6 fun (t30 : Value) ww7 => gLen P t_sl_sl_uint8 t30 fun (t31 : Nat) => Holds w (.returned (.bool ((t31 : Int) == 0))) ww7) (Holds w (.returned (.bool false)) ww6) := fun hf w3 h3 => by
    refine gCall_b awake21_any fun w4 h4 => gIf_t (gCall_of (Find_any (hb.ev (h2.trans (h3.trans h4))) (by omega)) ?_)
    intro e w5 hF
    obtain ⟨t9, T, rfl, hT, f5, hN⟩ := hF.nl
    have h0 : findW xs = [] := Decidable.byContradiction fun hne => by unfold packWd at hf; rw [if_neg (fun h => h.elim hne (by omega))] at hf; cases hf
    rw [h0] at hN
    exact ⟨t9, rfl, gLen_nl hN ⟨rfl, h2.trans (h3.trans (h4.trans f5.old))⟩⟩
  refine ⟨_, _, rfl, fun w' => Ev w2 w' ∧ (packWd xs).2 = true, gCall_b awake21_any fun w3 h3 => gIf_nn (gIf_nb (fun hf => none hf h3) (fun ht => ⟨h3, ht⟩)), ?_⟩
  rintro _ w3 ⟨h3, hok⟩
  have un := unpack_packWd hb.2 hok
  have nb3 := hb.ev (h2.trans h3)
  have nx3 := nx.nm.ev h3
  have U : ∀ {w' : World} (m : Int), Nm .u8 w' x (packWd xs).1 → Calls P n_words_Unpack #[x, .int .i64 m] w' (TupE w' (if (xs.length : Int) > (if 0 > m then 0 else m) then ([], 5) else (xs, 0))) := fun m hn => by
    rw [← un m]; exact wUnpack_any hn (by omega)
  have hpos : 1 ≤ xs.length := by
    refine Decidable.byContradiction fun hc => ?_
    have : xs = [] := List.eq_nil_of_length_eq_zero (by omega)
    subst this
    have hf : findW [] = [] := by
      refine List.eq_nil_iff_forall_not_mem.2 fun u hu => ?_
      unfold findW at hu
      obtain ⟨s, hs, _⟩ := List.mem_map.1 hu
      have := ((findU_sub _).2 s hs).1; cases this
    unfold packWd at hok
    rw [if_pos (.inl hf)] at hok; cases hok
  have U1 := U (xs.length : Int) nx3
  rw [if_neg (show ¬ ((xs.length : Int) > (if 0 > (xs.length : Int) then 0 else (xs.length : Int))) by omega)] at U1
  refine gLen_nm nb3 (gCall_of U1 ?_)
  rintro _ w4 ⟨c, rfl, h4, nc⟩
  refine ⟨_, _, rfl, gLen_nm (nb3.ev h4) ?_⟩
  rw [i64_id (n := (xs.length : Int) - 1) (by omega) (by omega)]
  have U2 := U ((xs.length : Int) - 1) (nx3.ev h4)
  rw [if_pos (show ((xs.length : Int) > (if 0 > (xs.length : Int) - 1 then 0 else (xs.length : Int) - 1)) by omega)] at U2
  refine gCall_of U2 ?_
  rintro _ w5 ⟨d, rfl, h5, nd⟩
  refine ⟨_, _, rfl, gCall_of (Find_any (nb3.ev (h4.trans h5)) (by omega)) ?_⟩
  intro e w6 hF
  obtain ⟨t50, T, rfl, hT, f6, hN⟩ := hF.nl
  have h6 := f6.old
  have hrg := findW_rg xs
  refine ⟨t50, rfl, gCall_of (Apply_any (nb3.ev (h4.trans (h5.trans h6))) (by omega) hN) ?_⟩
  rintro _ w7 ⟨t54, rfl, h7, o7⟩
  have hal := applyW_len (findW xs) xs
  rw [List.take_of_length_le hrg.1] at o7
  have h47 := h4.trans (h5.trans (h6.trans h7))
  refine ⟨t54, rfl, gLen_nm (nb3.ev h47) (gCall_of (Undo_any (limit := (xs.length : Int)) o7.nm (by omega) (hN.ev h7) (fun u hu => by have := hrg.2 u hu; omega)) ?_)⟩
  rintro _ w8 ⟨g, rfl, h8, ng⟩
  rw [undo_apply _ hrg.1 hb.2, if_neg (show ¬ ((xs.length : Int) > (if 0 > (xs.length : Int) then 0 else (xs.length : Int))) by omega)] at ng ⊢
  have h48 := h47.trans h8
  have hev := h2.trans (h3.trans h48)
  exact ⟨_, _, rfl, gIf_eq (fun _ => gCall_b0 (Bytes_any (nb3.ev h48) (nc.nm.ev (h5.trans (h6.trans (h7.trans h8))))) (gIf_dec (fun _ => gIf_eq (fun _ => gIf_eq (fun _ => gCall_b0 (Bytes_any ng.nm (nb3.ev h48)) ⟨by rw [decide_eq_true rfl], hev⟩) (fun h => (h rfl).elim)) (fun h => (h rfl).elim)) (fun h => (h rfl).elim))) (fun h => (h rfl).elim)⟩
end
end Go.Proofs.YtijimpchglmkhaaV

/- The law WordsMany. -/
namespace Go.Proofs.YtijimpchglmkhaaV
open Go Go.RowKit
def wM (i : Nat) : List UInt8 := [UInt8.ofNat (97 + i / 26), UInt8.ofNat (97 + i % 26), 120, 121]
def wI (i : Nat) : List Int := [97 + ((i / 26 : Nat) : Int), 97 + ((i % 26 : Nat) : Int), 120, 121]
def blkM (n : Nat) : List Int := ((List.range n).map fun i => wI i ++ [32]).flatten
def manyW (n : Nat) : List (List UInt8) := (List.range n).map wM
theorem blkM_succ (n : Nat) : blkM (n + 1) = blkM n ++ (wI n ++ [32]) := by unfold blkM; rw [List.range_succ, List.map_append, List.flatten_append]; simp
theorem blkM_len : ∀ n, (blkM n).length = 5 * n
  | 0 => rfl
  | n + 1 => by rw [blkM_succ, List.length_append, blkM_len n]; simp [wI]; omega
theorem iU_wM {i : Nat} (h : i < 120) : iU (wM i) = wI i := by
  unfold iU wM wI
  simp only [List.map_cons, List.map_nil, UInt8.toNat_ofNat']
  have h1 : (97 + i / 26) % 2 ^ 8 = 97 + i / 26 := Nat.mod_eq_of_lt (by omega)
  have h2 : (97 + i % 26) % 2 ^ 8 = 97 + i % 26 := Nat.mod_eq_of_lt (by omega)
  rw [h1, h2]; rfl
theorem bU_iU (l : List UInt8) : bU (iU l) = l := iU_inj (by rw [iU_bU (iU_u8 l)])
theorem wordsU_blk : ∀ (n : Nat) (rest : List Int), n ≤ 120 → wordsU (blkM n ++ rest) = manyW n ++ wordsU rest
  | 0, rest, _ => by simp [blkM, manyW]
  | n + 1, rest, h => by
    have hlet : ∀ x ∈ wI n, letB x = true := fun x hx => by
      unfold wI at hx
      simp only [List.mem_cons, List.not_mem_nil, or_false] at hx
      unfold letB
      rcases hx with rfl | rfl | rfl | rfl <;> exact decide_eq_true (by omega)
    have e : blkM (n + 1) ++ rest = blkM n ++ (wI n ++ 32 :: rest) := by rw [blkM_succ]; simp
    have hb : bU (wI n) = wM n := by rw [← iU_wM (by omega), bU_iU]
    rw [e, wordsU_blk n _ (by omega), wordsU_word hlet (by decide), if_pos (by simp [wI]), hb]
    unfold manyW
    rw [List.range_succ, List.map_append]; simp
theorem wM_lt {i j : Nat} (h : i < j) (hj : j < 120) : wM i < wM j := by
  have e : ∀ q : Nat, q < 100 → (UInt8.ofNat (97 + q)).toNat = 97 + q := fun q hq => by rw [UInt8.toNat_ofNat']; exact Nat.mod_eq_of_lt (by omega)
  have h1 := e (i / 26) (by omega)
  have h2 := e (j / 26) (by omega)
  have h3 := e (i % 26) (by omega)
  have h4 := e (j % 26) (by omega)
  unfold wM
  rw [List.cons_lt_cons_iff, List.cons_lt_cons_iff]
  by_cases hq : i / 26 < j / 26
  · exact .inl (UInt8.lt_iff_toNat_lt.2 (by omega))
  · have he : i / 26 = j / 26 := by omega
    refine .inr ⟨by rw [he], .inl (UInt8.lt_iff_toNat_lt.2 (by omega))⟩
theorem manyW_up (n : Nat) (hn : n ≤ 120) : (manyW n).Pairwise (· < ·) := by
  unfold manyW
  rw [List.pairwise_map]
  refine (List.pairwise_lt_range (n := n)).imp_of_mem fun {a b} ha hb h => wM_lt h (by have := List.mem_range.1 hb; omega)
theorem manyW_nodup (n : Nat) (hn : n ≤ 120) : (manyW n).Nodup := (manyW_up n hn).imp fun {a b} h e => by subst e; exact lt_irrU a h
theorem findU_many (n : Nat) (hn : n ≤ 120) : findU (manyW n ++ manyW n) = (manyW n).take 64 := by
  have hc : ∀ s ∈ manyW n, (manyW n ++ manyW n).count s = 2 := fun s hs => by
    rw [List.count_append, (manyW_nodup n hn).count, if_pos hs]
  have hlen : ∀ s ∈ manyW n, s.length = 4 := fun s hs => by
    unfold manyW at hs
    obtain ⟨i, _, rfl⟩ := List.mem_map.1 hs
    rfl
  have hsort : sortedU (manyW n ++ manyW n) = manyW n := by
    refine rise_eq (fun x => (manyW n ++ manyW n).count x) (sortedU_rise _) ((manyW_up n hn).imp_of_mem fun {a b} ha hb h => ltU_iff.2 (.inr ⟨?_, h⟩)) fun x => by rw [mem_sortedU, List.mem_append]; simp
    unfold wth
    simp only [hc a ha, hc b hb, hlen a ha, hlen b hb]
  unfold findU
  rw [hsort, List.filter_eq_self.2 fun s hs => by rw [hc s hs]; decide]
def highN (xs : List Int) : Nat := xs.countP fun c => decide (c ≥ 128)
theorem tokW_high {L : List (List Int)} {xs : List Int} (h : xs ≠ []) : (tokW L xs).length ≤ mxR xs + highN (xs.take (mxR xs)) := by
  have h0 : 0 < xs.length := List.length_pos_iff.2 h
  have h1 := mxR_pos xs
  unfold tokW
  split
  · simp; omega
  · split
    · rw [List.length_take]; unfold mxR; split <;> omega
    · rename_i h2
      have hm : mxR xs = 1 := by unfold mxR; rw [if_pos (by omega)]
      rw [hm]
      match xs, h0 with
      | c :: r, _ =>
        have e : rd (c :: r) 0 = c := rfl
        rw [e]
        by_cases h3 : c ≥ 128
        · rw [if_pos h3]; simp [highN, h3]
        · rw [if_neg h3]; simp
theorem apply_high (L : List (List Int)) : ∀ (n : Nat) (xs : List Int), xs.length ≤ n → (applyW L xs).length ≤ xs.length + highN xs
  | 0, xs, h => by
    obtain rfl : xs = [] := List.eq_nil_of_length_eq_zero (by omega)
    exact Nat.zero_le _
  | n + 1, xs, h => by
    by_cases he : xs = []
    · subst he; exact Nat.zero_le _
    have h0 : 0 < xs.length := List.length_pos_iff.2 he
    have h1 := mxR_pos xs
    have h2 : mxR xs ≤ xs.length := by unfold mxR; have := runN_le xs; split <;> omega
    have ih := apply_high L n (xs.drop (mxR xs)) (by rw [List.length_drop]; omega)
    have ht := tokW_high (L := L) he
    have hs : highN xs = highN (xs.take (mxR xs)) + highN (xs.drop (mxR xs)) := by
      unfold highN
      rw [← List.countP_append, List.take_append_drop]
    rw [List.length_drop] at ih
    rw [applyW_step he, List.length_append]; omega
section
variable {w : World}
theorem WordsMany_law {b : Value} {xs : List Int} {n0 : Int} (_ : IntKind.i64.min ≤ n0 ∧ n0 ≤ IntKind.i64.max) (hb : Nm .u8 w b xs) (hbig : xs.length ≤ maxLen) : Calls P n_valiselaw21_WordsMany #[.int .i64 n0, b] w (Holds w) := by
  have un : 0 ≤ u64 n0 := by rw [u64_def]; omega
  obtain ⟨n, en, hn⟩ : ∃ n : Nat, i64 (Int.tmod (u64 n0) 120) = (n : Int) ∧ n ≤ 119 := by
    refine ⟨(u64 n0 % 120).toNat, ?_, by omega⟩
    rw [Int.tmod_eq_emod_of_nonneg un, i64_id (by omega) (by omega)]; omega
  refine of_valiselaw21_WordsMany ⟨fun all k w' => ∃ q : Nat, k = (q : Int) ∧ q ≤ 2 ∧ Fr w w' [oIt .u8 eB all ((List.replicate q (blkM n)).flatten)], fun _ k _ => (2 - k).toNat, ⟨0, rfl, by omega, (Fr.start w).nil0 .u8 eB⟩, ?_⟩
  rw [en]
  rintro _ all k w1 ⟨q, rfl, hq, f1⟩
  have hbl := blkM_len n
  have hfl : ((List.replicate q (blkM n)).flatten).length = q * (5 * n) := by rw [List.length_flatten, List.map_replicate, List.sum_replicate_nat, hbl]
  have hqn : q * (5 * n) ≤ 2 * (5 * 119) := Nat.mul_le_mul hq (by omega)
  refine gIf_dec (fun hlt => ?_) (fun hge => ?_)
  · refine ⟨fun all i w' => ∃ p : Nat, i = (p : Int) ∧ p ≤ n ∧ Fr w w' [oIt .u8 eB all ((List.replicate q (blkM n)).flatten ++ blkM p)], fun _ i _ => (n - i).toNat, ⟨0, rfl, Nat.zero_le _, by rw [show blkM 0 = [] from rfl, List.append_nil]; exact f1⟩, ?_⟩
    rintro _ all2 i w2 ⟨p, rfl, hp, f2⟩
    have hpl := blkM_len p
    refine gIf_dec (fun hlt2 => ?_) (fun hge2 => ?_)
    · have e1 : u8 (97 + u8 (i64 (Int.tdiv (p : Int) 26))) = 97 + ((p / 26 : Nat) : Int) := by
        rw [Int.tdiv_eq_ediv_of_nonneg (by omega), i64_id (by omega) (by omega), u8_def, u8_def]; omega
      have e2 : u8 (97 + u8 (Int.tmod (p : Int) 26)) = 97 + ((p % 26 : Nat) : Int) := by
        rw [Int.tmod_eq_emod_of_nonneg (by omega), u8_def, u8_def]; omega
      rw [e1, e2]
      refine fLit_n (wI p) f2 rfl rfl (fun y hy => ?_) fun t w3 f3 => fApp f3 1 rfl (f3.nm 0 rfl) (by rw [List.length_append, hfl, hpl, show (wI p).length = 4 from rfl]; omega) fun v4 w4 f4 => fAppB rfl (f4.picksN 2 [1] (by decide) (by decide)) (by decide) (by rw [List.length_append, List.length_append, hfl, hpl, show (wI p).length = 4 from rfl]; omega) fun v5 w5 f5 => ⟨⟨p + 1, by rw [i64_id (by omega) (by omega)]; omega, by omega, ?_⟩, by dsimp only; rw [i64_id (by omega) (by omega)]; omega⟩
      · unfold wI at hy
        simp only [List.mem_cons, List.not_mem_nil, or_false] at hy
        rcases hy with rfl | rfl | rfl | rfl <;> exact u8i (by omega)
      · rw [blkM_succ]; simpa [List.append_assoc] using f5
    · obtain rfl : p = n := by omega
      refine ⟨⟨q + 1, by rw [i64_id (by omega) (by omega)]; omega, by omega, ?_⟩, by dsimp only; rw [i64_id (by omega) (by omega)]; omega⟩
      rw [List.replicate_succ', List.flatten_append]; simpa using f2
  obtain rfl : q = 2 := by omega
  have h2e : (List.replicate 2 (blkM n)).flatten = blkM n ++ (blkM n ++ []) := by simp [List.replicate]
  have hwd : wordsU ((List.replicate 2 (blkM n)).flatten) = manyW n ++ manyW n := by
    rw [h2e, wordsU_blk n _ (by omega), wordsU_blk n _ (by omega), wordsU_nil, List.append_nil]
  refine gCall_of (Find_any (f1.nm 0 rfl) (by omega)) ?_
  intro e w2 hF
  obtain ⟨t44, T, rfl, hT, g2, hN⟩ := hF.nl
  have hfw : findW ((List.replicate 2 (blkM n)).flatten) = ((manyW n).take 64).map iU := by unfold findW; rw [hwd, findU_many n (by omega)]
  rw [hfw] at hT hN
  obtain ⟨L, hL⟩ : ∃ L, L = ((manyW n).take 64).map iU := ⟨_, rfl⟩
  rw [← hL] at hT hN
  have hLl : L.length = min 64 n := by rw [hL]; simp [manyW]
  have f2 := f1.glue g2
  have e2 := f2.old
  have hmin : (if (64 : Int) < (n : Int) then (64 : Int) else (n : Int)) = ((min 64 n : Nat) : Int) := by split <;> omega
  rw [hmin]
  refine ⟨t44, rfl, fun w' => Ev w2 w' ∧ xs.length ≤ 2000, ?_, ?_⟩
  · refine gCall_b awake21_any fun w3 h3 => gIf_nn (gLen_nl (hN.ev h3) (gIf_nneq (fun heq => gLen_nm (hb.ev (e2.trans h3)) (gIf_dec (fun hgt => gCall_b awake21_any fun w4 h4 => gIf_t (gLen_nm (hb.ev (e2.trans (h3.trans h4))) ⟨by rw [decide_eq_true hgt], e2.trans (h3.trans h4)⟩)) (fun hle => ⟨h3, by omega⟩))) (fun hne => absurd (by omega) hne)))
  rintro _ w3 ⟨h3, hl⟩
  have hN3 := hN.ev h3
  have nb3 := hb.ev (e2.trans h3)
  refine ⟨fun i w' => ∃ q : Nat, i = (q : Int) ∧ 1 ≤ q ∧ (q ≤ L.length ∨ q = 1) ∧ Ev w3 w', fun i _ => (100 - i).toNat, ⟨1, rfl, Nat.le_refl _, .inr rfl, Ch.refl _ _⟩, ?_⟩
  rintro _ i w4 ⟨q, rfl, hq1, hqL, h4⟩
  refine gLen_nl (hN3.ev h4) (gIf_dec (fun hlt => ?_) (fun hge => ?_))
  · obtain ⟨us, s1, s2⟩ := hN3.ev h4
    have hq : q < L.length := by omega
    rw [i64_id (n := (q : Int) - 1) (by omega) (by omega)]
    refine ⟨fun w' => w' = w4.drew, rfl, ?_⟩
    refine gIdx_1 s1 (by omega) (by omega) fun a1 u1 hu1 hc1 _ => gLoadB_v (fun w' h => by rw [h]; exact hc1) (gIdx_1 s1 (by omega) (by omega) fun a2 u2 hu2 hc2 _ => gLoadB_v (fun w' h => by rw [h]; exact hc2) ?_)
    have hk1 : ((q : Int) - 1).toNat = q - 1 := by omega
    rw [hk1] at hu1
    rw [Int.toNat_natCast] at hu2
    have n1 := s2 (q - 1) u1 L[q - 1] hu1 (List.getElem?_eq_getElem (by omega))
    have n2 := s2 q u2 L[q] hu2 (List.getElem?_eq_getElem hq)
    have hlt3 : Op.bytesLess (bsOf L[q - 1]).toList (bsOf L[q]).toList = true := by
      have el : ∀ (j : Nat) (hj : j < L.length), L[j] = iU (wM j) := fun j hj => by simp only [hL, List.getElem_map, List.getElem_take, manyW, List.getElem_range]
      rw [el (q - 1) (by omega), el q hq, bsOf_mk, bsOf_mk, bU_iU, bU_iU, tl_mk, tl_mk]
      exact bytesLess_iff.2 (wM_lt (by omega) (by omega))
    have fin : gIf (!(Op.bytesLess (bsOf L[q - 1]).toList (bsOf L[q]).toList)) (Holds w (.returned (.bool false)) w4.drew) ((∃ q' : Nat, i64 ((q : Int) + 1) = (q' : Int) ∧ 1 ≤ q' ∧ (q' ≤ L.length ∨ q' = 1) ∧ Ev w3 w4.drew) ∧ (100 - i64 ((q : Int) + 1)).toNat < (100 - (q : Int)).toNat) := by
      rw [hlt3]
      refine gIf_nt ⟨⟨q + 1, by rw [i64_id (by omega) (by omega)]; omega, by omega, .inl (by omega), h4.trans (Ev.drew0 w4)⟩, by rw [i64_id (by omega) (by omega)]; omega⟩
    exact ⟨gConv_bs (n1.drew) ⟨rfl, gConv_bs (n2.drew) ⟨rfl, fin⟩⟩, gConv_bs (n2.drew) ⟨rfl, gConv_bs (n1.drew) ⟨rfl, fin⟩⟩⟩
  · have nb4 := nb3.ev h4
    refine ⟨fun hi i w' => ∃ q : Nat, i = (q : Int) ∧ q ≤ xs.length ∧ hi = (highN (xs.take q) : Nat) ∧ w' = w4, fun _ i _ => (xs.length - i).toNat, ⟨0, rfl, Nat.zero_le _, rfl, rfl⟩, ?_⟩
    rintro _ hi i w5 ⟨r, rfl, hr, rfl, hw5⟩
    obtain rfl : w4 = w5 := hw5.symm
    have hhl : highN (xs.take r) ≤ 2000 := by
      have := List.countP_le_length (p := fun c => decide (c ≥ (128 : Int))) (l := xs.take r)
      unfold highN; rw [List.length_take] at this; omega
    refine gLen_nm nb4 (gIf_dec (fun hlt => gGet nb4 (by omega) (by omega) ?_) (fun hge => ?_))
    · have hnx : highN (xs.take (r + 1)) = highN (xs.take r) + (if rd xs (r : Int) ≥ 128 then 1 else 0) := by
        unfold highN
        rw [List.take_succ_eq_append_getElem (by omega), List.countP_append, rd_nat xs r (by omega)]
        by_cases h : xs[r] ≥ 128
        · rw [if_pos h, List.countP_cons_of_pos (by simpa using h)]; rfl
        · rw [if_neg h, List.countP_cons_of_neg (by simpa using h)]; rfl
      refine gIf_dec (fun h128 => ?_) (fun h128 => ?_)
      · rw [if_pos h128] at hnx
        exact ⟨⟨r + 1, by rw [i64_id (by omega) (by omega)]; omega, by omega, by rw [hnx, i64_id (by omega) (by omega)]; omega, rfl⟩, by dsimp only; rw [i64_id (n := (r : Int) + 1) (by omega) (by omega)]; omega⟩
      · rw [if_neg h128] at hnx
        exact ⟨⟨r + 1, by rw [i64_id (by omega) (by omega)]; omega, by omega, by rw [hnx]; rfl, rfl⟩, by dsimp only; rw [i64_id (n := (r : Int) + 1) (by omega) (by omega)]; omega⟩
    · obtain rfl : r = xs.length := by omega
      rw [List.take_length] at hhl ⊢
      have hN4 := hN3.ev h4
      have hLu : ∀ u ∈ L, u.length ≤ 100000 := fun u hu => by
        rw [hL] at hu
        obtain ⟨s, hs, rfl⟩ := List.mem_map.1 hu
        have hs := List.mem_of_mem_take hs
        unfold manyW at hs
        obtain ⟨i, _, rfl⟩ := List.mem_map.1 hs
        rw [iU_len]; simp [wM]
      refine gCall_of (Apply_any nb4 (by omega) hN4) ?_
      rw [List.take_of_length_le (show L.length ≤ 64 by omega)]
      rintro _ w6 ⟨t98, rfl, h6, o6⟩
      have hal := applyW_len L xs
      have hah := apply_high L xs.length xs (Nat.le_refl _)
      refine ⟨t98, rfl, gLen_nm (nb4.ev h6) (gCall_of (Undo_any (limit := (xs.length : Int)) o6.nm (by omega) (hN4.ev h6) hLu) ?_)⟩
      rintro _ w7 ⟨g, rfl, h7, ng⟩
      rw [undo_apply _ (show L.length ≤ 64 by omega) hb.2, if_neg (show ¬ ((xs.length : Int) > (if 0 > (xs.length : Int) then 0 else (xs.length : Int))) by omega)] at ng ⊢
      refine ⟨_, _, rfl, gLen_nm (o6.nm.ev h7) (gLen_nm (nb4.ev (h6.trans h7)) ?_)⟩
      rw [i64_id (n := (xs.length : Int) + ((highN xs : Nat) : Int)) (by omega) (by omega)]
      exact gIf_dec (fun _ => gIf_eq (fun _ => gCall_b0 (Bytes_any ng.nm (nb4.ev (h6.trans h7))) ⟨by rw [decide_eq_true rfl], e2.trans (h3.trans (h4.trans (h6.trans h7)))⟩) (fun h => (h rfl).elim)) (fun h => absurd (by omega) h)
end
end Go.Proofs.YtijimpchglmkhaaV

/- The other form of words: letters, runs, worth, what stands ahead; rows of counted words. -/
namespace Go.Proofs.YtijimpchglmkhaaV
open Go Go.RowKit
section
variable {w0 w : World} {F : List It}
theorem gSlice_slv {t : TypeId} {sz n : Nat} {v : Value} {cs : List Value} {lo hi : Option Value} {K : Value → Prop} (h : Sl w sz v n cs) (l m : Nat) (hlo : (lo = none ∧ l = 0) ∨ (∃ k, lo = some (.int k l))) (hhi : (hi = none ∧ m = n) ∨ (∃ k, hi = some (.int k m))) (hl : l ≤ m) (hm : m ≤ n)
    (hk : Sl w sz (subV sz v l m) (m - l) ((cs.drop (l * sz)).take ((m - l) * sz)) → K (subV sz v l m)) (ht : slSz P t sz = true := by kernel_rfl) : gSlice P t v lo hi none K := by
  have hs := h.sub l m hl hm
  obtain ⟨a, c, rfl, hc, _⟩ := h
  exact gSlice_any hlo hhi hl (by omega) (hk hs) ht
theorem rd_from (xs : List Int) (p k : Nat) : rd (xs.drop p) (k : Int) = rd xs ((p + k : Nat) : Int) := by
  simp only [rd, List.getD_eq_getElem?_getD, List.getElem?_drop, Int.toNat_natCast]
theorem refLetter_any {c : Int} : Calls P n_valiseref21_letter #[.int .u8 c] w (fun e w' => e = .returned (.bool (letB c)) ∧ w' = w) := by
  refine of_valiseref21_letter (gIf_dec (fun h1 => gIf_ndec (fun h2 => gIf_dec (fun h3 => ⟨?_, rfl⟩) (fun h3 => ⟨?_, rfl⟩)) (fun h2 => ⟨?_, rfl⟩)) (fun h1 => gIf_dec (fun h3 => ⟨?_, rfl⟩) (fun h3 => ⟨?_, rfl⟩)))
  all_goals
    unfold letB
    congr 2
    first | exact (decide_eq_true (by omega)).symm | exact (decide_eq_false (by omega)).symm | exact decide_eq_decide.2 (by omega)
theorem refRun_any {b : Value} {xs : List Int} {p : Nat} (hb : Nm .u8 w b xs) (hp : p ≤ xs.length) (hl : xs.length ≤ 1000000000) : Calls P n_valiseref21_run #[b, .int .i64 (p : Int)] w (fun e w' => e = .returned (.int .i64 ((p + runN (xs.drop p) : Nat) : Int)) ∧ w' = w) := by
  have hdl : (xs.drop p).length = xs.length - p := List.length_drop
  refine of_valiseref21_run ⟨fun i w' => ∃ k : Nat, i = ((p + k : Nat) : Int) ∧ p + k ≤ xs.length ∧ (∀ j, j < k → letB (rd (xs.drop p) (j : Int)) = true) ∧ w' = w, fun i _ => xs.length - i.toNat, ⟨0, rfl, hp, (fun j h => by omega), rfl⟩, ?_⟩
  rintro _ i _ ⟨k, rfl, hk, hall, rfl⟩
  refine gLen_nm hb (gIf_dec (fun hlt => gGet hb (by omega) (by omega) (gCall_b0 refLetter_any ?_)) (fun hge => ?_))
  · rw [← rd_from]
    refine gIf_b (fun h => ?_) (fun h => ?_)
    · refine ⟨⟨k + 1, by rw [i64_id (by omega) (by omega)]; omega, by omega, fun j hj => ?_, rfl⟩, by dsimp only; rw [i64_id (by omega) (by omega)]; omega⟩
      by_cases hjk : j = k
      · subst hjk; exact h
      · exact hall j (by omega)
    · rw [runN_at (xs := xs.drop p) (k := k) (by omega) hall fun _ => h]; exact ⟨rfl, rfl⟩
  · rw [runN_at (xs := xs.drop p) (k := k) (by omega) hall fun h => by omega]; exact ⟨rfl, rfl⟩
theorem refWorth_any {v : Value} {s : List UInt8} {c : List UInt8 → Nat} (hv : Nm .u8 w v (iU s)) (hs : s.length ≤ 24) (hc : c s ≤ 1000000000) : Calls P n_valiseref21_Counted_worth #[.agg #[v, .int .i64 (c s : Nat)]] w (fun e w' => e = .returned (.int .i64 (wth c s)) ∧ Ev w w') := by
  refine of_valiseref21_Counted_worth (fBox (Fr.start w) fun ad w1 f => ?_)
  have f : Fr w w1 [sIt ad [v, .int .i64 (c s : Nat)]] := f
  refine fLoad_i f 0 1 rfl rfl (fLoad_v f 0 0 rfl rfl (gLen_nm (hv.ev f.old) ⟨?_, f.old⟩))
  unfold wth
  rw [iU_len]
  have hk : ((s.length : Nat) : Int) ≤ 24 := by omega
  rw [i64_id (n := ((c s : Nat) : Int) - 1) (by omega) (by omega)]
  have b1 : -24 ≤ (((c s : Nat) : Int) - 1) * ((s.length : Nat) : Int) ∧ (((c s : Nat) : Int) - 1) * ((s.length : Nat) : Int) ≤ 24000000000 := by
    generalize c s = k at *
    by_cases h0 : k = 0
    · subst h0; omega
    · have a := Int.mul_nonneg (show 0 ≤ (k : Int) - 1 by omega) (show 0 ≤ (s.length : Int) by omega)
      have b := Int.mul_le_mul (show (k : Int) - 1 ≤ 1000000000 by omega) hk (by omega) (by omega)
      omega
  rw [i64_id (by omega) (by omega)]
theorem refAhead_any {v y : Value} {s t : List UInt8} {c : List UInt8 → Nat} (hv : Nm .u8 w v (iU s)) (hy : Nm .u8 w y (iU t)) (hs : s.length ≤ 24) (ht : t.length ≤ 24) (hc : c s ≤ 1000000000) (hd : c t ≤ 1000000000) :
    Calls P n_valiseref21_ahead #[.agg #[v, .int .i64 (c s : Nat)], .agg #[y, .int .i64 (c t : Nat)]] w (fun e w' => e = .returned (.bool (ltU c s t)) ∧ Ev w w') := by
  refine of_valiseref21_ahead (fBox (Fr.start w) fun a2 w1 f1 => fBox f1 fun b3 w2 f2 => ?_)
  have f2 : Fr w w2 [sIt b3 [y, .int .i64 (c t : Nat)], sIt a2 [v, .int .i64 (c s : Nat)]] := f2
  have fd := f2.drew
  have la : ∀ w', Fr w w' [sIt b3 [y, .int .i64 (c t : Nat)], sIt a2 [v, .int .i64 (c s : Nat)]] → ∀ j u, [v, Value.int .i64 (c s : Nat)][j]? = some u → w'.cell? (a2.add j) = some u := fun w' h j u hj => h.cell 1 j rfl hj
  have lb : ∀ w', Fr w w' [sIt b3 [y, .int .i64 (c t : Nat)], sIt a2 [v, .int .i64 (c s : Nat)]] → ∀ j u, [y, Value.int .i64 (c t : Nat)][j]? = some u → w'.cell? (b3.add j) = some u := fun w' h j u hj => h.cell 0 j rfl hj
  refine ⟨fun w' => Fr w w' [sIt b3 [y, .int .i64 (c t : Nat)], sIt a2 [v, .int .i64 (c s : Nat)]], fd, gLoadB_agg _ la (gLoadB_agg _ lb (gCall_i (refWorth_any (hv.ev fd.old) hs hc) fun w3 h3 => ⟨fd.ev h3, gCall_i (refWorth_any (hy.ev (fd.ev h3).old) ht hd) fun w4 h4 => ⟨(fd.ev h3).ev h4, ?_⟩⟩))⟩
  have f4 := (fd.ev h3).ev h4
  refine gIf_neq (fun hne => ?_) (fun he => ?_)
  · have f4d := f4.drew
    refine ⟨fun w' => Fr w w' [sIt b3 [y, .int .i64 (c t : Nat)], sIt a2 [v, .int .i64 (c s : Nat)]], f4d, gLoadB_agg _ la (gLoadB_agg _ lb (gCall_i (refWorth_any (hv.ev f4d.old) hs hc) fun w5 h5 => ⟨f4d.ev h5, gCall_i (refWorth_any (hy.ev (f4d.ev h5).old) ht hd) fun w6 h6 => ⟨(f4d.ev h5).ev h6, ?_, ((f4d.ev h5).ev h6).old⟩⟩))⟩
    congr 2
    by_cases h : wth c s > wth c t
    · rw [decide_eq_true h, ltU_iff.2 (.inl h)]
    · rw [decide_eq_false h]
      cases hh : ltU c s t with
      | false => rfl
      | true => rcases ltU_iff.1 hh with h1 | h1 <;> omega
  · refine fLoad_v f4 1 0 rfl rfl (gConv_bs (hv.ev f4.old) (fLoad_v f4 0 0 rfl rfl (gConv_bs (hy.ev f4.old) ⟨?_, f4.old⟩)))
    rw [bsOf_mk, bsOf_mk, tl_mk, tl_mk, bU_iU, bU_iU]
    congr 2
    cases hh : Op.bytesLess s t with
    | true => exact (ltU_iff.2 (.inr ⟨he.symm, bytesLess_iff.1 hh⟩)).symm
    | false =>
      cases h2 : ltU c s t with
      | false => rfl
      | true =>
        rcases ltU_iff.1 h2 with h1 | h1
        · omega
        · rw [bytesLess_iff.2 h1.2] at hh; cases hh
/-! ### Rows of counted words -/
noncomputable abbrev eC : TypeId := elOf P t_sl_valiseref21_Counted
/-- A word's value, the word, how often it comes. -/
abbrev Ct := Value × List UInt8 × Nat
def cellsC : List Ct → List Value
  | [] => []
  | u :: T => u.1 :: .int .i64 (u.2.2 : Nat) :: cellsC T
theorem cellsC_app (S T : List Ct) : cellsC (S ++ T) = cellsC S ++ cellsC T := by
  induction S with
  | nil => rfl
  | cons u S ih => rw [List.cons_append, cellsC, cellsC, ih]; rfl
theorem cellsC_len : ∀ T : List Ct, (cellsC T).length = T.length * 2
  | [] => rfl
  | u :: T => by rw [cellsC, List.length_cons, List.length_cons, cellsC_len T, List.length_cons]; omega
theorem cellsC_at : ∀ {T : List Ct} {k : Nat} {u : Ct}, T[k]? = some u → (cellsC T)[k * 2 + 0]? = some u.1 ∧ (cellsC T)[k * 2 + 1]? = some (.int .i64 (u.2.2 : Nat))
  | t :: T, 0, u, h => by simp at h; subst h; exact ⟨rfl, rfl⟩
  | t :: T, k + 1, u, h => by
    have := cellsC_at (T := T) (k := k) (u := u) (by simpa using h)
    rw [cellsC, show (k + 1) * 2 + 0 = k * 2 + 0 + 1 + 1 by omega, show (k + 1) * 2 + 1 = k * 2 + 1 + 1 + 1 by omega, List.getElem?_cons_succ, List.getElem?_cons_succ, List.getElem?_cons_succ, List.getElem?_cons_succ]
    exact this
theorem cellsC_take : ∀ (T : List Ct) (k : Nat), (cellsC T).take (k * 2) = cellsC (T.take k)
  | [], k => by simp [cellsC]
  | u :: T, 0 => by simp [cellsC]
  | u :: T, k + 1 => by rw [cellsC, show (k + 1) * 2 = k * 2 + 1 + 1 by omega, List.take_succ_cons, List.take_succ_cons, cellsC_take T k]; rfl
theorem cellsC_drop : ∀ (T : List Ct) (k : Nat), (cellsC T).drop (k * 2) = cellsC (T.drop k)
  | [], k => by simp [cellsC]
  | u :: T, 0 => by simp [cellsC]
  | u :: T, k + 1 => by rw [cellsC, show (k + 1) * 2 = k * 2 + 1 + 1 by omega, List.drop_succ_cons, List.drop_succ_cons, cellsC_drop T k]; rfl
theorem cellsC_set : ∀ {T : List Ct} {k : Nat} {u : Ct} (n : Nat), T[k]? = some u → (cellsC T).set (k * 2 + 1) (.int .i64 (n : Nat)) = cellsC (T.set k (u.1, u.2.1, n))
  | t :: T, 0, u, n, h => by simp at h; subst h; rfl
  | t :: T, k + 1, u, n, h => by
    rw [cellsC, show (k + 1) * 2 + 1 = k * 2 + 1 + 1 + 1 by omega, List.set_cons_succ, List.set_cons_succ, cellsC_set n (T := T) (k := k) (u := u) (by simpa using h)]; rfl
noncomputable def itC (u : Ct) : It := oIt .u8 eB u.1 (iU u.2.1)
noncomputable def cF (v : Value) (T : List Ct) : List It := rIt eC 2 v T.length (cellsC T) :: T.reverse.map itC
theorem cF_nm {G : List It} {v : Value} {T : List Ct} (f : Fr w0 w G) (hG : ∀ x ∈ cF v T, x ∈ G) : ∀ u ∈ T, Nm .u8 w u.1 (iU u.2.1) := fun u hu => by
  have hm : oIt .u8 eB u.1 (iU u.2.1) ∈ G := hG _ (List.mem_cons_of_mem _ (List.mem_map.2 ⟨u, List.mem_reverse.2 hu, rfl⟩))
  exact Nm.of_on (f.mem hm).1
theorem cF_one {G : List It} {v : Value} {T : List Ct} (f : Fr w0 w G) (hG : ∀ x ∈ cF v T, x ∈ G) : ∀ u ∈ T, u.1.oneCell' = true := fun u hu => by
  obtain ⟨a, c, e, _⟩ := (cF_nm f hG u hu).shape
  rw [e]; rfl
theorem cellsC_one {T : List Ct} (h : ∀ u ∈ T, u.1.oneCell' = true) : ∀ x ∈ cellsC T, x.oneCell' = true := by
  induction T with
  | nil => intro x hx; cases hx
  | cons u T ih =>
    intro x hx
    rw [cellsC] at hx
    rcases List.mem_cons.1 hx with rfl | hx
    · exact h u List.mem_cons_self
    · rcases List.mem_cons.1 hx with rfl | hx
      · rfl
      · exact ih (fun y hy => h y (List.mem_cons_of_mem _ hy)) x hx
theorem Sl.of_cellsC {ad : Addr} {n : Nat} {cs : List Value} (h : St w ad cs) (hn : cs.length = n * 2) : Sl w 2 (.slice (some ad) n n) n cs :=
  ⟨some ad, n, rfl, Nat.le_refl _, by rw [hn], fun ad' ha j u hj => by injection ha with ha; subst ha; exact St.cell h hj, fun h => by cases h⟩
theorem c_step {out v : Value} {T : List Ct} {s : List UInt8} {K : Value → World → Prop} (f : Fr w0 w (oIt .u8 eB v (iU s) :: cF out T)) (hl : T.length ≤ 1000000) (hk : ∀ out' w', Fr w0 w' (cF out' (T ++ [(v, s, 0)])) → K out' w') :
    gLit P t_sl_valiseref21_Counted 1 #[(0, .agg #[v, .int .i64 0])] w fun t20 w5 => gApp P #[t_sl_valiseref21_Counted, t_sl_valiseref21_Counted] t_sl_valiseref21_Counted #[out, t20] w5 K := by
  have hn := f.nm 0 rfl
  have ho : v.oneCell' = true := by obtain ⟨a, c, rfl, _⟩ := hn.shape; rfl
  refine fLit_sz 2 [[v, .int .i64 0]] f rfl rfl (fun v hv => by simp at hv; subst hv; rfl) (fun ad w5 f5 => ?_) (by decide) (by kernel_rfl) (by decide +kernel)
  refine fAppR 40 (m := 1) f5 2 rfl (Sl.of_cellsC (f5.get 0 rfl) rfl) (fun x hx => ?_) (by omega) (by unfold maxLen; omega) (fun v' w6 f6 => hk v' w6 ?_) (by kernel_rfl)
  · simp at hx; rcases hx with rfl | rfl
    · exact ho
    · rfl
  · have f7 := f6.picksN 3 [2, 1] (by decide) (by decide)
    have e1 : cF v' (T ++ [(v, s, 0)]) = rIt eC 2 v' (T.length + 1) (cellsC T ++ [v, .int .i64 0]) :: oIt .u8 eB v (iU s) :: T.reverse.map itC := by
      unfold cF; rw [cellsC_app, List.length_append, List.reverse_append]; rfl
    rw [e1]; exact f7
end
end Go.Proofs.YtijimpchglmkhaaV

/- Rows of counted words: one more of a word; a word set in; plain counts. -/
namespace Go.Proofs.YtijimpchglmkhaaV
open Go Go.RowKit
section
variable {w0 w : World} {F : List It}
/-- One cell of a row is another one. -/
theorem fStoreRq {t e : TypeId} {sz n j : Nat} {v u : Value} {cs : List Value} {ad : Addr} {K : World → Prop} (q : Nat) (h : Fr w0 w F) (i : Nat) (hi : F[i]? = some (rIt e sz v n cs)) (hs : SltR v j sz ad) (hj : j < n) (hq : q < sz) (hu : u.oneCell' = true) (hcl : u.cells = #[u])
    (hk : ∀ w', Fr w0 w' (F.set i (rIt e sz v n (cs.set (j * sz + q) u))) → K w') (ht : flat1 P t = true := by kernel_rfl) : gStore P t (.pointer (some (ad.add q))) u w K := by
  have ho : w.ownsRow 0 e sz v n cs := h.get i hi
  obtain ⟨g, n', c, rfl, rfl⟩ := hs
  have hle : (j + 1) * sz ≤ n * sz := Nat.mul_le_mul_right _ hj
  rw [Nat.add_mul, Nat.one_mul] at hle
  rcases ho.2 with ⟨hn, _⟩ | ⟨g', cap, cur, hv, hb, hg, hn, hm, hcs, htk⟩
  · simp at hn
  simp only [Value.slice.injEq, Option.some.injEq, Addr.mk.injEq, and_true] at hv
  obtain ⟨rfl, rfl, rfl⟩ := hv
  have hlen : cs.length = n' * sz := ho.1
  have hst : St w ⟨g, 0, none⟩ cs := ⟨rfl, cur, e, hg, fun q u hq => by
    rw [← htk, List.getElem?_take] at hq
    dsimp only; rw [Nat.zero_add]
    split at hq
    · rw [Array.getElem?_toList] at hq; exact hq
    · cases hq⟩
  have hadd : (⟨g, j * sz, none⟩ : Addr).add q = (⟨g, 0, none⟩ : Addr).add (j * sz + q) := by rw [Addr.add_lit, Addr.add_lit, Nat.zero_add]
  rw [hadd]
  refine gStore_st hst (by rw [hlen]; omega) hu hcl (fun w' hc _ hS => hk w' (h.upd i hi hc (fun k _ hh => .inl ?_) ?_ fun k hk => .inl hk)) ht
  · have h2 := hh.1
    rw [Addr.add_lit] at h2
    show some g = some k
    rw [h2]
  · obtain ⟨c', k1, k2, _⟩ := hc.cel _ _ _ _ hg
    refine ⟨by rw [List.length_set]; exact hlen, .inr ⟨g, c, c', rfl, Nat.zero_le _, k1, hn, hm, by rw [k2]; exact hcs, ?_⟩⟩
    obtain ⟨_, c2, e2, s1, s2⟩ := hS
    dsimp only at s1 s2
    rw [k1] at s1
    have s1 := Option.some.inj s1
    simp only [Obj.cells.injEq] at s1
    obtain ⟨rfl, _⟩ := s1
    refine List.ext_getElem? fun p => ?_
    rw [List.getElem?_take]
    have hl2 : (cs.set (j * sz + q) u).length = n' * sz := by rw [List.length_set]; exact hlen
    split
    · rename_i hp
      have hx := s2 p _ (List.getElem?_eq_getElem (by rw [hl2]; exact hp))
      rw [Nat.zero_add] at hx
      rw [Array.getElem?_toList, hx, List.getElem?_eq_getElem (by rw [hl2]; exact hp)]
    · rename_i hp
      rw [List.getElem?_eq_none (by rw [hl2]; omega)]
theorem cF_set {v : Value} {T : List Ct} {k n : Nat} {u : Ct} (h : T[k]? = some u) : cF v (T.set k (u.1, u.2.1, n)) = rIt eC 2 v T.length ((cellsC T).set (k * 2 + 1) (.int .i64 (n : Nat))) :: T.reverse.map itC := by
  unfold cF
  rw [cellsC_set n h, List.length_set, List.map_reverse, List.map_reverse, List.map_set]
  congr 2
  refine List.ext_getElem? fun i => ?_
  rw [List.getElem?_set]
  split
  · rename_i e
    subst e
    obtain ⟨hl, e⟩ := List.getElem?_eq_some_iff.1 h
    rw [if_pos (by rw [List.length_map]; exact hl), List.getElem?_map, h]; rfl
  · rfl
theorem c_bump {v : Value} {T : List Ct} {k : Nat} {u : Ct} {K : World → Prop} (f : Fr w0 w (cF v T)) (hu : T[k]? = some u) (hn : u.2.2 ≤ 1000000000) (hk : ∀ w', Fr w0 w' (cF v (T.set k (u.1, u.2.1, u.2.2 + 1))) → K w') :
    gIdx P t_sl_valiseref21_Counted v (.int .i64 (k : Int)) fun t66 => gLoad P t_int (shI .i64) (.pointer (some (Addr.add t66 1))) w fun t68 => gIdx P t_sl_valiseref21_Counted v (.int .i64 (k : Int)) fun t70 => gStore P t_int (.pointer (some (Addr.add t70 1))) (.int .i64 (i64 (t68 + 1))) w K := by
  have hlt := (List.getElem?_eq_some_iff.1 hu).1
  have hr : w.ownsRow 0 eC 2 v T.length (cellsC T) := f.get 0 rfl
  refine gIdx_r hr rfl hlt (fun ad hs => gLoad_i (hs.cell hr (cellsC_at hu).2) (gIdx_r hr rfl hlt (fun ad2 hs2 => fStoreRq 1 f 0 rfl hs2 hlt (by decide) rfl rfl fun w' f' => hk w' ?_) (by kernel_rfl))) (by kernel_rfl)
  rw [cF_set hu, show ((u.2.2 + 1 : Nat) : Int) = i64 ((u.2.2 : Int) + 1) by rw [i64_id (by omega) (by omega)]; omega]
  exact f'
/-- A counted word, read in whatever world of some. -/
theorem gCtB {B : World → Prop} {v : Value} {T : List Ct} {k : Nat} {u : Ct} {K : Value → Int → Prop} (hB : B w) (h : ∀ w', B w' → w'.ownsRow 0 eC 2 v T.length (cellsC T)) (hu : T[k]? = some u) (hk : K u.1 (u.2.2 : Nat)) :
    gIdx P t_sl_valiseref21_Counted v (.int .i64 (k : Int)) fun ad => gLoadB P t_valiseref21_Counted (.part (.agg [.val, .int .i64])) (.pointer (some ad)) B K := by
  have hlt := (List.getElem?_eq_some_iff.1 hu).1
  have hc := cellsC_at hu
  refine gIdx_r (h w hB) rfl hlt (fun ad hs => gLoadB_agg [u.1, .int .i64 (u.2.2 : Nat)] (fun w' hw j x hj => ?_) hk rfl (by kernel_rfl)) (by kernel_rfl)
  rcases j with _ | _ | j
  · simp at hj; subst hj; exact hs.cell (h w' hw) hc.1
  · simp at hj; subst hj; exact hs.cell (h w' hw) hc.2
  · simp at hj
/-- A word is set in among others. -/
theorem ins_tail {v y z : Value} {U : List Ct} {u : Ct} {k : Nat} {B : World → Prop} {K : Value → World → Prop} (f : Fr w0 w (rIt eC 2 v k (cellsC (U.take k)) :: F)) (hs : Sl w 2 y 1 [u.1, .int .i64 (u.2.2 : Nat)]) (ho : Sl w0 2 z (U.length - k) (cellsC (U.drop k))) (hB : ∀ w', Ev w0 w' → B w')
    (h1 : ∀ u ∈ U, u.1.oneCell' = true) (hu : u.1.oneCell' = true) (hk : k ≤ U.length) (hl : U.length ≤ 1000000) (hK : ∀ v' w', Fr w0 w' (rIt eC 2 v' (U.take k ++ u :: U.drop k).length (cellsC (U.take k ++ u :: U.drop k)) :: F) → K v' w') :
    gApp P #[t_sl_valiseref21_Counted, t_sl_valiseref21_Counted] t_sl_valiseref21_Counted #[v, y] w fun t110 w18 => B w18 ∧ gApp P #[t_sl_valiseref21_Counted, t_sl_valiseref21_Counted] t_sl_valiseref21_Counted #[t110, z] w18 fun t114 w19 => B w19 ∧ K t114 w19 := by
  refine fAppR 40 (m := 1) f 0 rfl hs (fun x hx => ?_) (by omega) (by unfold maxLen; omega) (fun v1 w1 f1 => ⟨hB _ f1.old, ?_⟩) (by kernel_rfl)
  · simp at hx; rcases hx with rfl | rfl
    · exact hu
    · rfl
  have f1 : Fr w0 w1 (rIt eC 2 v1 (k + 1) (cellsC (U.take k) ++ [u.1, .int .i64 (u.2.2 : Nat)]) :: F) := f1
  refine fAppR 40 f1 0 rfl (ho.ev f1.old) (cellsC_one fun x hx => h1 x (List.mem_of_mem_drop hx)) (by omega) (by unfold maxLen; omega) (fun v2 w2 f2 => ⟨hB _ f2.old, hK _ _ ?_⟩) (by kernel_rfl)
  have e1 : (U.take k ++ u :: U.drop k).length = k + 1 + (U.length - k) := by rw [List.length_append, List.length_take, List.length_cons, List.length_drop]; omega
  have e2 : cellsC (U.take k ++ u :: U.drop k) = (cellsC (U.take k) ++ [u.1, .int .i64 (u.2.2 : Nat)]) ++ cellsC (U.drop k) := by rw [cellsC_app, List.append_assoc]; rfl
  rw [e1, e2]; exact f2
end
/-! ### Counts -/
def CtOk (T : List Ct) (ws : List (List UInt8)) : Prop := (T.map (·.2.1)).Nodup ∧ (∀ s, s ∈ T.map (·.2.1) ↔ s ∈ ws) ∧ ∀ u ∈ T, u.2.2 = ws.count u.2.1
theorem CtOk.new {T : List Ct} {ws : List (List UInt8)} {s : List UInt8} {y : Value} (h : CtOk T ws) (hs : s ∉ T.map (·.2.1)) : CtOk (T ++ [(y, s, 1)]) (ws ++ [s]) := by
  obtain ⟨h1, h2, h3⟩ := h
  have hw : s ∉ ws := fun hh => hs ((h2 s).2 hh)
  refine ⟨?_, fun x => ?_, fun u hu => ?_⟩
  · rw [List.map_append]
    refine List.nodup_append.2 ⟨h1, by simp, fun a ha b hb => ?_⟩
    simp at hb; subst hb
    exact fun e => hs (e ▸ ha)
  · rw [List.map_append, List.mem_append, List.mem_append, h2 x]; simp
  · rcases List.mem_append.1 hu with hu | hu
    · rw [h3 u hu, List.count_append, List.count_singleton, if_neg, Nat.add_zero]
      intro e
      have e : s = u.2.1 := by simpa using e
      exact hs (e ▸ List.mem_map.2 ⟨u, hu, rfl⟩)
    · rw [List.mem_singleton.1 hu, List.count_append, List.count_eq_zero_of_not_mem hw]; simp
theorem CtOk.again {T : List Ct} {ws : List (List UInt8)} {k : Nat} {u : Ct} (h : CtOk T ws) (hu : T[k]? = some u) : CtOk (T.set k (u.1, u.2.1, u.2.2 + 1)) (ws ++ [u.2.1]) := by
  obtain ⟨h1, h2, h3⟩ := h
  obtain ⟨hl, e⟩ := List.getElem?_eq_some_iff.1 hu
  have hm : (T.set k (u.1, u.2.1, u.2.2 + 1)).map (·.2.1) = T.map (·.2.1) := by
    rw [List.map_set]
    refine List.ext_getElem? fun i => ?_
    rw [List.getElem?_set]
    split
    · rename_i e
      subst e
      rw [if_pos (by rw [List.length_map]; exact hl), List.getElem?_map, hu]; rfl
    · rfl
  have hin : u.2.1 ∈ ws := (h2 _).1 (List.mem_map.2 ⟨u, e ▸ List.getElem_mem hl, rfl⟩)
  refine ⟨by rw [hm]; exact h1, fun x => ?_, fun y hy => ?_⟩
  · rw [hm, h2 x, List.mem_append, List.mem_singleton]
    exact ⟨.inl, fun h => h.elim id fun h => h ▸ hin⟩
  · obtain ⟨i, hi⟩ := List.mem_iff_getElem?.1 hy
    rw [List.getElem?_set] at hi
    split at hi
    · rename_i ek
      subst ek
      injection hi with hi
      subst hi
      show u.2.2 + 1 = (ws ++ [u.2.1]).count u.2.1
      rw [List.count_append, h3 u (e ▸ List.getElem_mem hl)]; simp
    · rename_i ek
      obtain ⟨hil, ei⟩ := List.getElem?_eq_some_iff.1 hi
      rw [h3 y (ei ▸ List.getElem_mem hil), List.count_append, List.count_singleton, if_neg, Nat.add_zero]
      intro e2
      have e2 : u.2.1 = y.2.1 := by simpa using e2
      apply ek
      exact (List.getElem_inj h1 (i := k) (j := i) (h₀ := by rw [List.length_map]; exact hl) (h₁ := by rw [List.length_map]; exact hil)).1 (by simp [e, ei, e2])
theorem CtOk.len {T : List Ct} {ws : List (List UInt8)} (h : CtOk T ws) : T.length ≤ ws.length := by
  have hp : (T.map (·.2.1)).Perm (dd ws) := perm_of_mem h.1 (nodup_dd ws) fun x => by rw [h.2.1 x, mem_dd]
  have := hp.length_eq
  rw [List.length_map] at this
  rw [this, ← (sortedU_perm ws).length_eq]; exact sortedU_len ws
/-- Some words by their worth. -/
def InsOk (c : List UInt8 → Nat) (S U : List Ct) : Prop := (U.map (·.2.1)).Pairwise (fun x y => ltU c x y = true) ∧ ∀ u, u ∈ U ↔ u ∈ S ∧ 2 ≤ u.2.2
theorem InsOk.ins {c : List UInt8 → Nat} {S U : List Ct} {u : Ct} {k : Nat} (h : InsOk c S U) (hn : u.2.1 ∉ S.map (·.2.1)) (hu : 2 ≤ u.2.2) (hk : k ≤ U.length) (h1 : ∀ (j : Nat) (x : Ct), j < k → U[j]? = some x → ltU c x.2.1 u.2.1 = true) (h2 : ∀ x, U[k]? = some x → ltU c x.2.1 u.2.1 = false) : InsOk c (S ++ [u]) (U.take k ++ u :: U.drop k) := by
  obtain ⟨p, m⟩ := h
  refine ⟨?_, fun x => ?_⟩
  · have hp : ((U.take k).map (·.2.1) ++ (U.drop k).map (·.2.1)).Pairwise fun x y => ltU c x y = true := by rw [← List.map_append, List.take_append_drop]; exact p
    obtain ⟨pa, pb, pc⟩ := List.pairwise_append.1 hp
    have hb : ∀ y ∈ (U.drop k).map (·.2.1), ltU c u.2.1 y = true := by
      cases hd : U.drop k with
      | nil => intro y hy; cases hy
      | cons x r =>
        have hx : U[k]? = some x := by
          have := congrArg (fun l => l[0]?) hd
          simpa [List.getElem?_drop] using this
        have hxm : x ∈ U := List.mem_of_getElem? hx
        have hux : ltU c u.2.1 x.2.1 = true := by
          cases hh : ltU c u.2.1 x.2.1 with
          | true => rfl
          | false =>
            have := ltU_total hh (h2 x hx)
            exact absurd (List.mem_map.2 ⟨x, ((m x).1 hxm).1, this.symm⟩) hn
        rw [hd, List.map_cons, List.pairwise_cons] at pb
        intro y hy
        rw [List.map_cons] at hy
        rcases List.mem_cons.1 hy with rfl | hy
        · exact hux
        · exact ltU_trans hux (pb.1 y hy)
    have ha : ∀ x ∈ (U.take k).map (·.2.1), ltU c x u.2.1 = true := fun x hx => by
      obtain ⟨y, hy, rfl⟩ := List.mem_map.1 hx
      obtain ⟨j, hj⟩ := List.mem_iff_getElem?.1 hy
      rw [List.getElem?_take] at hj
      split at hj
      · rename_i hjk; exact h1 j y hjk hj
      · cases hj
    rw [List.map_append, List.map_cons]
    refine List.pairwise_append.2 ⟨pa, List.pairwise_cons.2 ⟨hb, pb⟩, fun x hx y hy => ?_⟩
    rcases List.mem_cons.1 hy with rfl | hy
    · exact ha x hx
    · exact pc x hx y hy
  · have hx : x ∈ U.take k ++ u :: U.drop k ↔ x ∈ U ∨ x = u := by
      conv => rhs; rw [← List.take_append_drop k U]
      simp only [List.mem_append, List.mem_cons]
      constructor
      · rintro (h | rfl | h)
        · exact .inl (.inl h)
        · exact .inr rfl
        · exact .inl (.inr h)
      · rintro ((h | h) | rfl)
        · exact .inl h
        · exact .inr (.inr h)
        · exact .inr (.inl rfl)
    rw [hx, m x, List.mem_append, List.mem_singleton]
    constructor
    · rintro (⟨a, b⟩ | rfl)
      · exact ⟨.inl a, b⟩
      · exact ⟨.inr rfl, hu⟩
    · rintro ⟨a | rfl, b⟩
      · exact .inl ⟨a, b⟩
      · exact .inr rfl
theorem InsOk.skip {c : List UInt8 → Nat} {S U : List Ct} {u : Ct} (h : InsOk c S U) (hu : u.2.2 < 2) : InsOk c (S ++ [u]) U := by
  refine ⟨h.1, fun x => ?_⟩
  rw [h.2 x, List.mem_append, List.mem_singleton]
  constructor
  · rintro ⟨a, b⟩; exact ⟨.inl a, b⟩
  · rintro ⟨a | rfl, b⟩
    · exact ⟨a, b⟩
    · omega
theorem ins_find {T U : List Ct} {W : List (List UInt8)} (hT : CtOk T W) (hU : InsOk (fun s => W.count s) T U) : (U.map (·.2.1)).take 64 = findU W := by
  unfold findU
  congr 1
  refine rise_eq (fun s => W.count s) hU.1 ((sortedU_rise W).filter _) fun x => ?_
  rw [List.mem_filter, mem_sortedU, ← hT.2.1 x, List.mem_map, List.mem_map]
  constructor
  · rintro ⟨u, hu, rfl⟩
    obtain ⟨a, b⟩ := (hU.2 u).1 hu
    rw [hT.2.2 u a] at b
    exact ⟨⟨u, a, rfl⟩, decide_eq_true (by omega)⟩
  · rintro ⟨⟨u, hu, rfl⟩, b⟩
    have b := of_decide_eq_true b
    exact ⟨u, (hU.2 u).2 ⟨hu, by rw [hT.2.2 u hu]; omega⟩, rfl⟩
end Go.Proofs.YtijimpchglmkhaaV

/- The other form of words: Find. -/
namespace Go.Proofs.YtijimpchglmkhaaV
open Go Go.RowKit
section
variable {w0 w : World} {F : List It}
theorem CopyBytesW_any {b : Value} {xs : List Int} (hb : Nm .u8 w b xs) (hl : xs.length ≤ 10000000000000) : Calls P n_valisehelp_CopyBytes #[b] w (NewB w xs) :=
  of_valisehelp_CopyBytes (fApp0 (Fr.start w) hb (by omega) fun v w' f => ⟨v, rfl, f.old, f.on 0 rfl⟩)
theorem refFind_any {b : Value} {xs : List Int} (hb : Nm .u8 w b xs) (hl : xs.length ≤ 500000) : Calls P n_valiseref21_Find #[b] w (fun e w' => ∃ v, e = .returned v ∧ Ev w w' ∧ NL .u8 w' v (findW xs)) := by
  obtain ⟨W, hW⟩ : ∃ W, W = wordsU xs := ⟨_, rfl⟩
  have hwl := wordsU_len xs.length xs (Nat.le_refl _)
  have hfw : findW xs = (findU W).map iU := by rw [hW]; rfl
  rw [← hW] at hwl
  rw [hfw]
  refine of_valiseref21_Find ⟨fun all at_ w' => ∃ (p : Nat) (ws : List (List UInt8)) (T : List Ct), at_ = (p : Int) ∧ p ≤ xs.length ∧ ws ++ wordsU (xs.drop p) = W ∧ CtOk T ws ∧ Fr w w' (cF all T), fun _ at_ _ => (xs.length - at_).toNat, ⟨0, [], [], rfl, Nat.zero_le _, by rw [List.drop_zero, hW]; rfl, ⟨List.nodup_nil, (fun s => by simp), (fun u hu => by cases hu)⟩, (Fr.start w).nilR eC 2⟩, ?_⟩
  rintro _ all at_ w1 ⟨p, ws, T, rfl, hp, hws, hT, f1⟩
  have hdl : (xs.drop p).length = xs.length - p := List.length_drop
  have hwsl : ws.length ≤ xs.length := by have := congrArg List.length hws; rw [List.length_append] at this; omega
  have hTl := hT.len
  have hcnt : ∀ u ∈ T, u.2.2 ≤ 500000 := fun u hu => by rw [hT.2.2 u hu]; have : ws.count u.2.1 ≤ ws.length := List.count_le_length; omega
  refine gLen_nm (hb.ev f1.old) (gIf_dec (fun hlt => gCall_i0 (refRun_any (hb.ev f1.old) hp (by omega)) ?_) (fun hge => ?_))
  · have hrl := runN_le (xs.drop p)
    have hne : xs.drop p ≠ [] := fun h => by rw [h] at hdl; simp at hdl; omega
    obtain ⟨n, hn⟩ : ∃ n, n = runN (xs.drop p) := ⟨_, rfl⟩
    have hst := wordsU_step hne
    rw [← hn] at hrl hst ⊢
    refine gIf_eq (fun he => ?_) (fun hne2 => ?_)
    · obtain rfl : n = 0 := by omega
      rw [if_neg (by omega), if_pos (by omega), List.drop_drop] at hst
      exact ⟨⟨p + 1, ws, T, by rw [i64_id (by omega) (by omega)]; omega, by omega, by rw [← hws, hst]; rfl, hT, f1⟩, by dsimp only; rw [i64_id (by omega) (by omega)]; omega⟩
    have hn0 : 0 < n := by omega
    rw [if_neg (show ¬ 1 > n by omega), List.drop_drop] at hst
    refine gSlice_nm (hb.ev f1.old) p (p + n) (.inr ⟨_, rfl⟩) (.inr ⟨_, rfl⟩) (by omega) (by omega) fun hs => ?_
    rw [show p + n - p = n by omega] at hs
    obtain ⟨t28, ht28⟩ : ∃ t, t = subV 1 b p (p + n) := ⟨_, rfl⟩
    rw [← ht28] at hs ⊢
    have hsl : ((xs.drop p).take n).length = n := by rw [List.length_take]; omega
    refine ⟨fun w' => w' = w1 ∧ 3 ≤ n ∧ n ≤ 24, ?_, ?_⟩
    · have skip : ¬ (3 ≤ n ∧ n ≤ 24) → (∃ (q : Nat) (ws : List (List UInt8)) (T : List Ct), ((p + n : Nat) : Int) = (q : Int) ∧ q ≤ xs.length ∧ ws ++ wordsU (xs.drop q) = W ∧ CtOk T ws ∧ Fr w w1 (cF all T)) ∧ (xs.length - ((p + n : Nat) : Int)).toNat < (xs.length - (p : Int)).toNat := fun h => by
        rw [if_neg h] at hst
        exact ⟨⟨p + n, ws, T, rfl, by omega, by rw [← hws, hst]; rfl, hT, f1⟩, by omega⟩
      refine gLen_nm hs (gIf_ndec (fun h3 => gLen_nm hs (gIf_dec (fun h24 => skip (by omega)) (fun h24 => ⟨rfl, by omega, by omega⟩))) (fun h3 => skip (by omega)))
    rintro _ _ ⟨rfl, h3, h24⟩
    rename_i w1
    rw [if_pos ⟨h3, h24⟩] at hst
    obtain ⟨s, hS⟩ : ∃ s, s = bU ((xs.drop p).take n) := ⟨_, rfl⟩
    rw [← hS] at hst
    have hsi : iU s = (xs.drop p).take n := by rw [hS, iU_bU ((hb.2.drop _).take _)]
    rw [← hsi] at hs
    have hws2 : (ws ++ [s]) ++ wordsU (xs.drop (p + n)) = W := by rw [← hws, hst, List.append_assoc]
    have hnm := cF_nm f1 fun x hx => hx
    have hrow : w1.ownsRow 0 eC 2 all T.length (cellsC T) := f1.get 0 rfl
    refine ⟨fun k w' => w' = w1 ∧ ∃ j : Nat, k = (j : Int) ∧ ((j = T.length ∧ s ∉ T.map (·.2.1)) ∨ ∃ u, T[j]? = some u ∧ u.2.1 = s), ?_, ?_⟩
    · refine ⟨fun k w' => w' = w1 ∧ ∃ j : Nat, k = (j : Int) ∧ j ≤ T.length ∧ ∀ (i : Nat) (u : Ct), i < j → T[i]? = some u → u.2.1 ≠ s, fun k _ => (T.length - k).toNat, ⟨rfl, 0, rfl, Nat.zero_le _, fun i u h => by omega⟩, ?_⟩
      rintro _ k _ ⟨rfl, j, rfl, hj, hall⟩
      refine gLen_slv (f1.row 0 rfl) (gIf_dec (fun hlt => ?_) (fun hge => ?_))
      · have hjl : j < T.length := by omega
        have hu : T[j]? = some T[j] := List.getElem?_eq_getElem hjl
        refine gIdx_r hrow rfl hjl (fun ad hsl => gLoad_v (hsl.cell hrow (cellsC_at hu).1) (gCall_b0 (Bytes_any (hnm _ (List.getElem_mem hjl)) hs) (gIf_nb (fun h => ?_) (fun h => ?_)))) (by kernel_rfl)
        · have h := of_decide_eq_false h
          refine ⟨⟨rfl, j + 1, by rw [i64_id (by omega) (by omega)]; omega, hjl, fun i u hi hu2 => ?_⟩, by dsimp only; rw [i64_id (by omega) (by omega)]; omega⟩
          by_cases hij : i = j
          · subst hij
            rw [hu] at hu2; injection hu2 with hu2; subst hu2
            exact fun e => h (by rw [e])
          · exact hall i u (by omega) hu2
        · exact ⟨rfl, j, rfl, .inr ⟨T[j], hu, iU_inj (of_decide_eq_true h)⟩⟩
      · obtain rfl : j = T.length := by omega
        refine ⟨rfl, T.length, rfl, .inl ⟨rfl, fun hm => ?_⟩⟩
        obtain ⟨u, hu, e⟩ := List.mem_map.1 hm
        obtain ⟨i, hi⟩ := List.mem_iff_getElem?.1 hu
        exact hall i u (List.getElem?_eq_some_iff.1 hi).1 hi e
    rintro _ k _ ⟨rfl, j, rfl, hj⟩
    rename_i w1
    have next : ∀ {all' : Value} {T' : List Ct} {w' : World}, CtOk T' (ws ++ [s]) → Fr w w' (cF all' T') → (∃ (q : Nat) (ws : List (List UInt8)) (T : List Ct), ((p + n : Nat) : Int) = (q : Int) ∧ q ≤ xs.length ∧ ws ++ wordsU (xs.drop q) = W ∧ CtOk T ws ∧ Fr w w' (cF all' T)) ∧ (xs.length - ((p + n : Nat) : Int)).toNat < (xs.length - (p : Int)).toNat := fun h f => ⟨⟨p + n, _, _, rfl, by omega, hws2, h, f⟩, by omega⟩
    refine gLen_slv (f1.row 0 rfl) (gIf_eq (fun he => ?_) (fun hne3 => ?_))
    · obtain rfl : j = T.length := by omega
      have hni : s ∉ T.map (·.2.1) := by
        rcases hj with h | ⟨u, h, _⟩
        · exact h.2
        · have := (List.getElem?_eq_some_iff.1 h).1; omega
      refine gCall_v (CopyBytesW_any hs (by rw [hsi, hsl]; omega)) fun y w8 ⟨h8, ny⟩ => ⟨ny.nm.one, ?_⟩
      refine c_step (f1.newO h8 ny) (by omega) fun all' w9 f9 => ?_
      refine c_bump f9 (k := T.length) (u := (y, s, 0)) (by simp) (Nat.zero_le _) fun w10 f10 => ?_
      have f10 : Fr w w10 (cF all' ((T ++ [((y, s, 0) : Ct)]).set T.length ((y, s, 1) : Ct))) := f10
      rw [List.set_append_right _ _ (Nat.le_refl _), Nat.sub_self] at f10
      exact next (hT.new hni) f10
    · obtain ⟨u, hu, rfl⟩ : ∃ u, T[j]? = some u ∧ u.2.1 = s := by
        rcases hj with h | h
        · omega
        · exact h
      exact c_bump f1 hu (by have := hcnt u (List.mem_of_getElem? hu); omega) fun w10 f10 => next (hT.again hu) f10
  · have hnil : xs.drop p = [] := List.eq_nil_of_length_eq_zero (by omega)
    rw [hnil, wordsU_nil, List.append_nil] at hws
    subst hws
    obtain ⟨c, hc⟩ : ∃ c : List UInt8 → Nat, c = fun s => ws.count s := ⟨_, rfl⟩
    have hcT : ∀ u ∈ T, u.2.2 = c u.2.1 := by rw [hc]; exact hT.2.2
    have h24 : ∀ u ∈ T, u.2.1.length ≤ 24 := fun u hu => (hwl.2 u.2.1 ((hT.2.1 _).1 (List.mem_map.2 ⟨u, hu, rfl⟩))).2
    have hmem : ∀ {out : Value} {U : List Ct}, ∀ x ∈ cF all T, x ∈ rIt eC 2 out U.length (cellsC U) :: cF all T := fun x hx => List.mem_cons_of_mem _ hx
    refine ⟨fun out i w' => ∃ (k : Nat) (U : List Ct), i = (k : Int) ∧ k ≤ T.length ∧ U.length ≤ k ∧ InsOk c (T.take k) U ∧ Fr w w' (rIt eC 2 out U.length (cellsC U) :: cF all T), fun _ i _ => (T.length - i).toNat, ⟨0, [], rfl, Nat.zero_le _, Nat.le_refl _, ⟨List.Pairwise.nil, fun u => by simp⟩, f1.nilR eC 2⟩, ?_⟩
    rintro _ out i w2 ⟨k, U, rfl, hk, hUl, hU, f2⟩
    have hUT : ∀ u ∈ U, u ∈ T := fun u hu => List.mem_of_mem_take ((hU.2 u).1 hu).1
    refine gLen_slv (f2.row 1 rfl) (gIf_dec (fun hlt => ?_) (fun hge => ?_))
    · have hkl : k < T.length := by omega
      obtain ⟨u, hue⟩ : ∃ u, u = T[k] := ⟨_, rfl⟩
      have hu : T[k]? = some u := by rw [hue]; exact List.getElem?_eq_getElem hkl
      have huT : u ∈ T := List.mem_of_getElem? hu
      have hrow : w2.ownsRow 0 eC 2 all T.length (cellsC T) := f2.get 1 rfl
      have htk : T.take (k + 1) = T.take k ++ [u] := by rw [hue]; exact List.take_succ_eq_append_getElem hkl
      refine gIdx_r hrow rfl hkl (fun ad hsl => gLoad_i (hsl.cell hrow (cellsC_at hu).2) (gIf_dec (fun h2 => ?_) (fun h2 => ?_))) (by kernel_rfl)
      · exact ⟨⟨k + 1, U, by rw [i64_id (by omega) (by omega)]; omega, hkl, by omega, by rw [htk]; exact hU.skip (by omega), f2⟩, by dsimp only; rw [i64_id (by omega) (by omega)]; omega⟩
      refine ⟨fun m w' => ∃ j : Nat, m = (j : Int) ∧ j ≤ U.length ∧ (∀ (i : Nat) (x : Ct), i < j → U[i]? = some x → ltU c x.2.1 u.2.1 = true) ∧ (∀ x, U[j]? = some x → ltU c x.2.1 u.2.1 = false) ∧ Fr w w' (rIt eC 2 out U.length (cellsC U) :: cF all T), ?_, ?_⟩
      · refine ⟨fun m w' => ∃ j : Nat, m = (j : Int) ∧ j ≤ U.length ∧ (∀ (i : Nat) (x : Ct), i < j → U[i]? = some x → ltU c x.2.1 u.2.1 = true) ∧ Fr w w' (rIt eC 2 out U.length (cellsC U) :: cF all T), fun m _ => (U.length - m).toNat, ⟨0, rfl, Nat.zero_le _, (fun i x h => by omega), f2⟩, ?_⟩
        rintro _ m w3 ⟨j, rfl, hj, hall, f3⟩
        have fd := f3.drew
        refine ⟨fun w' => Fr w w' (rIt eC 2 out U.length (cellsC U) :: cF all T), fd, gLen_slv (f3.row 0 rfl) (gIf_dec (fun hlt => ?_) (fun hge => ?_))⟩
        · have hjl : j < U.length := by omega
          obtain ⟨x, hxe⟩ : ∃ x, x = U[j] := ⟨_, rfl⟩
          have hx : U[j]? = some x := by rw [hxe]; exact List.getElem?_eq_getElem hjl
          have hxT := hUT x (List.mem_of_getElem? hx)
          refine gCtB fd (fun w' h => h.get 0 rfl) hx (gCtB fd (fun w' h => h.get 1 rfl) hu ?_)
          rw [hcT x hxT, hcT u huT]
          have b1 : c x.2.1 ≤ 1000000000 := by rw [← hcT x hxT]; have := hcnt x hxT; omega
          have b2 : c u.2.1 ≤ 1000000000 := by rw [← hcT u huT]; have := hcnt u huT; omega
          refine gCall_b (refAhead_any (cF_nm fd hmem x hxT) (cF_nm fd hmem u huT) (h24 x hxT) (h24 u huT) b1 b2) fun w4 h4 => ⟨fd.ev h4, gIf_b (fun h => ?_) (fun h => ?_)⟩
          · refine ⟨⟨j + 1, by rw [i64_id (by omega) (by omega)]; omega, hjl, fun i y hi hy => ?_, fd.ev h4⟩, by dsimp only; rw [i64_id (by omega) (by omega)]; omega⟩
            by_cases hij : i = j
            · subst hij; rw [hx] at hy; injection hy with hy; subst hy; exact h
            · exact hall i y (by omega) hy
          · exact ⟨j, rfl, hj, hall, fun y hy => by rw [hx] at hy; injection hy with hy; subst hy; exact h, fd.ev h4⟩
        · obtain rfl : j = U.length := by omega
          exact ⟨U.length, rfl, hj, hall, (fun y hy => by have := (List.getElem?_eq_some_iff.1 hy).1; omega), fd⟩
      · rintro _ m w3 ⟨j, rfl, hj, hall, hno, f3⟩
        have fd := f3.drew
        have so : Sl w3.drew 2 out U.length (cellsC U) := fd.row 0 rfl
        have oneT := cF_one fd hmem
        have oneU : ∀ x ∈ U, x.1.oneCell' = true := fun x hx => oneT x (hUT x hx)
        refine ⟨fun w' => Ev w3.drew w', Ch.refl _ _, gSlice_slv so 0 j (.inl ⟨rfl, rfl⟩) (.inr ⟨_, rfl⟩) (Nat.zero_le _) hj (fun s1 => ?_) (by kernel_rfl)⟩
        rw [Nat.zero_mul, List.drop_zero, Nat.sub_zero, cellsC_take] at s1
        refine gCtB (w := w3.drew) (Ch.refl _ _) (fun w' h => (fd.ev h).get 1 rfl) hu (gSlice_slv so j U.length (.inr ⟨_, rfl⟩) (.inl ⟨rfl, rfl⟩) hj (Nat.le_refl _) (fun s2 => ?_) (by kernel_rfl))
        rw [cellsC_drop, List.take_of_length_le (by rw [cellsC_len, List.length_drop]; exact Nat.le_refl _)] at s2
        have hnS : u.2.1 ∉ (T.take k).map (·.2.1) := fun h => by
          have hn1 := hT.1
          rw [← List.take_append_drop (k + 1) T, List.map_append, htk, List.map_append] at hn1
          have := (List.nodup_append.1 (List.nodup_append.1 hn1).1).2.2 _ h u.2.1 (by simp)
          exact this rfl
        have fin : ∀ {v : Value} {w' : World} {G : List It}, Fr w3.drew w' (rIt eC 2 v (U.take j ++ u :: U.drop j).length (cellsC (U.take j ++ u :: U.drop j)) :: G) → (∃ (k' : Nat) (U : List Ct), i64 ((k : Int) + 1) = (k' : Int) ∧ k' ≤ T.length ∧ U.length ≤ k' ∧ InsOk c (T.take k') U ∧ Fr w w' (rIt eC 2 v U.length (cellsC U) :: cF all T)) ∧ (T.length - i64 ((k : Int) + 1)).toNat < (T.length - (k : Int)).toNat := fun {v w' G} g => by
          have g1 : Fr w3.drew w' [rIt eC 2 v (U.take j ++ u :: U.drop j).length (cellsC (U.take j ++ u :: U.drop j))] := g.picks [0] (by decide)
          have f4 := fd.glue g1
          have f4 : Fr w w' (rIt eC 2 v (U.take j ++ u :: U.drop j).length (cellsC (U.take j ++ u :: U.drop j)) :: rIt eC 2 out U.length (cellsC U) :: cF all T) := f4
          have f5 := f4.drop 1
          exact ⟨⟨k + 1, _, by rw [i64_id (by omega) (by omega)]; omega, hkl, by rw [List.length_append, List.length_take, List.length_cons, List.length_drop]; omega, by rw [htk]; exact hU.ins hnS (by omega) hj hall hno, f5⟩, by rw [i64_id (by omega) (by omega)]; omega⟩
        have one1 : ∀ x ∈ cellsC (U.take j), x.oneCell' = true := cellsC_one fun x hx => oneU x (List.mem_of_mem_take hx)
        refine ⟨?_, ?_⟩
        · refine fAppR0 40 (Fr.start w3.drew) s1 one1 (by omega) (by unfold maxLen; omega) (fun v4 w4 f4 => ⟨f4.old, ?_⟩) (by kernel_rfl)
          refine fLit_sz 2 [[u.1, .int .i64 (u.2.2 : Nat)]] f4 rfl rfl (fun v hv => by simp at hv; subst hv; rfl) (fun ad w5 f5 => ⟨f5.old, ?_⟩) (by decide) (by kernel_rfl) (by decide +kernel)
          have f6 := f5.picksN 2 [1, 0] (by decide) (by decide)
          exact ins_tail f6 (Sl.of_cellsC (f5.get 0 rfl) rfl) s2 (fun w' h => h) oneU (oneT u huT) hj (by omega) fun v' w' g => fin g
        · refine fLit_sz 2 [[u.1, .int .i64 (u.2.2 : Nat)]] (Fr.start w3.drew) rfl rfl (fun v hv => by simp at hv; subst hv; rfl) (fun ad w5 f5 => ⟨f5.old, ?_⟩) (by decide) (by kernel_rfl) (by decide +kernel)
          refine fAppR0 40 f5 (s1.ev f5.old) one1 (by omega) (by unfold maxLen; omega) (fun v4 w4 f4 => ⟨f4.old, ?_⟩) (by kernel_rfl)
          exact ins_tail f4 (Sl.of_cellsC (f4.get 1 rfl) rfl) s2 (fun w' h => h) oneU (oneT u huT) hj (by omega) fun v' w' g => fin g
    · obtain rfl : k = T.length := by omega
      rw [List.take_length] at hU
      have hfin := ins_find hT (by rw [← hc]; exact hU)
      have done : ∀ {words : Value} {j : Nat} {w' : World}, (j = U.length ∨ j = 64) → j ≤ 64 → j ≤ U.length → Fr w w' (rIt eW 1 words j ((U.take j).map (·.1)) :: rIt eC 2 out U.length (cellsC U) :: cF all T) → ∃ v, Ending.returned words = .returned v ∧ Ev w w' ∧ NL .u8 w' v ((findU ws).map iU) := fun {words j w'} hor h64 hjU f => by
        refine ⟨words, rfl, f.old, (U.take j).map (·.1), ?_, fun i v ys hv hy => ?_⟩
        · have e : ((findU ws).map iU).length = j := by
            rw [← hfin, List.length_map, List.length_take, List.length_map]; omega
          rw [e]; exact f.row 0 rfl
        · rw [← hfin, List.getElem?_map, List.getElem?_take] at hy
          rw [List.getElem?_map, List.getElem?_take] at hv
          split at hv
          · rename_i hij
            rw [if_pos (by omega), List.getElem?_map] at hy
            cases hx : U[i]? with
            | none => rw [hx] at hv; cases hv
            | some x =>
              rw [hx] at hv hy
              simp at hv hy
              subst hv; subst hy
              exact cF_nm f (fun x hx => List.mem_cons_of_mem _ (List.mem_cons_of_mem _ hx)) x (hUT x (List.mem_of_getElem? hx))
          · cases hv
      refine ⟨fun words i w' => ∃ j : Nat, i = (j : Int) ∧ j ≤ 64 ∧ j ≤ U.length ∧ Fr w w' (rIt eW 1 words j ((U.take j).map (·.1)) :: rIt eC 2 out U.length (cellsC U) :: cF all T), fun _ i _ => (U.length - i).toNat, ⟨0, rfl, Nat.zero_le _, Nat.zero_le _, f2.nilR eW 1⟩, ?_⟩
      rintro _ words i w3 ⟨j, rfl, h64, hjU, f3⟩
      refine gLen_slv (f3.row 1 rfl) (gIf_dec (fun hlt => gIf_dec (fun hlt2 => ?_) (fun hge2 => ?_)) (fun hge => ?_))
      · have hjl : j < U.length := by omega
        obtain ⟨x, hxe⟩ : ∃ x, x = U[j] := ⟨_, rfl⟩
        have hx : U[j]? = some x := by rw [hxe]; exact List.getElem?_eq_getElem hjl
        have hrow : w3.ownsRow 0 eC 2 out U.length (cellsC U) := f3.get 1 rfl
        have hone := cF_one f3 (fun x hx => List.mem_cons_of_mem _ (List.mem_cons_of_mem _ hx)) x (hUT x (List.mem_of_getElem? hx))
        have hnm := cF_nm f3 (fun x hx => List.mem_cons_of_mem _ (List.mem_cons_of_mem _ hx)) x (hUT x (List.mem_of_getElem? hx))
        refine gIdx_r hrow rfl hjl (fun ad hsl => gLoad_v (hsl.cell hrow (cellsC_at hx).1) ?_) (by kernel_rfl)
        refine fLitK [x.1] f3 rfl rfl (fun v hv => by rw [List.mem_singleton.1 hv]; exact hnm.one) fun t5 w5 k5 f5 s5 => ?_
        refine fAppK 24 (m := 1) f5 0 rfl s5 (fun v hv => by rw [List.mem_singleton.1 hv]; exact hone) (by omega) (by unfold maxLen; omega) (fun v' w6 k6 f6 => ⟨⟨j + 1, by rw [i64_id (by omega) (by omega)]; omega, by omega, hjl, ?_⟩, by dsimp only; rw [i64_id (by omega) (by omega)]; omega⟩) (by kernel_rfl)
        rw [List.take_succ_eq_append_getElem hjl, List.map_append, ← hxe]; exact f6
      · exact done (.inr (by omega)) h64 hjU f3
      · exact done (.inl (by omega)) h64 hjU f3
end
end Go.Proofs.YtijimpchglmkhaaV

/- Package valisehelp: Spoil. -/
namespace Go.Proofs.YtijimpchglmkhaaV
open Go Go.RowKit
theorem iXor_u8 (a b : Int) : IntKind.u8.min ≤ iXor .u8 a b ∧ iXor .u8 a b ≤ IntKind.u8.max := by
  have : 0 ≤ iXor .u8 a b ∧ iXor .u8 a b < 256 := by unfold iXor; show 0 ≤ u8 _ ∧ u8 _ < 256; rw [u8_def]; omega
  simp [IntKind.min, IntKind.max, IntKind.signed, IntKind.bits]; omega
theorem Spoil_any {v : Value} {xs : List Int} {B : Nat} {e : TypeId} {w : World} (h : ON .u8 e w B v xs) (hl : xs.length ≤ 1000000000) : Calls P n_valisehelp_Spoil #[v] w (fun r w' => r = .returned (.tuple #[]) ∧ Ch (Ob v) w w' ∧ ∃ ys, ys.length = xs.length ∧ ON .u8 e w' B v ys) := by
  refine of_valisehelp_Spoil ⟨fun i w' => ∃ (j : Nat) (ys : List Int), i = j ∧ j ≤ xs.length ∧ ys.length = xs.length ∧ Ch (Ob v) w w' ∧ ON .u8 e w' B v ys, fun i _ => xs.length - i.toNat, ⟨0, xs, rfl, by omega, rfl, Ch.refl _ w, h⟩, ?_⟩
  rintro _ i w1 ⟨j, ys, rfl, hj, hy, h1, hO⟩
  refine gLen_nm hO.nm (gIf_dec (fun hlt => ?_) (fun hge => ⟨rfl, h1, ys, hy, hO⟩))
  refine gIdx_nm hO.nm (by omega) hlt fun a1 c1 _ => gLoad_i c1 (gIdx_on hO (by omega) hlt fun a2 s2 _ => gStore_on hO s2 (by omega) hlt (iXor_u8 _ _) fun w2 h2 _ hO2 => ?_)
  rw [i64_id (n := (j : Int) + 1) (by omega) (by omega)]
  exact ⟨⟨j + 1, _, rfl, by omega, by simpa using hy, Ch.trans h1 h2 fun _ _ _ h => h, hO2⟩, by dsimp only; omega⟩
end Go.Proofs.YtijimpchglmkhaaV
