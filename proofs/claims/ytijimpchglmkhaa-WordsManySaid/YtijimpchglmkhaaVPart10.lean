import Derived.Test.YtijimpchglmkhaaVPart9
set_option linter.unusedVariables false
set_option linter.unusedSimpArgs false
/- The law WordsOften. -/
namespace Go.Proofs.YtijimpchglmkhaaV
open Go Go.RowKit
theorem sortedU_one {ws : List (List UInt8)} {s : List UInt8} (h : ∀ x, x ∈ ws ↔ x = s) : sortedU ws = [s] :=
  rise_eq (fun x => ws.count x) (sortedU_rise ws) (List.pairwise_singleton _ _) fun x => by rw [mem_sortedU, h x, List.mem_singleton]
theorem sortedU_nil : sortedU [] = [] := by
  refine List.eq_nil_iff_forall_not_mem.2 fun x hx => ?_
  have := mem_sortedU.1 hx; cases this
theorem findU_rep (n : Nat) (s : List UInt8) : findU (List.replicate n s) = if 2 ≤ n then [s] else [] := by
  cases n with
  | zero => unfold findU; rw [show List.replicate 0 s = [] from rfl, sortedU_nil]; rfl
  | succ n =>
    unfold findU
    rw [sortedU_one (ws := List.replicate (n + 1) s) (s := s) fun x => by rw [List.mem_replicate]; simp]
    by_cases h : 2 ≤ n + 1
    · rw [if_pos h, List.filter_cons_of_pos (by rw [List.count_replicate_self]; exact decide_eq_true (by omega))]; rfl
    · rw [if_neg h, List.filter_cons_of_neg (by rw [List.count_replicate_self]; simp; omega)]; rfl
theorem runN_app : ∀ {u rest : List Int}, (∀ x ∈ u, letB x = true) → (∀ c r, rest = c :: r → letB c = false) → runN (u ++ rest) = u.length
  | [], rest, _, h => by
    cases rest with
    | nil => rfl
    | cons c r => rw [List.nil_append, runN, if_neg (by rw [h c r rfl]; decide)]; rfl
  | x :: u, rest, h1, h2 => by rw [List.cons_append, runN, if_pos (h1 x List.mem_cons_self), runN_app (fun y hy => h1 y (List.mem_cons_of_mem _ hy)) h2]; rfl
theorem wordsU_no {c : Int} {rest : List Int} (hc : letB c = false) : wordsU (c :: rest) = wordsU rest := by
  have hr : runN (c :: rest) = 0 := by rw [runN, if_neg (by rw [hc]; decide)]
  rw [wordsU_step (by simp), hr, if_neg (by omega), if_pos (by omega)]; rfl
theorem wordsU_word {u rest : List Int} {c : Int} (hu : ∀ x ∈ u, letB x = true) (hc : letB c = false) : wordsU (u ++ c :: rest) = (if 3 ≤ u.length ∧ u.length ≤ 24 then [bU u] else []) ++ wordsU rest := by
  by_cases h0 : u = []
  · subst h0; rw [List.nil_append, wordsU_no hc, if_neg (by simp)]; rfl
  · have hp : 0 < u.length := List.length_pos_iff.2 h0
    have hr : runN (u ++ c :: rest) = u.length := runN_app hu fun c' r h => by injection h with h; rw [← h]; exact hc
    rw [wordsU_step (by simp), hr, List.take_left' rfl, if_neg (show ¬ (1 > u.length) by omega), List.drop_left' rfl, wordsU_no hc]
def wlR (u : List Int) (c : Int) (n : Nat) : List Int := (List.replicate n (u ++ [c])).flatten
theorem wlR_succ (u : List Int) (c : Int) (n : Nat) : wlR u c (n + 1) = wlR u c n ++ (u ++ [c]) := by
  unfold wlR; rw [List.replicate_succ', List.flatten_append]; simp
theorem wlR_len (u : List Int) (c : Int) : ∀ n, (wlR u c n).length = n * (u.length + 1)
  | 0 => by simp [wlR]
  | n + 1 => by rw [wlR_succ, List.length_append, wlR_len u c n, List.length_append, Nat.succ_mul]; rfl
theorem wordsU_rep {u : List Int} {c : Int} (hu : ∀ x ∈ u, letB x = true) (hc : letB c = false) : ∀ n, wordsU (wlR u c n) = if 3 ≤ u.length ∧ u.length ≤ 24 then List.replicate n (bU u) else []
  | 0 => by rw [show wlR u c 0 = [] by simp [wlR], wordsU_nil]; split <;> rfl
  | n + 1 => by
    have e : wlR u c (n + 1) = u ++ c :: wlR u c n := by unfold wlR; rw [List.replicate_succ, List.flatten_cons, List.append_assoc]; rfl
    rw [e, wordsU_word hu hc, wordsU_rep hu hc n]
    split
    · rw [List.replicate_succ]; rfl
    · rfl
theorem one_of {α : Type} {l : List α} (h : l.length = 1) : ∃ a, l = [a] := by
  match l, h with
  | [a], _ => exact ⟨a, rfl⟩
section
variable {w : World}
theorem awake21_any : Calls P n_valiselaw21_awake #[] w (fun e w' => e = .returned (.bool true) ∧ Ev w w') := by
  have hin : inR .u8 [97, 98, 99, 32, 97, 98, 99] := fun x hx => by simp at hx; rcases hx with rfl | rfl | rfl | rfl | rfl | rfl | rfl <;> decide
  have hp : wordsU [97, 98, 99, 32, 97, 98, 99] = List.replicate 2 [97, 98, 99] := by decide +kernel
  refine of_valiselaw21_awake (fLitC [97, 98, 99, 32, 97, 98, 99] (Fr.start w) rfl rfl hin fun v w2 f2 => gCall_of (Find_any (Cn.nm (f2.get 0 rfl)) (by decide)) ?_)
  rintro _ w3 ⟨t, T, rfl, hT, g3⟩
  rw [hp, findU_rep, if_pos (by decide)] at hT
  have f3 := f2.glue g3
  obtain ⟨u, rfl⟩ : ∃ u, T = [u] := by
    exact one_of (by have := congrArg List.length hT; simpa using this)
  obtain ⟨s1, s2⟩ := wdP_at f3
  have hu : u.2 = [97, 98, 99] := by simp at hT; rw [hT]; rfl
  have hN := s2 u List.mem_cons_self
  rw [hu] at hN
  refine ⟨_, rfl, gLen_slv s1 (gIf_eq (fun _ => gIdx_1 s1 (by decide) (by simp) fun a x hx hc _ => ?_) (fun h => (h rfl).elim))⟩
  have hx : x = u.1 := by simpa using hx.symm
  subst hx
  refine gLoad_v hc (gConv_bs hN ⟨?_, f3.old⟩)
  show Ending.returned (.bool ((bsOf [97, 98, 99]).toList == (ByteArray.mk #[97, 98, 99]).toList)) = _
  rw [show ByteArray.mk #[97, 98, 99] = bsOf [97, 98, 99] by decide]; simp
theorem awake21_end {w0 : World} (h : Ev w0 w) : gCall P n_valiselaw21_awake shB #[] w fun t ww => Holds w0 (.returned (.bool t)) ww := gCall_b awake21_any fun _ h2 => ⟨rfl, h.trans h2⟩
def ltrs (xs : List Int) : List Int := (xs.take 30).map fun x => 97 + x % 26
theorem ltrs_next {xs : List Int} {k : Nat} (h1 : k < xs.length) (h2 : k < 30) : (ltrs xs).take (k + 1) = (ltrs xs).take k ++ [97 + rd xs (k : Int) % 26] := by
  have hl : k < (ltrs xs).length := by unfold ltrs; rw [List.length_map, List.length_take]; omega
  rw [List.take_succ_eq_append_getElem hl, rd_nat xs k h1]
  simp [ltrs]
theorem WordsOften_law {l0 : Value} {xs : List Int} {n1 c2 : Int} (hb : Nm .u8 w l0 xs) (_ : IntKind.i64.min ≤ n1 ∧ n1 ≤ IntKind.i64.max) (hc : IntKind.u8.min ≤ c2 ∧ c2 ≤ IntKind.u8.max) : Calls P n_valiselaw21_WordsOften #[l0, .int .i64 n1, .int .u8 c2] w (Holds w) := by
  have hc2 : 0 ≤ c2 ∧ c2 < 256 := by simp [IntKind.min, IntKind.max, IntKind.signed, IntKind.bits] at hc; omega
  have un : 0 ≤ u64 n1 := by rw [u64_def]; omega
  obtain ⟨n, en, hn4⟩ : ∃ n : Nat, i64 (Int.tmod (u64 n1) 5) = (n : Int) ∧ n ≤ 4 := by
    refine ⟨(u64 n1 % 5).toNat, ?_, by omega⟩
    rw [Int.tmod_eq_emod_of_nonneg un, i64_id (by omega) (by omega)]; omega
  have aw := awake21_end (Ch.refl No w)
  refine of_valiselaw21_WordsOften ⟨fun w' => w' = w ∧ letB c2 = false, ?_, ?_⟩
  · refine gIf_dec (fun h1 => gIf_ndec (fun h2 => gIf_dec (fun h3 => gIf_dec (fun h4 => aw) (fun h4 => ?_)) (fun h3 => ?_)) (fun h2 => aw)) (fun h1 => gIf_dec (fun h3 => gIf_dec (fun h4 => aw) (fun h4 => ?_)) (fun h3 => ?_))
    all_goals exact ⟨rfl, by unfold letB; exact decide_eq_false (by omega)⟩
  rintro _ w1 ⟨hw1, hlc⟩
  obtain rfl : w = w1 := hw1.symm
  have hll : (ltrs xs).length = min 30 xs.length := by unfold ltrs; rw [List.length_map, List.length_take]
  have hlet : ∀ x ∈ ltrs xs, letB x = true := fun x hx => by
    unfold ltrs at hx
    obtain ⟨y, _, rfl⟩ := List.mem_map.1 hx
    exact decide_eq_true (by omega)
  have hlu : inR .u8 (ltrs xs) := fun x hx => by
    have := of_decide_eq_true (hlet x hx)
    simp [IntKind.min, IntKind.max, IntKind.signed, IntKind.bits]; omega
  refine ⟨fun w7 w' => Fr w w' [oIt .u8 eB w7 (ltrs xs)], ⟨fun w7 i w' => ∃ k : Nat, i = (k : Int) ∧ k ≤ min 30 xs.length ∧ Fr w w' [oIt .u8 eB w7 ((ltrs xs).take k)], fun _ i _ => (30 - i).toNat, ⟨0, rfl, Nat.zero_le _, (Fr.start w).nil0 .u8 eB⟩, ?_⟩, ?_⟩
  · rintro _ w7 i w2 ⟨k, rfl, hk, f2⟩
    have fin : min 30 xs.length ≤ k → Fr w w2 [oIt .u8 eB w7 (ltrs xs)] := fun h => by rwa [List.take_of_length_le (by omega)] at f2
    have hb2 := hb.ev f2.old
    refine gLen_nm hb2 (gIf_dec (fun h1 => gIf_dec (fun h2 => gGet hb2 (by omega) (by omega) ?_) (fun h2 => fin (by omega))) (fun h1 => fin (by omega)))
    have hr := rd_u8 hb.2 (k : Int)
    rw [Int.tmod_eq_emod_of_nonneg hr.1, show u8 (97 + rd xs (k : Int) % 26) = 97 + rd xs (k : Int) % 26 by rw [u8_def]; omega]
    refine fAppB rfl f2 (by omega) (by rw [List.length_take]; omega) fun b' w' f' => ⟨⟨k + 1, by rw [i64_id (by omega) (by omega)]; omega, by omega, ?_⟩, by dsimp only; rw [i64_id (by omega) (by omega)]; omega⟩
    rw [ltrs_next (by omega) (by omega)]; exact f'
  rintro _ w7 w3 f3
  rw [en]
  refine ⟨fun b9 i w' => ∃ k : Nat, i = (k : Int) ∧ k ≤ n ∧ Fr w w' [oIt .u8 eB b9 (wlR (ltrs xs) c2 k), oIt .u8 eB w7 (ltrs xs)], fun _ i _ => (10 - i).toNat, ⟨0, rfl, Nat.zero_le _, f3.nil0 .u8 eB⟩, ?_⟩
  rintro _ b9 i w4 ⟨k, rfl, hk, f4⟩
  have hbl := wlR_len (ltrs xs) c2 k
  have hbl2 : k * ((ltrs xs).length + 1) ≤ 4 * 31 := Nat.mul_le_mul (by omega) (by omega)
  refine gIf_dec (fun hlt => ?_) (fun hge => ?_)
  · refine fApp f4 0 rfl (f4.nm 1 rfl) (by omega) fun v5 w5 f5 => fAppB rfl f5 hc2 (by rw [List.length_append]; omega) fun v6 w6 f6 => ⟨⟨k + 1, by rw [i64_id (by omega) (by omega)]; omega, by omega, ?_⟩, by dsimp only; rw [i64_id (by omega) (by omega)]; omega⟩
    rw [wlR_succ, ← List.append_assoc]; exact f6
  obtain rfl : k = n := by omega
  refine gCall_of (Find_any (f4.nm 0 rfl) (by omega)) ?_
  rintro _ w5 ⟨t, T, rfl, hT, g5⟩
  rw [wordsU_rep hlet hlc] at hT
  have f5 := f4.glue g5
  have none : (¬ (3 ≤ (ltrs xs).length ∧ (ltrs xs).length ≤ 24) ∨ k < 2) → gCall P n_valiselaw21_awake shB #[] w5 fun (t75 : Bool) ww16 => gIf t75 (gLen P t_sl_sl_uint8 t fun (t78 : Nat) => Holds w (.returned (.bool ((t78 : Int) == 0))) ww16) (Holds w (.returned (.bool false)) ww16) := fun h => by
    have hT0 : T = [] := by
      have : T.map (·.2) = [] := by
        rw [hT]
        split
        · rw [findU_rep, if_neg (by omega)]; rfl
        · rw [show ([] : List (List UInt8)) = List.replicate 0 [] from rfl, findU_rep]; rfl
      exact List.map_eq_nil_iff.1 this
    subst hT0
    refine gCall_b awake21_any fun w6 h6 => gIf_t (gLen_slv ((wdP_at f5).1.ev h6) ⟨rfl, f5.old.trans h6⟩)
  refine ⟨t, rfl, fun w' => w' = w5 ∧ (3 ≤ (ltrs xs).length ∧ (ltrs xs).length ≤ 24) ∧ 2 ≤ k, ?_, ?_⟩
  · have hN := (f4.nm 1 rfl).ev g5.old
    refine gLen_nm hN (gIf_ndec (fun h3 => gLen_nm hN (gIf_ndec (fun h24 => gIf_dec (fun h2 => none (.inr (by omega))) (fun h2 => ⟨rfl, by omega, by omega⟩)) (fun h24 => none (.inl (by omega))))) (fun h3 => none (.inl (by omega))))
  · rintro _ w6 ⟨hw6, h3, h2⟩
    obtain rfl : w5 = w6 := hw6.symm
    rw [if_pos h3, findU_rep, if_pos h2] at hT
    obtain ⟨u, rfl⟩ : ∃ u, T = [u] := by
      exact one_of (by have := congrArg List.length hT; simpa using this)
    obtain ⟨s1, s2⟩ := wdP_at f5
    have hu : u.2 = ltrs xs := by simp at hT; rw [hT, iU_bU hlu]
    have hN := s2 u List.mem_cons_self
    rw [hu] at hN
    refine gCall_b awake21_any fun w7' h7 => gIf_t (gLen_slv (s1.ev h7) (gIf_eq (fun _ => gIdx_1 (s1.ev h7) (by decide) (by simp) fun a x hx hc _ => ?_) (fun h => (h rfl).elim)))
    have hx : x = u.1 := by simpa using hx.symm
    subst hx
    refine gLoad_v hc (gCall_b0 (Bytes_any (hN.ev h7) ((f4.nm 1 rfl).ev (g5.old.trans h7))) ⟨?_, f5.old.trans h7⟩)
    rw [decide_eq_true rfl]
end
end Go.Proofs.YtijimpchglmkhaaV

/- What was packed is unpacked: plain; the law WordsBack. -/
namespace Go.Proofs.YtijimpchglmkhaaV
open Go Go.RowKit
theorem unS_lit {L : List (List Int)} {lim : Int} : ∀ {u rest out : List Int}, (∀ c ∈ u, c < 128) → unS L lim (u ++ rest) out = if u = [] ∨ ((out.length + u.length : Nat) : Int) ≤ lim then unS L lim rest (out ++ u) else ([], 5)
  | [], rest, out, _ => by rw [if_pos (.inl rfl)]; simp
  | c :: u, rest, out, h => by
    have hc := h c List.mem_cons_self
    have ih := unS_lit (L := L) (lim := lim) (u := u) (rest := rest) (out := out ++ [c]) fun x hx => h x (List.mem_cons_of_mem _ hx)
    have st : unS L lim (c :: (u ++ rest)) out = if ((out ++ [c]).length : Int) > lim then ([], 5) else unS L lim (u ++ rest) (out ++ [c]) := by
      have := unS_step (M := L) (lim := lim) (xs := c :: (u ++ rest)) (ys := out) (k := 0) (by simp)
      rw [List.drop_zero, show rd (c :: (u ++ rest)) ((0 : Nat) : Int) = c from rfl, if_pos hc] at this
      exact this
    rw [List.cons_append, st, ih, List.length_append, List.length_singleton]
    by_cases h1 : ((out.length + 1 : Nat) : Int) > lim
    · rw [if_pos h1, if_neg (by simp; omega)]
    · rw [if_neg h1]
      by_cases hu : u = []
      · subst hu; rw [if_pos (.inl rfl), if_pos (.inr (by simp; omega))]; simp
      · by_cases h2 : ((out.length + (c :: u).length : Nat) : Int) ≤ lim
        · rw [if_pos (.inr (by simp at h2 ⊢; omega)), if_pos (.inr h2)]; simp
        · rw [if_neg (by simp at h2 ⊢; exact ⟨hu, by omega⟩), if_neg (by simp at h2 ⊢; omega)]
theorem idxW_get {L : List (List Int)} {u : List Int} (h : idxW L u < L.length) : L[idxW L u] = u := by
  have := List.findIdx_getElem (w := h)
  unfold idxW at h ⊢
  simpa using this
theorem run_let : ∀ {xs : List Int}, ∀ c ∈ xs.take (runN xs), letB c = true
  | [], c, h => by simp at h
  | x :: r, c, h => by
    rw [runN] at h
    split at h
    · rename_i hx
      rw [List.take_succ_cons] at h
      rcases List.mem_cons.1 h with rfl | h
      · exact hx
      · exact run_let c h
    · simp at h
theorem un_apply {L : List (List Int)} {lim : Int} (hL : L.length ≤ 64) : ∀ (n : Nat) (xs out : List Int), xs.length ≤ n → inR .u8 xs → unS L lim (applyW L xs) out = if xs = [] ∨ ((out.length + xs.length : Nat) : Int) ≤ lim then (out ++ xs, 0) else ([], 5)
  | 0, xs, out, h, _ => by
    obtain rfl : xs = [] := List.eq_nil_of_length_eq_zero (by omega)
    rw [applyW_nil, unS_nil, if_pos (.inl rfl), List.append_nil]
  | n + 1, xs, out, h, hx => by
    by_cases he : xs = []
    · subst he; rw [applyW_nil, unS_nil, if_pos (.inl rfl), List.append_nil]
    have h0 : 0 < xs.length := List.length_pos_iff.2 he
    have hm1 := mxR_pos xs
    have hrl := runN_le xs
    have hm2 : mxR xs ≤ xs.length := by unfold mxR; split <;> omega
    have hsp : xs.take (mxR xs) ++ xs.drop (mxR xs) = xs := List.take_append_drop _ _
    have hdl : (xs.drop (mxR xs)).length = xs.length - mxR xs := List.length_drop
    have htl : (xs.take (mxR xs)).length = mxR xs := by rw [List.length_take]; omega
    have ih := fun out => un_apply (lim := lim) hL n (xs.drop (mxR xs)) out (by omega) (hx.drop _)
    -- one token: as it is put behind, held against the limit
    have key : unS L lim (tokW L xs ++ applyW L (xs.drop (mxR xs))) out = if ((out.length + mxR xs : Nat) : Int) ≤ lim then unS L lim (applyW L (xs.drop (mxR xs))) (out ++ xs.take (mxR xs)) else ([], 5) := by
      generalize applyW L (xs.drop (mxR xs)) = R
      have hr0 := rd_u8 hx 0
      have t1 : runN xs = 0 → xs.take (mxR xs) = [rd xs 0] := fun hz => by
        have : mxR xs = 1 := by unfold mxR; rw [hz]; rfl
        have e : rd xs 0 = xs[0] := rd_nat xs 0 h0
        rw [this, e]
        match xs, h0 with
        | x :: r, _ => rfl
      unfold tokW
      by_cases h1 : 0 < runN xs ∧ idxW L (xs.take (runN xs)) < L.length
      · rw [if_pos h1]
        have hg := idxW_get h1.2
        have hmx : mxR xs = runN xs := by unfold mxR; rw [if_neg (by omega)]
        rw [hmx]
        have hul : (xs.take (runN xs)).length = runN xs := by rw [List.length_take]; omega
        obtain ⟨q, hq⟩ : ∃ q, q = idxW L (xs.take (runN xs)) := ⟨_, rfl⟩
        have hqL := h1.2
        simp only [← hq] at hg hqL ⊢
        have := unS_step (M := L) (lim := lim) (xs := (128 + (q : Int)) :: R) (ys := out) (k := 0) (by simp)
        rw [List.drop_zero, show rd ((128 + (q : Int)) :: R) ((0 : Nat) : Int) = 128 + (q : Int) from rfl, if_neg (by omega), if_neg (by omega), if_pos (by omega), show (128 + (q : Int) - 128).toNat = q by omega, List.getD_eq_getElem?_getD, List.getElem?_eq_getElem hqL, Option.getD_some, hg, List.length_append, hul] at this
        rw [List.singleton_append, this]
        by_cases hh : ((out.length + runN xs : Nat) : Int) ≤ lim
        · rw [if_neg (by omega), if_pos hh]; rfl
        · rw [if_pos (by omega), if_neg hh]
      · rw [if_neg h1]
        by_cases h2 : 0 < runN xs
        · rw [if_pos h2]
          have hmx : mxR xs = runN xs := by unfold mxR; rw [if_neg (by omega)]
          rw [hmx]
          have hul : (xs.take (runN xs)).length = runN xs := by rw [List.length_take]; omega
          rw [unS_lit fun c hc => by have := of_decide_eq_true (run_let c hc); omega, hul]
          have hne : xs.take (runN xs) ≠ [] := fun e => by rw [e] at hul; simp at hul; omega
          by_cases hh : ((out.length + runN xs : Nat) : Int) ≤ lim
          · rw [if_pos (.inr hh), if_pos hh]
          · rw [if_neg (by rintro (h | h); exact hne h; exact hh h), if_neg hh]
        · rw [if_neg h2, t1 (by omega)]
          have hm : mxR xs = 1 := by unfold mxR; rw [if_pos (by omega)]
          rw [hm]
          by_cases h3 : rd xs 0 ≥ 128
          · rw [if_pos h3]
            have := unS_step (M := L) (lim := lim) (xs := 255 :: rd xs 0 :: R) (ys := out) (k := 0) (by simp)
            rw [List.drop_zero, show rd (255 :: rd xs 0 :: R) ((0 : Nat) : Int) = 255 from rfl, if_neg (by decide), if_pos rfl, if_neg (by simp), show rd (255 :: rd xs 0 :: R) ((0 + 1 : Nat) : Int) = rd xs 0 from rfl, if_neg (by omega), List.length_append, List.length_singleton] at this
            rw [show [255, rd xs 0] ++ R = 255 :: rd xs 0 :: R from rfl, this]
            by_cases hh : ((out.length + 1 : Nat) : Int) ≤ lim
            · rw [if_neg (by omega), if_pos hh]; rfl
            · rw [if_pos (by omega), if_neg hh]
          · rw [if_neg h3, unS_lit fun c hc => by rw [List.mem_singleton.1 hc]; omega, List.length_singleton]
            by_cases hh : ((out.length + 1 : Nat) : Int) ≤ lim
            · rw [if_pos (.inr hh), if_pos hh]
            · rw [if_neg (by simp; omega), if_neg hh]
    rw [applyW_step he, key, ih, List.append_assoc, hsp, List.length_append, htl, hdl]
    by_cases hh : ((out.length + xs.length : Nat) : Int) ≤ lim
    · rw [if_pos (show ((out.length + mxR xs : Nat) : Int) ≤ lim by omega), if_pos (.inr (by omega)), if_pos (.inr hh)]
    · rw [if_neg (show ¬ (xs = [] ∨ ((out.length + xs.length : Nat) : Int) ≤ lim) from fun h => h.elim he hh)]
      by_cases h4 : ((out.length + mxR xs : Nat) : Int) ≤ lim
      · rw [if_pos h4, if_neg]
        rintro (h5 | h5)
        · have := congrArg List.length h5
          rw [hdl] at this; simp at this; omega
        · omega
      · rw [if_neg h4]
theorem undo_apply {L : List (List Int)} {xs : List Int} (limit : Int) (hL : L.length ≤ 64) (hx : inR .u8 xs) : undoW L (applyW L xs) limit = if (xs.length : Int) > (if 0 > limit then 0 else limit) then ([], 5) else (xs, 0) := by
  unfold undoW
  rw [List.take_of_length_le hL, un_apply hL xs.length xs [] (Nat.le_refl _) hx]
  generalize hmx : (if 0 > limit then 0 else limit) = mx
  have h0 : 0 ≤ mx := by rw [← hmx]; split <;> omega
  by_cases h : (xs.length : Int) > mx
  · rw [if_pos h, if_neg]
    rintro (h1 | h1)
    · rw [h1] at h; simp at h; omega
    · simp at h1; omega
  · rw [if_neg h, if_pos (.inr (by simp; omega)), List.nil_append]
theorem wordsU_let {xs : List Int} (hx : inR .u8 xs) : ∀ (n : Nat), xs.length ≤ n → ∀ s ∈ wordsU xs, ∀ c ∈ iU s, letB c = true := by
  intro n
  induction n generalizing xs with
  | zero =>
    intro h s hs
    obtain rfl : xs = [] := List.eq_nil_of_length_eq_zero (by omega)
    cases hs
  | succ n ih =>
    intro h s hs
    by_cases he : xs = []
    · subst he; cases hs
    have h0 : 0 < xs.length := List.length_pos_iff.2 he
    rw [wordsU_step he] at hs
    rcases List.mem_append.1 hs with hs | hs
    · split at hs
      · rw [List.mem_singleton.1 hs, iU_bU (hx.take _)]
        exact run_let
      · cases hs
    · exact ih (hx.drop _) (by rw [List.length_drop]; split <;> omega) s hs
theorem runN_all : ∀ {u : List Int}, (∀ c ∈ u, letB c = true) → runN u = u.length
  | u, h => by have := runN_app (u := u) (rest := []) h (fun c r h => by cases h); rwa [List.append_nil] at this
theorem wordsR_of {xs rest : List Int} {a0 : Nat} {L : List (List Int)} (hL : ∀ u ∈ L, 3 ≤ u.length ∧ u.length ≤ 24 ∧ ∀ c ∈ u, letB c = true) (ha : a0 ≤ xs.length) (hx : xs.drop a0 = txtB L ++ rest) : ∀ k, k ≤ L.length → wordsR xs a0 k = .inl (L.take k, a0 + (txtB (L.take k)).length) := by
  intro k
  induction k with
  | zero => intro _; rw [wordsR]; simp [txtB]
  | succ k ih =>
    intro hk
    obtain ⟨h3, h24, hlet⟩ := hL L[k] (List.getElem_mem (by omega))
    have hsp : txtB L = txtB (L.take k) ++ (numB L[k].length ++ (L[k] ++ txtB (L.drop (k + 1)))) := by
      have e1 : txtB L = txtB (L.take (k + 1)) ++ txtB (L.drop (k + 1)) := by
        unfold txtB
        conv => lhs; rw [← List.take_append_drop (k + 1) L]
        rw [List.map_append, List.flatten_append]
      rw [e1, txtB_next (by omega)]; simp only [List.append_assoc]
    have hd : xs.drop (a0 + (txtB (L.take k)).length) = numB L[k].length ++ (L[k] ++ (txtB (L.drop (k + 1)) ++ rest)) := by
      rw [← List.drop_drop, hx, hsp]
      simp only [List.append_assoc, List.drop_left]
    have hlen : a0 + (txtB (L.take k)).length ≤ xs.length := by
      have h1 : (txtB L).length ≤ xs.length - a0 := by rw [← List.length_drop, hx, List.length_append]; omega
      rw [hsp, List.length_append] at h1; omega
    have htx := textR_of (xs := xs) (ys := L[k]) (a := a0 + (txtB (L.take k)).length) (m := 24) (by omega) (by omega) hlen hd
    rw [wordsR, ih (by omega)]
    dsimp only
    rw [htx]
    dsimp only
    rw [if_neg (show ¬ ((0 : Int) ≠ 0) from fun h => h rfl), runN_all hlet, if_neg (by omega), txtB_next (by omega), List.take_succ_eq_append_getElem (by omega)]
    congr 2
    simp only [List.length_append]; omega
theorem findW_let {xs : List Int} (hx : inR .u8 xs) : ∀ u ∈ findW xs, 3 ≤ u.length ∧ u.length ≤ 24 ∧ ∀ c ∈ u, letB c = true := fun u hu => by
  have h1 := (findW_rg xs).2 u hu
  unfold findW at hu
  obtain ⟨s, hs, rfl⟩ := List.mem_map.1 hu
  exact ⟨h1.1, h1.2, wordsU_let hx xs.length (Nat.le_refl _) s ((findU_sub _).2 s hs).1⟩
theorem unpack_packWd {xs : List Int} (hx : inR .u8 xs) (hok : (packWd xs).2 = true) (limit : Int) : unpackWd (packWd xs).1 limit = if (xs.length : Int) > (if 0 > limit then 0 else limit) then ([], 5) else (xs, 0) := by
  have hc : ¬ (findW xs = [] ∨ xs.length > 1048576) := fun h => by unfold packWd at hok; rw [if_pos h] at hok; cases hok
  have hp : (packWd xs).1 = numB (findW xs).length ++ (txtB (findW xs) ++ applyW (findW xs) xs) := by unfold packWd; rw [if_neg hc, List.append_assoc]
  have hrg := findW_rg xs
  have hlet := findW_let hx
  have hne : findW xs ≠ [] := fun h => hc (.inl h)
  have hl0 : 0 < (findW xs).length := List.length_pos_iff.2 hne
  obtain ⟨ys, hys⟩ : ∃ ys, ys = (packWd xs).1 := ⟨_, rfl⟩
  rw [← hys] at hp ⊢
  have hnum : numR ys 0 0 18446744073709551615 = (((findW xs).length : Int), 0 + (numB (findW xs).length).length, 0) := numR_of (rest := txtB (findW xs) ++ applyW (findW xs) xs) (by omega) (by omega) (by rw [List.drop_zero]; exact hp)
  have hd : ys.drop (0 + (numB (findW xs).length).length) = txtB (findW xs) ++ applyW (findW xs) xs := by rw [Nat.zero_add, hp, List.drop_left]
  have hle : 0 + (numB (findW xs).length).length ≤ ys.length := by rw [hp, List.length_append]; omega
  have hw := wordsR_of hlet hle hd (findW xs).length (Nat.le_refl _)
  rw [List.take_length] at hw
  unfold unpackWd
  rw [hnum]
  dsimp only
  rw [if_neg (show ¬ ((0 : Int) ≠ 0) from fun h => h rfl), if_neg (by omega), Int.toNat_natCast, hw]
  dsimp only
  rw [← List.drop_drop, hd, List.drop_left, undo_apply _ hrg.1 hx]
  have hxl : xs.length ≤ 1048576 := by omega
  by_cases h : (xs.length : Int) > (if 0 > limit then 0 else limit)
  · rw [if_pos h, if_pos (by split at h <;> (try split) <;> (try split) <;> omega)]
  · rw [if_neg h, if_neg (by split at h <;> (try split) <;> (try split) <;> omega)]
section
variable {w : World}
theorem packWd_len {xs : List Int} (hl : xs.length ≤ 1048576) : (packWd xs).1.length ≤ 5000000 := by
  have hrg := findW_rg xs
  have h1 := applyW_len (findW xs) xs
  have h2 := txtB_len (L := findW xs) fun u hu => (hrg.2 u hu).2
  have h3 : (numB (findW xs).length).length ≤ 10 := numB_len64 (by omega)
  unfold packWd
  split
  · exact Nat.zero_le _
  · simp only [List.length_append]; omega
theorem WordsBack_law {b : Value} {xs : List Int} (hb : Nm .u8 w b xs) : Calls P n_valiselaw21_WordsBack #[b] w (Holds w) := by
  refine of_valiselaw21_WordsBack (gLen_nm hb (gIf_dec (fun _ => awake21_end (Ch.refl _ w)) (fun hgt => ?_)))
  have hl : xs.length ≤ 3000 := by omega
  have hpl := packWd_len (xs := xs) (by omega)
  refine gCall_of (wPack_any hb (by omega)) ?_
  rintro _ w2 ⟨x, rfl, h2, nx⟩
  have none : (packWd xs).2 = false → ∀ {w3 : World}, Ev w2 w3 → gCall P n_valiselaw21_awake shB #[] w3 fun (t27 : Bool) ww6 => gIf t27 (gCall P n_words_Find shV #[b] ww6 fun (t30 : Value) ww7 => gLen P t_sl_sl_uint8 t30 fun (t31 : Nat) => Holds w (.returned (.bool ((t31 : Int) == 0))) ww7) (Holds w (.returned (.bool false)) ww6) := fun hf w3 h3 => by
    refine gCall_b awake21_any fun w4 h4 => gIf_t (gCall_of (Find_any (hb.ev (h2.trans (h3.trans h4))) (by omega)) ?_)
    intro e w5 hF
    obtain ⟨t9, T, rfl, hT, f5, hN⟩ := hF.nl
    have h0 : findW xs = [] := Decidable.byContradiction fun hne => by unfold packWd at hf; rw [if_neg (fun h => h.elim hne (by omega))] at hf; cases hf
    rw [h0] at hN
    exact ⟨t9, rfl, gLen_nl hN ⟨rfl, h2.trans (h3.trans (h4.trans f5.old))⟩⟩
  refine ⟨_, _, rfl, fun w' => Ev w2 w' ∧ (packWd xs).2 = true, gCall_b awake21_any fun w3 h3 => gIf_nn (gIf_nb (fun hf => none hf h3) (fun ht => ⟨h3, ht⟩)), ?_⟩
  rintro _ w3 ⟨h3, hok⟩
  have un := unpack_packWd hb.2 hok
  have nb3 := hb.ev (h2.trans h3)
  have nx3 := nx.nm.ev h3
  have U : ∀ {w' : World} (m : Int), Nm .u8 w' x (packWd xs).1 → Calls P n_words_Unpack #[x, .int .i64 m] w' (TupE w' (if (xs.length : Int) > (if 0 > m then 0 else m) then ([], 5) else (xs, 0))) := fun m hn => by
    rw [← un m]; exact wUnpack_any hn (by omega)
  have hpos : 1 ≤ xs.length := by
    refine Decidable.byContradiction fun hc => ?_
    have : xs = [] := List.eq_nil_of_length_eq_zero (by omega)
    subst this
    have hf : findW [] = [] := by
      refine List.eq_nil_iff_forall_not_mem.2 fun u hu => ?_
      unfold findW at hu
      obtain ⟨s, hs, _⟩ := List.mem_map.1 hu
      have := ((findU_sub _).2 s hs).1; cases this
    unfold packWd at hok
    rw [if_pos (.inl hf)] at hok; cases hok
  have U1 := U (xs.length : Int) nx3
  rw [if_neg (show ¬ ((xs.length : Int) > (if 0 > (xs.length : Int) then 0 else (xs.length : Int))) by omega)] at U1
  refine gLen_nm nb3 (gCall_of U1 ?_)
  rintro _ w4 ⟨c, rfl, h4, nc⟩
  refine ⟨_, _, rfl, gLen_nm (nb3.ev h4) ?_⟩
  rw [i64_id (n := (xs.length : Int) - 1) (by omega) (by omega)]
  have U2 := U ((xs.length : Int) - 1) (nx3.ev h4)
  rw [if_pos (show ((xs.length : Int) > (if 0 > (xs.length : Int) - 1 then 0 else (xs.length : Int) - 1)) by omega)] at U2
  refine gCall_of U2 ?_
  rintro _ w5 ⟨d, rfl, h5, nd⟩
  refine ⟨_, _, rfl, gCall_of (Find_any (nb3.ev (h4.trans h5)) (by omega)) ?_⟩
  intro e w6 hF
  obtain ⟨t50, T, rfl, hT, f6, hN⟩ := hF.nl
  have h6 := f6.old
  have hrg := findW_rg xs
  refine ⟨t50, rfl, gCall_of (Apply_any (nb3.ev (h4.trans (h5.trans h6))) (by omega) hN) ?_⟩
  rintro _ w7 ⟨t54, rfl, h7, o7⟩
  have hal := applyW_len (findW xs) xs
  rw [List.take_of_length_le hrg.1] at o7
  have h47 := h4.trans (h5.trans (h6.trans h7))
  refine ⟨t54, rfl, gLen_nm (nb3.ev h47) (gCall_of (Undo_any (limit := (xs.length : Int)) o7.nm (by omega) (hN.ev h7) (fun u hu => by have := hrg.2 u hu; omega)) ?_)⟩
  rintro _ w8 ⟨g, rfl, h8, ng⟩
  rw [undo_apply _ hrg.1 hb.2, if_neg (show ¬ ((xs.length : Int) > (if 0 > (xs.length : Int) then 0 else (xs.length : Int))) by omega)] at ng ⊢
  have h48 := h47.trans h8
  have hev := h2.trans (h3.trans h48)
  exact ⟨_, _, rfl, gIf_eq (fun _ => gCall_b0 (Bytes_any (nb3.ev h48) (nc.nm.ev (h5.trans (h6.trans (h7.trans h8))))) (gIf_dec (fun _ => gIf_eq (fun _ => gIf_eq (fun _ => gCall_b0 (Bytes_any ng.nm (nb3.ev h48)) ⟨by rw [decide_eq_true rfl], hev⟩) (fun h => (h rfl).elim)) (fun h => (h rfl).elim)) (fun h => (h rfl).elim))) (fun h => (h rfl).elim)⟩
end
end Go.Proofs.YtijimpchglmkhaaV

/- The law WordsMany. -/
namespace Go.Proofs.YtijimpchglmkhaaV
open Go Go.RowKit
def wM (i : Nat) : List UInt8 := [UInt8.ofNat (97 + i / 26), UInt8.ofNat (97 + i % 26), 120, 121]
def wI (i : Nat) : List Int := [97 + ((i / 26 : Nat) : Int), 97 + ((i % 26 : Nat) : Int), 120, 121]
def blkM (n : Nat) : List Int := ((List.range n).map fun i => wI i ++ [32]).flatten
def manyW (n : Nat) : List (List UInt8) := (List.range n).map wM
theorem blkM_succ (n : Nat) : blkM (n + 1) = blkM n ++ (wI n ++ [32]) := by unfold blkM; rw [List.range_succ, List.map_append, List.flatten_append]; simp
theorem blkM_len : ∀ n, (blkM n).length = 5 * n
  | 0 => rfl
  | n + 1 => by rw [blkM_succ, List.length_append, blkM_len n]; simp [wI]; omega
theorem iU_wM {i : Nat} (h : i < 120) : iU (wM i) = wI i := by
  unfold iU wM wI
  simp only [List.map_cons, List.map_nil, UInt8.toNat_ofNat']
  have h1 : (97 + i / 26) % 2 ^ 8 = 97 + i / 26 := Nat.mod_eq_of_lt (by omega)
  have h2 : (97 + i % 26) % 2 ^ 8 = 97 + i % 26 := Nat.mod_eq_of_lt (by omega)
  rw [h1, h2]; rfl
theorem bU_iU (l : List UInt8) : bU (iU l) = l := iU_inj (by rw [iU_bU (iU_u8 l)])
theorem wordsU_blk : ∀ (n : Nat) (rest : List Int), n ≤ 120 → wordsU (blkM n ++ rest) = manyW n ++ wordsU rest
  | 0, rest, _ => by simp [blkM, manyW]
  | n + 1, rest, h => by
    have hlet : ∀ x ∈ wI n, letB x = true := fun x hx => by
      unfold wI at hx
      simp only [List.mem_cons, List.not_mem_nil, or_false] at hx
      unfold letB
      rcases hx with rfl | rfl | rfl | rfl <;> exact decide_eq_true (by omega)
    have e : blkM (n + 1) ++ rest = blkM n ++ (wI n ++ 32 :: rest) := by rw [blkM_succ]; simp
    have hb : bU (wI n) = wM n := by rw [← iU_wM (by omega), bU_iU]
    rw [e, wordsU_blk n _ (by omega), wordsU_word hlet (by decide), if_pos (by simp [wI]), hb]
    unfold manyW
    rw [List.range_succ, List.map_append]; simp
theorem wM_lt {i j : Nat} (h : i < j) (hj : j < 120) : wM i < wM j := by
  have e : ∀ q : Nat, q < 100 → (UInt8.ofNat (97 + q)).toNat = 97 + q := fun q hq => by rw [UInt8.toNat_ofNat']; exact Nat.mod_eq_of_lt (by omega)
  have h1 := e (i / 26) (by omega)
  have h2 := e (j / 26) (by omega)
  have h3 := e (i % 26) (by omega)
  have h4 := e (j % 26) (by omega)
  unfold wM
  rw [List.cons_lt_cons_iff, List.cons_lt_cons_iff]
  by_cases hq : i / 26 < j / 26
  · exact .inl (UInt8.lt_iff_toNat_lt.2 (by omega))
  · have he : i / 26 = j / 26 := by omega
    refine .inr ⟨by rw [he], .inl (UInt8.lt_iff_toNat_lt.2 (by omega))⟩
theorem manyW_up (n : Nat) (hn : n ≤ 120) : (manyW n).Pairwise (· < ·) := by
  unfold manyW
  rw [List.pairwise_map]
  refine (List.pairwise_lt_range (n := n)).imp_of_mem fun {a b} ha hb h => wM_lt h (by have := List.mem_range.1 hb; omega)
theorem manyW_nodup (n : Nat) (hn : n ≤ 120) : (manyW n).Nodup := (manyW_up n hn).imp fun {a b} h e => by subst e; exact lt_irrU a h
theorem findU_many (n : Nat) (hn : n ≤ 120) : findU (manyW n ++ manyW n) = (manyW n).take 64 := by
  have hc : ∀ s ∈ manyW n, (manyW n ++ manyW n).count s = 2 := fun s hs => by
    rw [List.count_append, (manyW_nodup n hn).count, if_pos hs]
  have hlen : ∀ s ∈ manyW n, s.length = 4 := fun s hs => by
    unfold manyW at hs
    obtain ⟨i, _, rfl⟩ := List.mem_map.1 hs
    rfl
  have hsort : sortedU (manyW n ++ manyW n) = manyW n := by
    refine rise_eq (fun x => (manyW n ++ manyW n).count x) (sortedU_rise _) ((manyW_up n hn).imp_of_mem fun {a b} ha hb h => ltU_iff.2 (.inr ⟨?_, h⟩)) fun x => by rw [mem_sortedU, List.mem_append]; simp
    unfold wth
    simp only [hc a ha, hc b hb, hlen a ha, hlen b hb]
  unfold findU
  rw [hsort, List.filter_eq_self.2 fun s hs => by rw [hc s hs]; decide]
def highN (xs : List Int) : Nat := xs.countP fun c => decide (c ≥ 128)
theorem tokW_high {L : List (List Int)} {xs : List Int} (h : xs ≠ []) : (tokW L xs).length ≤ mxR xs + highN (xs.take (mxR xs)) := by
  have h0 : 0 < xs.length := List.length_pos_iff.2 h
  have h1 := mxR_pos xs
  unfold tokW
  split
  · simp; omega
  · split
    · rw [List.length_take]; unfold mxR; split <;> omega
    · rename_i h2
      have hm : mxR xs = 1 := by unfold mxR; rw [if_pos (by omega)]
      rw [hm]
      match xs, h0 with
      | c :: r, _ =>
        have e : rd (c :: r) 0 = c := rfl
        rw [e]
        by_cases h3 : c ≥ 128
        · rw [if_pos h3]; simp [highN, h3]
        · rw [if_neg h3]; simp
theorem apply_high (L : List (List Int)) : ∀ (n : Nat) (xs : List Int), xs.length ≤ n → (applyW L xs).length ≤ xs.length + highN xs
  | 0, xs, h => by
    obtain rfl : xs = [] := List.eq_nil_of_length_eq_zero (by omega)
    exact Nat.zero_le _
  | n + 1, xs, h => by
    by_cases he : xs = []
    · subst he; exact Nat.zero_le _
    have h0 : 0 < xs.length := List.length_pos_iff.2 he
    have h1 := mxR_pos xs
    have h2 : mxR xs ≤ xs.length := by unfold mxR; have := runN_le xs; split <;> omega
    have ih := apply_high L n (xs.drop (mxR xs)) (by rw [List.length_drop]; omega)
    have ht := tokW_high (L := L) he
    have hs : highN xs = highN (xs.take (mxR xs)) + highN (xs.drop (mxR xs)) := by
      unfold highN
      rw [← List.countP_append, List.take_append_drop]
    rw [List.length_drop] at ih
    rw [applyW_step he, List.length_append]; omega
section
variable {w : World}
theorem WordsMany_law {b : Value} {xs : List Int} {n0 : Int} (_ : IntKind.i64.min ≤ n0 ∧ n0 ≤ IntKind.i64.max) (hb : Nm .u8 w b xs) (hbig : xs.length ≤ maxLen) : Calls P n_valiselaw21_WordsMany #[.int .i64 n0, b] w (Holds w) := by
  have un : 0 ≤ u64 n0 := by rw [u64_def]; omega
  obtain ⟨n, en, hn⟩ : ∃ n : Nat, i64 (Int.tmod (u64 n0) 120) = (n : Int) ∧ n ≤ 119 := by
    refine ⟨(u64 n0 % 120).toNat, ?_, by omega⟩
    rw [Int.tmod_eq_emod_of_nonneg un, i64_id (by omega) (by omega)]; omega
  refine of_valiselaw21_WordsMany ⟨fun all k w' => ∃ q : Nat, k = (q : Int) ∧ q ≤ 2 ∧ Fr w w' [oIt .u8 eB all ((List.replicate q (blkM n)).flatten)], fun _ k _ => (2 - k).toNat, ⟨0, rfl, by omega, (Fr.start w).nil0 .u8 eB⟩, ?_⟩
  rw [en]
  rintro _ all k w1 ⟨q, rfl, hq, f1⟩
  have hbl := blkM_len n
  have hfl : ((List.replicate q (blkM n)).flatten).length = q * (5 * n) := by rw [List.length_flatten, List.map_replicate, List.sum_replicate_nat, hbl]
  have hqn : q * (5 * n) ≤ 2 * (5 * 119) := Nat.mul_le_mul hq (by omega)
  refine gIf_dec (fun hlt => ?_) (fun hge => ?_)
  · refine ⟨fun all i w' => ∃ p : Nat, i = (p : Int) ∧ p ≤ n ∧ Fr w w' [oIt .u8 eB all ((List.replicate q (blkM n)).flatten ++ blkM p)], fun _ i _ => (n - i).toNat, ⟨0, rfl, Nat.zero_le _, by rw [show blkM 0 = [] from rfl, List.append_nil]; exact f1⟩, ?_⟩
    rintro _ all2 i w2 ⟨p, rfl, hp, f2⟩
    have hpl := blkM_len p
    refine gIf_dec (fun hlt2 => ?_) (fun hge2 => ?_)
    · have e1 : u8 (97 + u8 (i64 (Int.tdiv (p : Int) 26))) = 97 + ((p / 26 : Nat) : Int) := by
        rw [Int.tdiv_eq_ediv_of_nonneg (by omega), i64_id (by omega) (by omega), u8_def, u8_def]; omega
      have e2 : u8 (97 + u8 (Int.tmod (p : Int) 26)) = 97 + ((p % 26 : Nat) : Int) := by
        rw [Int.tmod_eq_emod_of_nonneg (by omega), u8_def, u8_def]; omega
      rw [e1, e2]
      refine fLit_n (wI p) f2 rfl rfl (fun y hy => ?_) fun t w3 f3 => fApp f3 1 rfl (f3.nm 0 rfl) (by rw [List.length_append, hfl, hpl, show (wI p).length = 4 from rfl]; omega) fun v4 w4 f4 => fAppB rfl (f4.picksN 2 [1] (by decide) (by decide)) (by decide) (by rw [List.length_append, List.length_append, hfl, hpl, show (wI p).length = 4 from rfl]; omega) fun v5 w5 f5 => ⟨⟨p + 1, by rw [i64_id (by omega) (by omega)]; omega, by omega, ?_⟩, by dsimp only; rw [i64_id (by omega) (by omega)]; omega⟩
      · unfold wI at hy
        simp only [List.mem_cons, List.not_mem_nil, or_false] at hy
        rcases hy with rfl | rfl | rfl | rfl <;> exact u8i (by omega)
      · rw [blkM_succ]; simpa [List.append_assoc] using f5
    · obtain rfl : p = n := by omega
      refine ⟨⟨q + 1, by rw [i64_id (by omega) (by omega)]; omega, by omega, ?_⟩, by dsimp only; rw [i64_id (by omega) (by omega)]; omega⟩
      rw [List.replicate_succ', List.flatten_append]; simpa using f2
  obtain rfl : q = 2 := by omega
  have h2e : (List.replicate 2 (blkM n)).flatten = blkM n ++ (blkM n ++ []) := by simp [List.replicate]
  have hwd : wordsU ((List.replicate 2 (blkM n)).flatten) = manyW n ++ manyW n := by
    rw [h2e, wordsU_blk n _ (by omega), wordsU_blk n _ (by omega), wordsU_nil, List.append_nil]
  refine gCall_of (Find_any (f1.nm 0 rfl) (by omega)) ?_
  intro e w2 hF
  obtain ⟨t44, T, rfl, hT, g2, hN⟩ := hF.nl
  have hfw : findW ((List.replicate 2 (blkM n)).flatten) = ((manyW n).take 64).map iU := by unfold findW; rw [hwd, findU_many n (by omega)]
  rw [hfw] at hT hN
  obtain ⟨L, hL⟩ : ∃ L, L = ((manyW n).take 64).map iU := ⟨_, rfl⟩
  rw [← hL] at hT hN
  have hLl : L.length = min 64 n := by rw [hL]; simp [manyW]
  have f2 := f1.glue g2
  have e2 := f2.old
  have hmin : (if (64 : Int) < (n : Int) then (64 : Int) else (n : Int)) = ((min 64 n : Nat) : Int) := by split <;> omega
  rw [hmin]
  refine ⟨t44, rfl, fun w' => Ev w2 w' ∧ xs.length ≤ 2000, ?_, ?_⟩
  · refine gCall_b awake21_any fun w3 h3 => gIf_nn (gLen_nl (hN.ev h3) (gIf_nneq (fun heq => gLen_nm (hb.ev (e2.trans h3)) (gIf_dec (fun hgt => gCall_b awake21_any fun w4 h4 => gIf_t (gLen_nm (hb.ev (e2.trans (h3.trans h4))) ⟨by rw [decide_eq_true hgt], e2.trans (h3.trans h4)⟩)) (fun hle => ⟨h3, by omega⟩))) (fun hne => absurd (by omega) hne)))
  rintro _ w3 ⟨h3, hl⟩
  have hN3 := hN.ev h3
  have nb3 := hb.ev (e2.trans h3)
  refine ⟨fun i w' => ∃ q : Nat, i = (q : Int) ∧ 1 ≤ q ∧ (q ≤ L.length ∨ q = 1) ∧ Ev w3 w', fun i _ => (100 - i).toNat, ⟨1, rfl, Nat.le_refl _, .inr rfl, Ch.refl _ _⟩, ?_⟩
  rintro _ i w4 ⟨q, rfl, hq1, hqL, h4⟩
  refine gLen_nl (hN3.ev h4) (gIf_dec (fun hlt => ?_) (fun hge => ?_))
  · obtain ⟨us, s1, s2⟩ := hN3.ev h4
    have hq : q < L.length := by omega
    rw [i64_id (n := (q : Int) - 1) (by omega) (by omega)]
    refine ⟨fun w' => w' = w4.drew, rfl, ?_⟩
    refine gIdx_1 s1 (by omega) (by omega) fun a1 u1 hu1 hc1 _ => gLoadB_v (fun w' h => by rw [h]; exact hc1) (gIdx_1 s1 (by omega) (by omega) fun a2 u2 hu2 hc2 _ => gLoadB_v (fun w' h => by rw [h]; exact hc2) ?_)
    have hk1 : ((q : Int) - 1).toNat = q - 1 := by omega
    rw [hk1] at hu1
    rw [Int.toNat_natCast] at hu2
    have n1 := s2 (q - 1) u1 L[q - 1] hu1 (List.getElem?_eq_getElem (by omega))
    have n2 := s2 q u2 L[q] hu2 (List.getElem?_eq_getElem hq)
    have hlt3 : Op.bytesLess (bsOf L[q - 1]).toList (bsOf L[q]).toList = true := by
      have el : ∀ (j : Nat) (hj : j < L.length), L[j] = iU (wM j) := fun j hj => by simp only [hL, List.getElem_map, List.getElem_take, manyW, List.getElem_range]
      rw [el (q - 1) (by omega), el q hq, bsOf_mk, bsOf_mk, bU_iU, bU_iU, tl_mk, tl_mk]
      exact bytesLess_iff.2 (wM_lt (by omega) (by omega))
    have fin : gIf (!(Op.bytesLess (bsOf L[q - 1]).toList (bsOf L[q]).toList)) (Holds w (.returned (.bool false)) w4.drew) ((∃ q' : Nat, i64 ((q : Int) + 1) = (q' : Int) ∧ 1 ≤ q' ∧ (q' ≤ L.length ∨ q' = 1) ∧ Ev w3 w4.drew) ∧ (100 - i64 ((q : Int) + 1)).toNat < (100 - (q : Int)).toNat) := by
      rw [hlt3]
      refine gIf_nt ⟨⟨q + 1, by rw [i64_id (by omega) (by omega)]; omega, by omega, .inl (by omega), h4.trans (Ev.drew0 w4)⟩, by rw [i64_id (by omega) (by omega)]; omega⟩
    exact ⟨gConv_bs (n1.drew) ⟨rfl, gConv_bs (n2.drew) ⟨rfl, fin⟩⟩, gConv_bs (n2.drew) ⟨rfl, gConv_bs (n1.drew) ⟨rfl, fin⟩⟩⟩
  · have nb4 := nb3.ev h4
    refine ⟨fun hi i w' => ∃ q : Nat, i = (q : Int) ∧ q ≤ xs.length ∧ hi = (highN (xs.take q) : Nat) ∧ w' = w4, fun _ i _ => (xs.length - i).toNat, ⟨0, rfl, Nat.zero_le _, rfl, rfl⟩, ?_⟩
    rintro _ hi i w5 ⟨r, rfl, hr, rfl, hw5⟩
    obtain rfl : w4 = w5 := hw5.symm
    have hhl : highN (xs.take r) ≤ 2000 := by
      have := List.countP_le_length (p := fun c => decide (c ≥ (128 : Int))) (l := xs.take r)
      unfold highN; rw [List.length_take] at this; omega
    refine gLen_nm nb4 (gIf_dec (fun hlt => gGet nb4 (by omega) (by omega) ?_) (fun hge => ?_))
    · have hnx : highN (xs.take (r + 1)) = highN (xs.take r) + (if rd xs (r : Int) ≥ 128 then 1 else 0) := by
        unfold highN
        rw [List.take_succ_eq_append_getElem (by omega), List.countP_append, rd_nat xs r (by omega)]
        by_cases h : xs[r] ≥ 128
        · rw [if_pos h, List.countP_cons_of_pos (by simpa using h)]; rfl
        · rw [if_neg h, List.countP_cons_of_neg (by simpa using h)]; rfl
      refine gIf_dec (fun h128 => ?_) (fun h128 => ?_)
      · rw [if_pos h128] at hnx
        exact ⟨⟨r + 1, by rw [i64_id (by omega) (by omega)]; omega, by omega, by rw [hnx, i64_id (by omega) (by omega)]; omega, rfl⟩, by dsimp only; rw [i64_id (n := (r : Int) + 1) (by omega) (by omega)]; omega⟩
      · rw [if_neg h128] at hnx
        exact ⟨⟨r + 1, by rw [i64_id (by omega) (by omega)]; omega, by omega, by rw [hnx]; rfl, rfl⟩, by dsimp only; rw [i64_id (n := (r : Int) + 1) (by omega) (by omega)]; omega⟩
    · obtain rfl : r = xs.length := by omega
      rw [List.take_length] at hhl ⊢
      have hN4 := hN3.ev h4
      have hLu : ∀ u ∈ L, u.length ≤ 100000 := fun u hu => by
        rw [hL] at hu
        obtain ⟨s, hs, rfl⟩ := List.mem_map.1 hu
        have hs := List.mem_of_mem_take hs
        unfold manyW at hs
        obtain ⟨i, _, rfl⟩ := List.mem_map.1 hs
        rw [iU_len]; simp [wM]
      refine gCall_of (Apply_any nb4 (by omega) hN4) ?_
      rw [List.take_of_length_le (show L.length ≤ 64 by omega)]
      rintro _ w6 ⟨t98, rfl, h6, o6⟩
      have hal := applyW_len L xs
      have hah := apply_high L xs.length xs (Nat.le_refl _)
      refine ⟨t98, rfl, gLen_nm (nb4.ev h6) (gCall_of (Undo_any (limit := (xs.length : Int)) o6.nm (by omega) (hN4.ev h6) hLu) ?_)⟩
      rintro _ w7 ⟨g, rfl, h7, ng⟩
      rw [undo_apply _ (show L.length ≤ 64 by omega) hb.2, if_neg (show ¬ ((xs.length : Int) > (if 0 > (xs.length : Int) then 0 else (xs.length : Int))) by omega)] at ng ⊢
      refine ⟨_, _, rfl, gLen_nm (o6.nm.ev h7) (gLen_nm (nb4.ev (h6.trans h7)) ?_)⟩
      rw [i64_id (n := (xs.length : Int) + ((highN xs : Nat) : Int)) (by omega) (by omega)]
      exact gIf_dec (fun _ => gIf_eq (fun _ => gCall_b0 (Bytes_any ng.nm (nb4.ev (h6.trans h7))) ⟨by rw [decide_eq_true rfl], e2.trans (h3.trans (h4.trans (h6.trans h7)))⟩) (fun h => (h rfl).elim)) (fun h => absurd (by omega) h)
end
end Go.Proofs.YtijimpchglmkhaaV
