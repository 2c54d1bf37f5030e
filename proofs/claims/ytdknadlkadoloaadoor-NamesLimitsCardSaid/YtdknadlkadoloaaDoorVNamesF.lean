/- Sort: the program's and the reference's. -/
import Derived.Test.YtdknadlkadoloaaDoorVNamesE
namespace Go.Proofs.YtdknadlkadoloaaDoorV
open Go Go.RowKit
theorem nlt_tl (a b : ByteArray) : Op.bytesLess a.toList b.toList = nlt a b := by rw [ByteArray.toList_eq, ByteArray.toList_eq]; rfl
theorem tl_eqb (a b : ByteArray) : (a.toList == b.toList) = decide (a = b) := by
  rw [ByteArray.toList_eq, ByteArray.toList_eq]
  obtain ⟨⟨a⟩⟩ := a; obtain ⟨⟨b⟩⟩ := b
  by_cases h : a = b
  · subst h; simp
  · simp [h]
abbrev Names (l : List En) : List ByteArray := l.map (·.1)
theorem adj_up {l : List En} (hw : Upw l) (ha : ∀ i, (hi : i + 1 < l.length) → l[i].1 ≠ l[i + 1].1) : Up l := by
  unfold Up
  rw [List.pairwise_iff_getElem]
  intro i j hi hj hij
  have hw' := List.pairwise_iff_getElem.1 hw
  have h1 : nlt l[i].1 l[i + 1].1 = true := by
    cases hc : nlt l[i].1 l[i + 1].1 with
    | true => rfl
    | false => exact absurd (nlt_tri hc (hw' i (i + 1) hi (by omega) (by omega))) (ha i (by omega))
  by_cases he : j = i + 1
  · subst he; exact h1
  · exact nlt_le h1 (hw' (i + 1) j (by omega) hj (by omega))
theorem adj_dup {l : List En} {i : Nat} (hi : i + 1 < l.length) (h : l[i].1 = l[i + 1].1) : ¬ (l.map (·.1)).Nodup := by
  intro hn
  have := List.pairwise_iff_getElem.1 (List.nodup_iff_pairwise_ne.1 hn) i (i + 1) (by simp; omega) (by simp; omega) (by omega)
  simp at this; exact this h
theorem nodup_snoc {α : Type} {l : List α} {x : α} : (l ++ [x]).Nodup ↔ l.Nodup ∧ x ∉ l := by
  rw [List.nodup_append]
  constructor
  · rintro ⟨h1, _, h3⟩; exact ⟨h1, fun hm => h3 x hm x (by simp) rfl⟩
  · rintro ⟨h1, h2⟩; exact ⟨h1, by simp, fun a ha b hb => by simp at hb; subst hb; rintro rfl; exact h2 ha⟩
theorem Small.perm {a b : List E3} (h : a.Perm b) (hs : Small b) : Small a := ⟨by rw [h.length_eq]; exact hs.1, fun u hu => hs.2 u (h.mem_iff.1 hu)⟩
section
variable {w0 w w' : World} {F : List It}
/-- A list and an error. -/
def SortR (w : World) (r : List En × Int) (e : Ending) (w' : World) : Prop := ∃ v' us', e = .returned (.tuple #[v', .int .i64 r.2]) ∧ us'.map er = r.1 ∧ Fr w w' (ownF v' us')
theorem ownF_nil (he : Ev w w') : Fr w w' (ownF (.slice none 0 0) []) := Fr.nilR (F := []) he eE 2
theorem Sort_any {v : Value} {us : List E3} (hv : Es w v us) (hs : Small us) : Calls P n_names_Sort #[v] w (SortR w (sortE (us.map er))) := by
  have hus := hs.1
  refine of_names_Sort (gCall_b (ContainsWrong_any hv (by omega)) fun w1 h1 => gIf_b (fun hbad => ?_) (fun hgood => ?_))
  · have e1 : sortE (us.map er) = ([], 6) := by unfold sortE; rw [if_pos hbad]
    rw [e1]
    exact ⟨_, [], rfl, rfl, ownF_nil h1⟩
  refine gCall_of (Clone_any (hv.ev h1) (by omega)) ?_
  rintro _ w2 ⟨t9, rfl, f2⟩
  refine ⟨t9, rfl, gCall_u (SortStable_any f2 hv.oc (by omega)) fun w3 ⟨us', hp, hw, f3⟩ => ?_⟩
  have h3 : Ev w w3 := h1.trans f3.old
  have hv3 : Es w3 t9 us' := ⟨f3.row 0 rfl, fun u hu => (hv.2 u (hp.mem_iff.1 hu)).ev h3⟩
  have hwl : Upw (us'.map er) := by unfold Upw; rw [List.pairwise_map]; exact hw
  have hpe : (us'.map er).Perm (us.map er) := hp.map er
  have hlen : us'.length ≤ 100000000 := by rw [hp.length_eq]; exact hus
  have hn7 : ¬ (Names (us'.map er)).Nodup → sortE (us.map er) = ([], 7) := fun hd => by
    unfold sortE
    rw [if_neg (by rw [hgood]; decide), if_pos (fun h => hd ((hpe.map (fun x => x.1)).nodup_iff.2 h))]
  refine gLen_slv hv3.1 ⟨fun i w' => ∃ j : Nat, i = (j : Int) ∧ j ≤ us'.length ∧ (∀ i, (hi : i + 1 < us'.length) → i + 1 < j → us'[i].1 ≠ us'[i + 1].1) ∧ Ev w3 w', fun i _ => (us'.length - i).toNat, ⟨0, rfl, Nat.zero_le _, fun _ _ h => by omega, Ch.refl _ _⟩, ?_⟩
  rintro _ i w4 ⟨j, rfl, hj, hadj, he⟩
  refine gIf_dec (fun hlt => ?_) (fun hge => ?_)
  · have hlt' : j < us'.length := by omega
    have step : ∀ w', Ev w3 w' → (j = 0 ∨ ∃ q, ∃ (hq : q + 1 < us'.length), j = q + 1 ∧ us'[q].1 ≠ us'[q + 1].1) → (∃ j' : Nat, i64 ((j : Int) + 1) = (j' : Int) ∧ j' ≤ us'.length ∧ (∀ i, (hi : i + 1 < us'.length) → i + 1 < j' → us'[i].1 ≠ us'[i + 1].1) ∧ Ev w3 w') ∧ ((us'.length : Int) - i64 ((j : Int) + 1)).toNat < ((us'.length : Int) - (j : Int)).toNat := fun w' hw' hc => by
      rw [i64_id (by omega) (by omega)]
      refine ⟨⟨j + 1, by omega, by omega, fun i hi hij => ?_, hw'⟩, by omega⟩
      by_cases hi2 : i + 1 < j
      · exact hadj i hi hi2
      · rcases hc with hc | ⟨q, hq, hc, hne⟩
        · omega
        · have : i = q := by omega
          subst this; exact hne
    refine gIf_dec (fun hpos => ?_) (fun hzero => step _ he.drew (.inl (by omega)))
    obtain ⟨q, rfl⟩ : ∃ q, j = q + 1 := ⟨j - 1, by omega⟩
    have hv4 := hv3.ev he
    refine gIdx_E hv4 rfl (List.getElem?_eq_getElem hlt') fun ad h0 _ => gLoadB_s (fun w' hw => Ch.cell (drewEv hw) h0 fun h => h) ?_
    rw [i64_id (n := ((q + 1 : Nat) : Int) - 1) (by omega) (by omega), show ((q + 1 : Nat) : Int) - 1 = (q : Int) by omega]
    refine gIdx_E hv4 rfl (List.getElem?_eq_getElem (show q < us'.length by omega)) fun ad2 h02 _ => gLoadB_s (fun w' hw => Ch.cell (drewEv hw) h02 fun h => h) ?_
    rw [tl_eqb]
    refine gIf_dec (fun heq => ?_) (fun hne => step _ he.drew (.inr ⟨q, hlt', rfl, fun h => hne h.symm⟩))
    have hd : ¬ (Names (us'.map er)).Nodup := adj_dup (l := us'.map er) (i := q) (by simpa using hlt') (by simpa [er] using heq.symm)
    rw [hn7 hd]
    exact ⟨_, [], rfl, rfl, ownF_nil (h3.trans he.drew)⟩
  · have hup : Up (us'.map er) := adj_up hwl fun i hi => by
      have hi' : i + 1 < us'.length := by simpa using hi
      have := hadj i hi' (by omega)
      simpa [er] using this
    have hnd : ((us.map er).map (·.1)).Nodup := (hpe.map (·.1)).nodup_iff.1 hup.nodup
    have hv4 := hv3.ev he
    have hs' := hs.perm hp
    refine gCall_b (much_any hv4 hs') fun w5 h5 => ?_
    rw [much_perm hpe]
    refine gIf_b (fun hm => ?_) (fun hm => ?_)
    · have e1 : sortE (us.map er) = ([], 5) := by unfold sortE; rw [if_neg (by rw [hgood]; decide), if_neg (fun h => h hnd), if_pos hm]
      rw [e1]; exact ⟨_, [], rfl, rfl, ownF_nil (h3.trans (he.trans h5))⟩
    · have e1 : sortE (us.map er) = (us'.map er, 0) := by unfold sortE; rw [if_neg (by rw [hgood]; decide), if_neg (fun h => h hnd), if_neg (by rw [hm]; decide), up_eq_srt hup hpe]
      rw [e1]
      refine gCall_of (own_any (hv4.ev h5) hs') ?_
      rintro _ w6 ⟨t37, us2, rfl, h37, f6⟩
      exact ⟨t37, rfl, t37, us2, rfl, h37, Fr.glue (F := []) (h3.trans (he.trans h5)) f6 |> fun f => by simpa using f⟩
/-! ### The reference -/
theorem refAt_any {v : Value} {us : List E3} (n : ByteArray) (hv : Es w v us) (hl : us.length ≤ 1000000000) : Calls P n_valiseref28_at #[v, .string n] w (fun e w' => e = .returned (.int .i64 (atN (us.map er) n)) ∧ w' = w) := by
  refine of_valiseref28_at ⟨fun k w' => ∃ j : Nat, k = (j : Int) ∧ j ≤ us.length ∧ (∀ i x, i < j → (us.map er)[i]? = some x → nlt x.1 n = true) ∧ w' = w, fun k _ => (us.length - k).toNat, ⟨0, rfl, Nat.zero_le _, fun _ _ h => by omega, rfl⟩, ?_⟩
  rintro _ k w1 ⟨j, rfl, hj, hb, rfl⟩
  refine gLen_slv hv.1 (gIf_dec (fun hlt => ?_) (fun hge => ?_))
  · have hlt' : j < us.length := by omega
    have hu := List.getElem?_eq_getElem hlt'
    generalize us[j] = u at hu
    refine gIdx_E hv rfl hu fun ad h0 _ => gLoad_s h0 ?_
    rw [nlt_tl]
    refine gIf_b (fun hc => ⟨⟨j + 1, by rw [i64_id (by omega) (by omega)]; omega, by omega, fun i x hi hx => ?_, rfl⟩, by dsimp only; rw [i64_id (by omega) (by omega)]; omega⟩) (fun hc => ⟨?_, rfl⟩)
    · by_cases he : i = j
      · subst he
        rw [List.getElem?_map, hu] at hx
        simp at hx; subst hx; exact hc
      · exact hb i x (by omega) hx
    · rw [atN_eq (l := us.map er) (k := j) (by rw [List.length_map]; omega) hb fun x hx => by
        rw [List.getElem?_map, hu] at hx
        simp at hx; subst hx; exact hc]
  · have hjl : j = us.length := by omega
    subst hjl
    refine ⟨?_, rfl⟩
    rw [atN_eq (l := us.map er) (k := us.length) (by rw [List.length_map]; omega) hb fun x hx => by
      rw [List.getElem?_eq_none (by rw [List.length_map]; omega)] at hx; cases hx]
theorem sum_bd (f : En → Int) (c : Int) : ∀ l : List En, (∀ x ∈ l, 0 ≤ f x ∧ f x ≤ c) → 0 ≤ (l.map f).sum ∧ (l.map f).sum ≤ c * l.length
  | [], _ => by simp
  | x :: l, h => by
    have h1 := h x (by simp)
    have h2 := sum_bd f c l fun y hy => h y (by simp [hy])
    simp only [List.map_cons, List.sum_cons, List.length_cons]
    have : c * ((l.length + 1 : Nat) : Int) = c * l.length + c := by rw [Int.natCast_add, Int.mul_add]; simp
    omega
theorem refMuch_any {v : Value} {us : List E3} (hv : Es w v us) (hl : us.length ≤ 1000000) (hs : Small us) : Calls P n_valiseref28_much #[v] w (fun e w' => e = .returned (.bool (much (us.map er))) ∧ Ev w w') := by
  have bd : ∀ k, k ≤ us.length → 0 ≤ sumD ((us.take k).map er) ∧ sumD ((us.take k).map er) ≤ 1000000000000000000 ∧ 0 ≤ sumN ((us.take k).map er) ∧ sumN ((us.take k).map er) ≤ 1000000000000000000 := fun k hk => by
    have h1 := sum_bd (fun x => (x.2.length : Int)) 1000000000000 ((us.take k).map er) fun x hx => by
      obtain ⟨u, hu, rfl⟩ := List.mem_map.1 hx
      have := (hs.2 u (List.mem_of_mem_take hu)).1
      simp only [er]; omega
    have h2 := sum_bd (fun x => (x.1.size : Int)) 1000000000000 ((us.take k).map er) fun x hx => by
      obtain ⟨u, hu, rfl⟩ := List.mem_map.1 hx
      have := (hs.2 u (List.mem_of_mem_take hu)).2
      simp only [er]; omega
    rw [List.length_map, List.length_take] at h1 h2
    unfold sumD sumN
    omega
  refine of_valiseref28_much ⟨fun d c i w' => ∃ k : Nat, i = (k : Int) ∧ k ≤ us.length ∧ d = sumD ((us.take k).map er) ∧ c = sumN ((us.take k).map er) ∧ Ev w w', fun _ _ i _ => (us.length - i).toNat, ⟨0, rfl, Nat.zero_le _, rfl, rfl, Ch.refl _ w⟩, ?_⟩
  rintro _ d c i w1 ⟨k, rfl, hk, hd, hc, he⟩
  have hv1 := hv.ev he
  refine gLen_slv hv1.1 (gIf_dec (fun hlt => ?_) (fun hge => ?_))
  · have hlt' : k < us.length := by omega
    have hu : us[k]? = some us[k] := List.getElem?_eq_getElem hlt'
    have hmem : us[k] ∈ us := List.getElem_mem hlt'
    have htk : us.take (k + 1) = us.take k ++ [us[k]] := List.take_succ_eq_append_getElem hlt'
    generalize us[k] = u at hu hmem htk
    have hsd : sumD ((us.take (k + 1)).map er) = d + (u.2.2.length : Int) := by rw [htk, List.map_append, sumD_app, hd]; simp [sumD, er]
    have hsn : sumN ((us.take (k + 1)).map er) = c + (u.1.size : Int) := by rw [htk, List.map_append, sumN_app, hc]; simp [sumN, er]
    have hb := bd (k + 1) (by omega)
    refine gIdx_E hv1 rfl hu fun ad h0 h1 => gLoadB_v (fun w' hw => Ch.cell (drewEv hw) h1 fun h => h) (gLen_nm (hv1.2 u hmem) (gIdx_E hv1 rfl hu fun ad h0 h1 => gLoadB_s (fun w' hw => Ch.cell (drewEv hw) h0 fun h => h) ?_))
    rw [i64_id (n := d + (u.2.2.length : Int)) (by omega) (by omega), i64_id (n := c + (u.1.size : Int)) (by omega) (by omega)]
    exact ⟨⟨k + 1, by rw [i64_id (by omega) (by omega)]; omega, by omega, hsd.symm, hsn.symm, he.drew⟩, by dsimp only; rw [i64_id (by omega) (by omega)]; omega⟩
  · refine gLen_slv hv1.1 ?_
    rw [List.take_of_length_le (by omega)] at hd hc
    unfold much
    rw [← hd, ← hc, List.length_map]
    refine gIf_ndec (fun h1 => gIf_ndec (fun h2 => ⟨?_, he⟩) (fun h2 => ⟨?_, he⟩)) (fun h1 => ⟨?_, he⟩)
    · rw [decide_eq_false (show ¬ 4096 < us.length by omega), decide_eq_false (show ¬ 1048576 < d by omega)]; rfl
    · rw [decide_eq_true (show 1048576 < d by omega)]; simp
    · rw [decide_eq_true (show 4096 < us.length by omega)]; simp
abbrev tE : TypeId := t_sl_api_Entry
/-- append(append(append([]Entry(nil), a...), x), b...), in either order. -/
theorem ins_tail {a b d : Value} {us vs : List E3} {s : ByteArray} {xs : List Int} {K : Value → World → Prop} (ha : Sl w 2 a us.length (cells3 us)) (hb : Sl w 2 b vs.length (cells3 vs)) (oa : ∀ u ∈ us, u.2.1.oneCell' = true) (ob : ∀ u ∈ vs, u.2.1.oneCell' = true) (hd : d.oneCell' = true)
    (hl : us.length + vs.length ≤ 1000000000) (hk : ∀ v w', Ev w w' → Sl w' 2 v (us ++ (s, d, xs) :: vs).length (cells3 (us ++ (s, d, xs) :: vs)) → K v w') :
    (gApp P #[t_sl_api_Entry, t_sl_api_Entry] t_sl_api_Entry #[.slice none 0 0, a] w fun t71 w9 => Ev w w9 ∧ gLit P t_sl_api_Entry 1 #[(0, .agg #[.string s, d])] w9 fun t73 w10 => Ev w w10 ∧ gApp P #[t_sl_api_Entry, t_sl_api_Entry] t_sl_api_Entry #[t71, t73] w10 fun t74 w11 => Ev w w11 ∧ gApp P #[t_sl_api_Entry, t_sl_api_Entry] t_sl_api_Entry #[t74, b] w11 fun t78 w12 => Ev w w12 ∧ K t78 w12) ∧
    (gLit P t_sl_api_Entry 1 #[(0, .agg #[.string s, d])] w fun t73 w9 => Ev w w9 ∧ gApp P #[t_sl_api_Entry, t_sl_api_Entry] t_sl_api_Entry #[.slice none 0 0, a] w9 fun t71 w10 => Ev w w10 ∧ gApp P #[t_sl_api_Entry, t_sl_api_Entry] t_sl_api_Entry #[t71, t73] w10 fun t74 w11 => Ev w w11 ∧ gApp P #[t_sl_api_Entry, t_sl_api_Entry] t_sl_api_Entry #[t74, b] w11 fun t78 w12 => Ev w w12 ∧ K t78 w12) := by
  have ox : ∀ x ∈ [Value.string s, d], x.oneCell' = true := fun x hx => by
    simp at hx; rcases hx with rfl | rfl
    · rfl
    · exact hd
  have e1 : cells3 us ++ [Value.string s, d] ++ cells3 vs = cells3 (us ++ (s, d, xs) :: vs) := by rw [cells3_app, cells3_cons]; simp
  have e2 : us.length + 1 + vs.length = (us ++ (s, d, xs) :: vs).length := by simp; omega
  constructor
  · refine fAppR0 40 (Fr.start w) ha (one3 oa) (by omega) (by unfold maxLen; omega) (fun t71 w9 f9 => ⟨f9.old, ?_⟩) (by kernel_rfl)
    refine fLit_sz 2 [[.string s, d]] f9 rfl rfl (fun v hv => by simp at hv; subst hv; rfl) (fun ad w10 f10 => ⟨f10.old, ?_⟩) (by decide) (by kernel_rfl) (by decide +kernel)
    refine fAppR 40 (m := 1) f10 1 rfl (Sl.of_st2 (f10.get 0 rfl)) ox (by omega) (by unfold maxLen; omega) (fun t74 w11 f11 => ⟨f11.old, ?_⟩) (by kernel_rfl)
    refine fAppR 40 f11 1 rfl (hb.ev f11.old) (one3 ob) (by omega) (by unfold maxLen; omega) (fun t78 w12 f12 => ⟨f12.old, hk t78 w12 f12.old ?_⟩) (by kernel_rfl)
    have := f12.row 1 rfl
    rw [e1, e2] at this; exact this
  · refine fLit_sz 2 [[.string s, d]] (Fr.start w) rfl rfl (fun v hv => by simp at hv; subst hv; rfl) (fun ad w9 f9 => ⟨f9.old, ?_⟩) (by decide) (by kernel_rfl) (by decide +kernel)
    refine fAppR0 40 f9 (ha.ev f9.old) (one3 oa) (by omega) (by unfold maxLen; omega) (fun t71 w10 f10 => ⟨f10.old, ?_⟩) (by kernel_rfl)
    refine fAppR 40 (m := 1) f10 0 rfl (Sl.of_st2 (f10.get 1 rfl)) ox (by omega) (by unfold maxLen; omega) (fun t74 w11 f11 => ⟨f11.old, ?_⟩) (by kernel_rfl)
    refine fAppR 40 f11 0 rfl (hb.ev f11.old) (one3 ob) (by omega) (by unfold maxLen; omega) (fun t78 w12 f12 => ⟨f12.old, hk t78 w12 f12.old ?_⟩) (by kernel_rfl)
    have := f12.row 0 rfl
    rw [e1, e2] at this; exact this
theorem Sl.split {v : Value} {us : List E3} (h : Sl w 2 v us.length (cells3 us)) (k : Nat) (hk : k ≤ us.length) : Sl w 2 (subV 2 v 0 k) (us.take k).length (cells3 (us.take k)) ∧ Sl w 2 (subV 2 v k us.length) (us.drop k).length (cells3 (us.drop k)) := by
  constructor
  · have := h.sub 0 k (Nat.zero_le _) hk
    rw [Nat.sub_zero, Nat.zero_mul, List.drop_zero, cells3_take] at this
    rw [List.length_take, Nat.min_eq_left hk]; exact this
  · have := h.sub k us.length hk (Nat.le_refl _)
    rw [cells3_drop, List.take_of_length_le (by rw [cells3_len, List.length_drop]; omega)] at this
    rw [List.length_drop]; exact this
/-- l[:k] and l[k:]. -/
theorem gSl_to {v : Value} {us : List E3} {k : Int} {K : Value → Prop} (h : Sl w 2 v us.length (cells3 us)) (j : Nat) (hkj : k = (j : Int)) (hj : j ≤ us.length) (hk : K (subV 2 v 0 j)) : gSlice P t_sl_api_Entry v none (some (.int .i64 k)) none K := by
  subst hkj
  obtain ⟨a, c, rfl, hc⟩ := h.shape
  exact gSlice_any (l := 0) (h := j) (.inl ⟨rfl, rfl⟩) (.inr ⟨.i64, rfl⟩) (Nat.zero_le _) (by omega) hk (by kernel_rfl)
theorem gSl_from {v : Value} {us : List E3} {k : Int} {K : Value → Prop} (h : Sl w 2 v us.length (cells3 us)) (j : Nat) (hkj : k = (j : Int)) (hj : j ≤ us.length) (hk : K (subV 2 v j us.length)) : gSlice P t_sl_api_Entry v (some (.int .i64 k)) none none K := by
  subst hkj
  obtain ⟨a, c, rfl, hc⟩ := h.shape
  exact gSlice_any (l := j) (h := us.length) (.inr ⟨.i64, rfl⟩) (.inl ⟨rfl, rfl⟩) hj hc hk (by kernel_rfl)
/-- What reads as a list. -/
def RefR (w : World) (r : List En × Int) (e : Ending) (w' : World) : Prop := ∃ v' us', e = .returned (.tuple #[v', .int .i64 r.2]) ∧ us'.map er = r.1 ∧ Es w' v' us' ∧ Ev w w'
theorem refSort_any {v : Value} {us : List E3} (hv : Es w v us) (hl : us.length ≤ 1000000) (hs : Small us) : Calls P n_valiseref28_Sort #[v] w (RefR w (sortE (us.map er))) := by
  refine of_valiseref28_Sort ⟨fun i w' => ∃ j : Nat, i = (j : Int) ∧ j ≤ us.length ∧ ((us.map er).any fun x => !rightN x.1) = (((us.drop j).map er).any fun x => !rightN x.1) ∧ Ev w w', fun i _ => (us.length - i).toNat, ⟨0, rfl, Nat.zero_le _, rfl, Ch.refl _ w⟩, ?_⟩
  rintro _ i w1 ⟨j, rfl, hj, hany, he⟩
  refine gLen_slv (hv.ev he).1 (gIf_dec (fun hlt => ?_) (fun hge => ?_))
  · have hlt' : j < us.length := by omega
    rw [List.drop_eq_getElem_cons hlt', List.map_cons, List.any_cons] at hany
    have hu : us[j]? = some us[j] := List.getElem?_eq_getElem hlt'
    have hmem : us[j] ∈ us := List.getElem_mem hlt'
    generalize us[j] = u at hu hmem hany
    refine gIdx_E (hv.ev he) rfl hu fun ad h0 _ => gLoad_s h0 (gCall_b0 (refRight_any u.1 (by have := (hs.2 u hmem).2; omega)) (gIf_nb (fun h => ?_) (fun h => ?_)))
    · have e1 : sortE (us.map er) = ([], 6) := by unfold sortE; rw [if_pos (by rw [hany]; show (!rightN u.1 || _) = true; rw [h]; rfl)]
      rw [e1]; exact ⟨_, [], rfl, rfl, Es.nil _, he⟩
    · refine ⟨⟨j + 1, by rw [i64_id (by omega) (by omega)]; omega, by omega, ?_, he⟩, by dsimp only; rw [i64_id (by omega) (by omega)]; omega⟩
      rw [hany]; show (!rightN u.1 || _) = _; rw [h]; rfl
  have hgood : ((us.map er).any fun x => !rightN x.1) = false := by rw [hany, List.drop_of_length_le (by omega)]; rfl
  clear hany hge hj
  refine ⟨fun out tw i w' => ∃ (j : Nat) (os : List E3), i = (j : Int) ∧ j ≤ us.length ∧ os.map er = ((us.take j).map er).foldl insN [] ∧ (tw = true ↔ ¬ (((us.take j).map er).map (·.1)).Nodup) ∧ Es w' out os ∧ Ev w w', fun _ _ i _ => (us.length - i).toNat, ⟨0, [], rfl, Nat.zero_le _, rfl, by simp, Es.nil _, he⟩, ?_⟩
  clear he
  rintro _ out tw i w3 ⟨j, os, rfl, hj, hos, htw, hout, he⟩
  have hup : Upw (os.map er) := by rw [hos]; exact (srt_fold _ [] List.Pairwise.nil).1
  have hpm : (os.map er).Perm ((us.take j).map er) := by rw [hos]; simpa using (srt_fold ((us.take j).map er) [] List.Pairwise.nil).2
  have hol : os.length ≤ us.length := by have := hpm.length_eq; simp at this; omega
  have hv3 := hv.ev he
  refine gLen_slv hv3.1 (gIf_dec (fun hlt => ?_) (fun hge => ?_))
  · have hlt' : j < us.length := by omega
    have hu : us[j]? = some us[j] := List.getElem?_eq_getElem hlt'
    have hmem : us[j] ∈ us := List.getElem_mem hlt'
    have htk : us.take (j + 1) = us.take j ++ [us[j]] := List.take_succ_eq_append_getElem hlt'
    generalize us[j] = u at hu hmem htk
    refine gIdx_E hv3 rfl hu fun ad h0 _ => gLoad_s h0 (gCall_i0 (refAt_any u.1 hout (by omega)) ?_)
    have hat := atN_le (os.map er) u.1
    rw [List.length_map] at hat
    obtain ⟨k, hk⟩ : ∃ k, k = atN (os.map er) u.1 := ⟨_, rfl⟩
    rw [← hk] at hat
    rw [← hk]
    have htw' : ∀ b : Bool, b = (tw || hasN (os.map er) u.1) → (b = true ↔ ¬ (((us.take (j + 1)).map er).map (·.1)).Nodup) := fun b hb => by
      subst hb
      rw [htk, List.map_append, List.map_append, Bool.or_eq_true, htw, hasN_iff hup, (hpm.map (·.1)).mem_iff]
      show _ ↔ ¬ (_ ++ [u.1]).Nodup
      rw [nodup_snoc, Classical.not_and_iff_not_or_not, Classical.not_not]
    refine ⟨fun b w' => b = (tw || hasN (os.map er) u.1) ∧ Ev w3 w', ?_, ?_⟩
    · refine gIf_nb (fun htf => gLen_slv hout.1 (gIf_dec (fun hkl => ?_) (fun hkl => ?_))) (fun htt => ?_)
      · have hkl' : k < os.length := by omega
        have hok := List.getElem?_eq_getElem hkl'
        refine gIdx_E hout rfl hok fun ad1 h01 _ => gLoadB_s (fun w' hw => Ch.cell (drewEv hw) h01 fun h => h) (gIdx_E hv3 rfl hu fun ad2 h02 _ => gLoadB_s (fun w' hw => Ch.cell (drewEv hw) h02 fun h => h) ⟨?_, (Ch.refl _ _).drew⟩)
        rw [htf, Bool.false_or, tl_eqb]
        unfold hasN
        rw [← hk, List.getElem?_map, hok]; rfl
      · refine ⟨?_, (Ch.refl _ _).drew⟩
        rw [htf, Bool.false_or]
        unfold hasN
        rw [← hk, List.getElem?_eq_none (by rw [List.length_map]; omega)]
      · exact ⟨by rw [htt]; rfl, (Ch.refl _ _).drew⟩
    rintro _ b w5 ⟨hb, he5⟩
    have hv5 := hv3.ev he5
    have hout5 := hout.ev he5
    have hw5 := he.trans he5
    have done : ∀ {w8 : World} {t66 : Value}, Ev w5 w8 → Nm .u8 w8 t66 u.2.2 → ∀ v w', Ev w8 w' → Sl w' 2 v (os.take k ++ (u.1, t66, u.2.2) :: os.drop k).length (cells3 (os.take k ++ (u.1, t66, u.2.2) :: os.drop k)) →
        (∃ (j' : Nat) (os' : List E3), i64 ((j : Int) + 1) = (j' : Int) ∧ j' ≤ us.length ∧ os'.map er = ((us.take j').map er).foldl insN [] ∧ (b = true ↔ ¬ (((us.take j').map er).map (·.1)).Nodup) ∧ Es w' v os' ∧ Ev w w') ∧ ((us.length : Int) - i64 ((j : Int) + 1)).toNat < ((us.length : Int) - (j : Int)).toNat := fun {w8 t66} hev hn v w' hev' hsl => by
      rw [i64_id (by omega) (by omega)]
      refine ⟨⟨j + 1, _, by omega, by omega, ?_, htw' b hb, ⟨hsl, fun x hx => ?_⟩, hw5.trans (hev.trans hev')⟩, by omega⟩
      · rw [htk, List.map_append, List.map_append, List.foldl_append, ← hos, List.map_cons, List.map_take, List.map_drop]
        show _ = insN (os.map er) (er u)
        unfold insN
        rw [show (er u).1 = u.1 from rfl, ← hk]; rfl
      · rcases List.mem_append.1 hx with hx | hx
        · exact (hout5.2 x (List.mem_of_mem_take hx)).ev (hev.trans hev')
        · rcases List.mem_cons.1 hx with rfl | hx
          · exact hn.ev hev'
          · exact (hout5.2 x (List.mem_of_mem_drop hx)).ev (hev.trans hev')
    refine ⟨fun w' => Ev w5.drew w', Ch.refl _ _, gIdx_E hv5 rfl hu fun ad1 h01 _ => gLoadB_s (fun w' hw => Ch.cell hw h01 fun h => h) (gIdx_E hv5 rfl hu fun ad2 _ h12 => gLoadB_v (fun w' hw => Ch.cell hw h12 fun h => h) ⟨?_, ?_⟩)⟩
    · refine fCallB (Fr.start w5.drew) (CopyBytes_any (hv5.2 u hmem) (by have := (hs.2 u hmem).1; omega)) fun t66 w6 f6 => ⟨f6.old, ?_⟩
      refine ⟨(f6.nm 0 rfl).one, fAlloc (z := .agg #[.string ⟨#[]⟩, .slice none 0 0]) f6 (by kernel_rfl) fun x9 w7 f7 => ⟨f7.old, ?_⟩⟩
      refine fStoreA f7 0 rfl (fun w8 f8 => ⟨f8.old, ?_⟩) rfl (fun x hx => by simp at hx; rcases hx with rfl | rfl; rfl; exact (f6.nm 0 rfl).oc)
      have hn8 : Nm .u8 w8.drew t66 u.2.2 := f8.nm 1 rfl
      have hsp := hout5.1.split k hat
      have he8 : Ev w5 w8.drew := (Ev.drew0 w5).trans f8.old.drew
      refine ⟨fun w' => Ev w8.drew w', Ch.refl _ _, gSl_to hout5.1 k rfl hat (gLoadB_agg [.string u.1, t66] (fun w' hw q y hq => Ch.cell hw (f8.drew.cell 0 q rfl hq) fun h => h) (gSl_from hout5.1 k rfl hat ?_))⟩
      exact ins_tail (hsp.1.ev he8) (hsp.2.ev he8) (fun x hx => hout5.oc x (List.mem_of_mem_take hx)) (fun x hx => hout5.oc x (List.mem_of_mem_drop hx)) hn8.oc (by rw [List.length_take, List.length_drop]; omega) (done he8 hn8)
    · refine fAlloc (z := .agg #[.string ⟨#[]⟩, .slice none 0 0]) (Fr.start w5.drew) (by kernel_rfl) fun x9 w6 f6 => ⟨f6.old, fCallB f6 (CopyBytes_any ((hv5.2 u hmem).ev ((Ev.drew0 w5).trans f6.old)) (by have := (hs.2 u hmem).1; omega)) fun t66 w7 f7 => ⟨f7.old, (f7.nm 0 rfl).one, ?_⟩⟩
      refine fStoreA f7 1 rfl (fun w8 f8 => ⟨f8.old, ?_⟩) rfl (fun x hx => by simp at hx; rcases hx with rfl | rfl; rfl; exact (f7.nm 0 rfl).oc)
      have hn8 : Nm .u8 w8.drew t66 u.2.2 := f8.nm 0 rfl
      have hsp := hout5.1.split k hat
      have he8 : Ev w5 w8.drew := (Ev.drew0 w5).trans f8.old.drew
      refine ⟨fun w' => Ev w8.drew w', Ch.refl _ _, gSl_to hout5.1 k rfl hat (gLoadB_agg [.string u.1, t66] (fun w' hw q y hq => Ch.cell hw (f8.drew.cell 1 q rfl hq) fun h => h) (gSl_from hout5.1 k rfl hat ?_))⟩
      exact ins_tail (hsp.1.ev he8) (hsp.2.ev he8) (fun x hx => hout5.oc x (List.mem_of_mem_take hx)) (fun x hx => hout5.oc x (List.mem_of_mem_drop hx)) hn8.oc (by rw [List.length_take, List.length_drop]; omega) (done he8 hn8)
  · rw [List.take_of_length_le (by omega)] at hos htw
    refine gIf_b (fun ht => ?_) (fun ht => ?_)
    · have e1 : sortE (us.map er) = ([], 7) := by unfold sortE; rw [if_neg (by rw [hgood]; decide), if_pos (htw.1 ht)]
      rw [e1]; exact ⟨_, [], rfl, rfl, Es.nil _, he⟩
    · have hnd : ((us.map er).map (·.1)).Nodup := Decidable.byContradiction fun h => by rw [htw.2 h] at ht; cases ht
      refine gCall_b (refMuch_any hv3 hl hs) fun w28 h28 => gIf_b (fun hm => ?_) (fun hm => ?_)
      · have e1 : sortE (us.map er) = ([], 5) := by unfold sortE; rw [if_neg (by rw [hgood]; decide), if_neg (fun h => h hnd), if_pos hm]
        rw [e1]; exact ⟨_, [], rfl, rfl, Es.nil _, he.trans h28⟩
      · have e1 : sortE (us.map er) = (os.map er, 0) := by unfold sortE; rw [if_neg (by rw [hgood]; decide), if_neg (fun h => h hnd), if_neg (by rw [hm]; decide), hos]; rfl
        rw [e1]; exact ⟨_, os, rfl, rfl, hout.ev h28, he.trans h28⟩
end
end Go.Proofs.YtdknadlkadoloaaDoorV
