/- Entries: copies, how much, Sort; Spoil. -/
import Derived.Test.YtdknadlkadoloaaDoorVNamesC
import Derived.Test.YtdknadlkadoloaaDoorVNamesD
namespace Go.Proofs.YtdknadlkadoloaaDoorV
open Go Go.RowKit
noncomputable abbrev eE : TypeId := elOf P t_sl_api_Entry
/-- Entries in memory of their own. -/
noncomputable def ownF (v : Value) (us : List E3) : List It := rIt eE 2 v us.length (cells3 us) :: us.reverse.map fun u => oIt .u8 eB u.2.1 u.2.2
theorem erMap_len {us : List E3} {l : List En} (h : us.map er = l) : us.length = l.length := by rw [← h, List.length_map]
section
variable {w0 w w' : World} {F : List It}
theorem Es.own {v : Value} {us : List E3} (f : Fr w0 w (ownF v us)) : Es w v us :=
  ⟨f.row 0 rfl, fun u hu => by
    have hm : oIt .u8 eB u.2.1 u.2.2 ∈ ownF v us := List.mem_cons_of_mem _ (List.mem_map.2 ⟨u, List.mem_reverse.2 hu, rfl⟩)
    have : ON .u8 eB w 0 u.2.1 u.2.2 := (f.mem hm).1
    exact this.nm⟩
theorem Es.shape {v : Value} {us : List E3} (h : Es w v us) : ∃ a c, v = .slice a us.length c ∧ us.length ≤ c := h.1.shape
theorem Es.nil (w : World) : Es w (.slice none 0 0) [] := ⟨Sl.of_ownS (World.ownsRow_nil w 0 eE 2), fun _ h => by cases h⟩
theorem Sl.of_st2 {ad : Addr} {s : ByteArray} {d : Value} (h : St w ad [.string s, d]) : Sl w 2 (.slice (some ad) 1 1) 1 [.string s, d] :=
  ⟨some ad, 1, rfl, Nat.le_refl _, rfl, fun ad' ha j u hj => by injection ha with ha; subst ha; exact St.cell h hj, fun h => by cases h⟩
/-- An element of entries: its two cells. -/
theorem gIdx_E {i : Int} {ki : IntKind} {v : Value} {us : List E3} {j : Nat} {u : E3} {K : Addr → Prop} (h : Es w v us) (hij : i = (j : Int)) (hu : us[j]? = some u) (hk : ∀ ad, w.cell? (ad.add 0) = some (.string u.1) → w.cell? (ad.add 1) = some u.2.1 → K ad) : gIdx P t_sl_api_Entry v (.int ki i) K := by
  subst hij
  exact gIdx_sz h.1 (List.getElem?_eq_some_iff.1 hu).1 (fun ad hc _ => let ⟨h1, h2⟩ := h.cell hu hc; hk ad h1 h2)
theorem gLoad_E {ad : Addr} {s : ByteArray} {d : Value} {K : ByteArray → Value → Prop} (h0 : w.cell? (ad.add 0) = some (.string s)) (h1 : w.cell? (ad.add 1) = some d) (hk : K s d) : gLoad P t_api_Entry (.part (.agg [.str, .val])) (.pointer (some ad)) w K :=
  gLoad_agg [.string s, d] (fun j u hj => by
    rcases j with _ | _ | j
    · simp at hj; subst hj; exact h0
    · simp at hj; subst hj; exact h1
    · simp at hj) hk rfl (by kernel_rfl)
theorem CopyBytes_any {b : Value} {xs : List Int} (hb : Nm .u8 w b xs) (hl : xs.length ≤ 10000000000000) : Calls P n_valisehelp_CopyBytes #[b] w (NewB w xs) :=
  of_valisehelp_CopyBytes (fApp0 (Fr.start w) hb (by omega) fun v w' f => ⟨v, rfl, f.old, f.on 0 rfl⟩)
def Small (us : List E3) : Prop := us.length ≤ 100000000 ∧ ∀ u ∈ us, u.2.2.length ≤ 1000000000000 ∧ u.1.size ≤ 1000000000000
theorem Es.oc {v : Value} {us : List E3} (h : Es w v us) : ∀ u ∈ us, u.2.1.oneCell' = true := fun u hu => (h.2 u hu).oc
/-- One more entry, its bytes in memory of their own. -/
theorem own_step {out t : Value} {os : List E3} {xs : List Int} {s : ByteArray} {K : Value → World → Prop} (f : Fr w0 w (oIt .u8 eB t xs :: ownF out os)) (hl : os.length ≤ 1000000000) (hk : ∀ v' w', Fr w0 w' (ownF v' (os ++ [(s, t, xs)])) → K v' w') :
    gOne t (gLit P t_sl_api_Entry 1 #[(0, .agg #[.string s, t])] w fun t19 w5 => Ev w0 w5 ∧ gApp P #[t_sl_api_Entry, t_sl_api_Entry] t_sl_api_Entry #[out, t19] w5 fun t20 w6 => Ev w0 w6 ∧ K t20 w6) := by
  have hn := f.nm 0 rfl
  refine ⟨hn.one, fLit_sz 2 [[.string s, t]] f rfl rfl (fun v hv => by simp at hv; subst hv; rfl) (fun ad w5 f5 => ⟨f5.old, ?_⟩) (by decide) (by kernel_rfl) (by decide +kernel)⟩
  refine fAppR 40 (m := 1) f5 2 rfl (Sl.of_st2 (f5.get 0 rfl)) (fun x hx => ?_) (by omega) (by unfold maxLen; omega) (fun v' w6 f6 => ⟨f6.old, hk v' w6 ?_⟩) (by kernel_rfl)
  · simp at hx; rcases hx with rfl | rfl
    · rfl
    · exact hn.oc
  · have f7 := f6.picksN 3 [2, 1] (by decide) (by decide)
    have e1 : ownF v' (os ++ [(s, t, xs)]) = rIt eE 2 v' (os.length + 1) (cells3 os ++ [.string s, t]) :: oIt .u8 eB t xs :: os.reverse.map fun u => oIt .u8 eB u.2.1 u.2.2 := by
      unfold ownF; rw [cells3_app, List.length_append, List.reverse_append]; rfl
    rw [e1]; exact f7
theorem CopyEntries_any {v : Value} {us : List E3} (hv : Es w v us) (hs : Small us) : Calls P n_valisehelp_CopyEntries #[v] w (fun e w' => ∃ v' us', e = .returned v' ∧ us'.map er = us.map er ∧ Fr w w' (ownF v' us')) := by
  have hus := hs.1
  refine of_valisehelp_CopyEntries ⟨fun out i w' => ∃ (k : Nat) (os : List E3), i = (k : Int) ∧ k ≤ us.length ∧ os.map er = (us.take k).map er ∧ Fr w w' (ownF out os), fun _ i _ => (us.length - i).toNat, ⟨0, [], rfl, Nat.zero_le _, rfl, (Fr.start w).nilR eE 2⟩, ?_⟩
  rintro _ out i w1 ⟨k, os, rfl, hk, hos, f1⟩
  refine gLen_slv hv.1 (gIf_dec (fun hlt => ?_) (fun hge => ?_))
  · have hlt' : k < us.length := by omega
    have hu : us[k]? = some us[k] := List.getElem?_eq_getElem hlt'
    have hmem : us[k] ∈ us := List.getElem_mem hlt'
    have htk : us.take (k + 1) = us.take k ++ [us[k]] := List.take_succ_eq_append_getElem hlt'
    generalize us[k] = u at hu hmem htk
    have hosl : os.length = k := by have := congrArg List.length hos; simp at this; omega
    refine ⟨fun w' => Ev w w', f1.old.drew, gIdx_E hv rfl hu fun ad h0 _ => gLoadB_s (fun w' hw => Ch.cell hw h0 fun h => h) (gIdx_E hv rfl hu fun ad2 _ h1 => gLoadB_v (fun w' hw => Ch.cell hw h1 fun h => h) ?_)⟩
    refine fCallB f1.drew (CopyBytes_any ((hv.2 u hmem).ev f1.drew.old) (by have := (hs.2 u hmem).1; omega)) fun t22 w2 f2 => ⟨f2.old, ?_⟩
    refine own_step f2 (by omega) fun v' w4 f4 => ⟨⟨k + 1, _, by rw [i64_id (by omega) (by omega)]; omega, by omega, ?_, f4⟩, by dsimp only; rw [i64_id (by omega) (by omega)]; omega⟩
    rw [htk, List.map_append, List.map_append, hos]; rfl
  · exact ⟨out, os, rfl, by rw [hos, List.take_of_length_le (by omega)], f1⟩
theorem own_any {v : Value} {us : List E3} (hv : Es w v us) (hs : Small us) : Calls P n_names_own #[v] w (fun e w' => ∃ v' us', e = .returned v' ∧ us'.map er = us.map er ∧ Fr w w' (ownF v' us')) := by
  have hus := hs.1
  refine of_names_own (gLen_slv hv.1 ⟨fun out i w' => ∃ (k : Nat) (os : List E3), i = (k : Int) ∧ k ≤ us.length ∧ os.map er = (us.take k).map er ∧ Fr w w' (ownF out os), fun _ i _ => (us.length - i).toNat, ⟨0, [], rfl, Nat.zero_le _, rfl, (Fr.start w).nilR eE 2⟩, ?_⟩)
  rintro _ out i w1 ⟨k, os, rfl, hk, hos, f1⟩
  refine gIf_dec (fun hlt => ?_) (fun hge => ?_)
  · have hlt' : k < us.length := by omega
    have hu : us[k]? = some us[k] := List.getElem?_eq_getElem hlt'
    have hmem : us[k] ∈ us := List.getElem_mem hlt'
    have htk : us.take (k + 1) = us.take k ++ [us[k]] := List.take_succ_eq_append_getElem hlt'
    generalize us[k] = u at hu hmem htk
    have hosl : os.length = k := by have := congrArg List.length hos; simp at this; omega
    have hnu := hv.2 u hmem
    refine gIdx_E (hv.ev f1.old) rfl hu fun ad h0 h1 => gLoad_E h0 h1 (fAlloc (z := .agg #[.string ⟨#[]⟩, .slice none 0 0]) f1 (by kernel_rfl) fun x5 w2 f2 => ?_)
    refine fStoreA f2 0 rfl (fun w3 f3 => ?_) rfl (fun x hx => by simp at hx; rcases hx with rfl | rfl; rfl; exact hnu.oc)
    refine ⟨fun w' => Ev w w' ∧ w'.cell? (x5.add 0) = some (.string u.1) ∧ w'.cell? (x5.add 1) = some u.2.1, ⟨f3.drew.old, f3.drew.cell 0 0 rfl rfl, f3.drew.cell 0 1 rfl rfl⟩, gLoadB_s (fun w' hw => hw.2.1) (gLoadB_v (fun w' hw => hw.2.2) ?_)⟩
    refine fApp0 f3.drew (hnu.ev f3.drew.old) (by have := (hs.2 u hmem).1; omega) fun t17 w4 f4 => ⟨⟨f4.old, f4.cell 1 0 rfl rfl, f4.cell 1 1 rfl rfl⟩, ?_⟩
    have hn := f4.nm 0 rfl
    refine ⟨hn.one, fLit_sz 2 [[.string u.1, t17]] f4 rfl rfl (fun v hv => by simp at hv; subst hv; rfl) (fun ad w5 f5 => ⟨⟨f5.old, f5.cell 2 0 rfl rfl, f5.cell 2 1 rfl rfl⟩, ?_⟩) (by decide) (by kernel_rfl) (by decide +kernel)⟩
    refine fAppR 40 (m := 1) f5 3 rfl (Sl.of_st2 (f5.get 0 rfl)) (fun x hx => ?_) (by omega) (by unfold maxLen; omega) (fun v' w6 f6 => ⟨⟨f6.old, f6.cell 2 0 rfl rfl, f6.cell 2 1 rfl rfl⟩, ?_⟩) (by kernel_rfl)
    · simp at hx; rcases hx with rfl | rfl
      · rfl
      · exact hn.oc
    · have f7 := f6.picksN 4 [3, 1] (by decide) (by decide)
      have e1 : ownF v' (os ++ [(u.1, t17, u.2.2)]) = rIt eE 2 v' (os.length + 1) (cells3 os ++ [.string u.1, t17]) :: oIt .u8 eB t17 u.2.2 :: os.reverse.map fun u => oIt .u8 eB u.2.1 u.2.2 := by
        unfold ownF; rw [cells3_app, List.length_append, List.reverse_append]; rfl
      refine ⟨⟨k + 1, os ++ [(u.1, t17, u.2.2)], by rw [i64_id (by omega) (by omega)]; omega, by omega, ?_, by rw [e1]; exact f7⟩, by dsimp only; rw [i64_id (by omega) (by omega)]; omega⟩
      rw [htk, List.map_append, List.map_append, hos]; rfl
  · exact ⟨out, os, rfl, by rw [hos, List.take_of_length_le (by omega)], f1⟩
theorem sumD_cons (x : En) (l : List En) : sumD (x :: l) = (x.2.length : Int) + sumD l := by simp [sumD]
theorem sumN_cons (x : En) (l : List En) : sumN (x :: l) = (x.1.size : Int) + sumN l := by simp [sumN]
theorem much_any {v : Value} {us : List E3} (hv : Es w v us) (hs : Small us) : Calls P n_names_much #[v] w (fun e w' => e = .returned (.bool (much (us.map er))) ∧ Ev w w') := by
  have hus := hs.1
  refine of_names_much (gLen_slv hv.1 ⟨fun d c i w' => ∃ k : Nat, i = (k : Int) ∧ k ≤ us.length ∧ d = sumD ((us.take k).map er) ∧ c = sumN ((us.take k).map er) ∧ d ≤ 1048576 ∧ c ≤ 1048576 ∧ Ev w w', fun _ _ i _ => (us.length - i).toNat, ⟨0, rfl, Nat.zero_le _, rfl, rfl, by decide, by decide, Ch.refl _ w⟩, ?_⟩)
  rintro _ d c i w1 ⟨k, rfl, hk, hd, hc, hd1, hc1, he⟩
  refine gIf_dec (fun hlt => ?_) (fun hge => ?_)
  · have hlt' : k < us.length := by omega
    have hu : us[k]? = some us[k] := List.getElem?_eq_getElem hlt'
    have hmem : us[k] ∈ us := List.getElem_mem hlt'
    have htk : us.take (k + 1) = us.take k ++ [us[k]] := List.take_succ_eq_append_getElem hlt'
    have hall : us = us.take (k + 1) ++ us.drop (k + 1) := (List.take_append_drop _ _).symm
    generalize us[k] = u at hu hmem htk
    have hsd : sumD ((us.take (k + 1)).map er) = d + (u.2.2.length : Int) := by rw [htk, List.map_append, sumD_app, hd]; simp [sumD, er]
    have hsn : sumN ((us.take (k + 1)).map er) = c + (u.1.size : Int) := by rw [htk, List.map_append, sumN_app, hc]; simp [sumN, er]
    have hd0 : 0 ≤ d := by rw [hd]; exact sumD_nn _
    have hc0 : 0 ≤ c := by rw [hc]; exact sumN_nn _
    have hbig := hs.2 u hmem
    have hnu := hv.2 u hmem
    have over : (d + (u.2.2.length : Int) > 1048576 ∨ c + (u.1.size : Int) > 1048576) → much (us.map er) = true := fun ho => by
      have h1 : sumD (us.map er) = d + (u.2.2.length : Int) + sumD ((us.drop (k + 1)).map er) := by
        rw [← hsd, ← sumD_app, ← List.map_append, List.take_append_drop]
      have h2 : sumN (us.map er) = c + (u.1.size : Int) + sumN ((us.drop (k + 1)).map er) := by
        rw [← hsn, ← sumN_app, ← List.map_append, List.take_append_drop]
      have h3 := sumD_nn ((us.drop (k + 1)).map er)
      have h4 := sumN_nn ((us.drop (k + 1)).map er)
      unfold much
      rcases ho with ho | ho
      · rw [decide_eq_true (show 1048576 < sumD (us.map er) by omega)]; simp
      · rw [decide_eq_true (show 1048576 < sumN (us.map er) by omega)]; simp
    refine gIdx_E (hv.ev he) rfl hu fun ad h0 h1 => gLoad_E h0 h1 (fAlloc (z := .agg #[.string ⟨#[]⟩, .slice none 0 0]) (Fr.start w1) (by kernel_rfl) fun x5 w2 f2 => ?_)
    refine fStoreA f2 0 rfl (fun w3 f3 => ?_) rfl (fun x hx => by simp at hx; rcases hx with rfl | rfl; rfl; exact hnu.oc)
    refine gLoad_v (f3.cell 0 1 rfl rfl) (gLen_nm (hnu.ev (he.trans f3.old)) (gLoad_s (f3.cell 0 0 rfl rfl) ?_))
    rw [i64_id (n := d + (u.2.2.length : Int)) (by omega) (by omega), i64_id (n := c + (u.1.size : Int)) (by omega) (by omega)]
    refine gIf_ndec (fun h1 => gIf_dec (fun h2 => ?_) (fun h2 => ?_)) (fun h1 => ?_)
    · exact ⟨by rw [over (.inr h2)], he.trans f3.old⟩
    · exact ⟨⟨k + 1, by rw [i64_id (by omega) (by omega)]; omega, by omega, hsd.symm, hsn.symm, by omega, by omega, he.trans f3.old⟩, by dsimp only; rw [i64_id (by omega) (by omega)]; omega⟩
    · exact ⟨by rw [over (.inl h1)], he.trans f3.old⟩
  · refine gLen_slv (hv.ev he).1 ⟨?_, he⟩
    rw [List.take_of_length_le (by omega)] at hd hc
    unfold much
    rw [← hd, ← hc, decide_eq_false (show ¬ 1048576 < d by omega), decide_eq_false (show ¬ 1048576 < c by omega), Bool.or_false, Bool.or_false, List.length_map]
    by_cases h : 4096 < us.length
    · rw [decide_eq_true h, decide_eq_true (by omega)]
    · rw [decide_eq_false h, decide_eq_false (by omega)]
theorem Clone_any {v : Value} {us : List E3} (hv : Es w v us) (hl : us.length ≤ 1000000000) : Calls P n_slices_Clone_api_Entry_api_Entry #[v] w (fun e w' => ∃ v', e = .returned v' ∧ Fr w w' [rIt eE 2 v' us.length (cells3 us)]) := by
  obtain ⟨a, c, rfl, hc⟩ := hv.shape
  refine of_slices_Clone_api_Entry_api_Entry (gEq_snil (gIf_b (fun hn => ?_) (fun hn => ?_)))
  · have : a = none := Option.isNone_iff_eq_none.1 hn
    subst this
    obtain ⟨a', c', e1, _, _, _, h4⟩ := hv.1
    injection e1 with e1 _ _
    have h0 := h4 e1.symm
    have : us = [] := List.eq_nil_of_length_eq_zero h0
    subst this
    exact ⟨_, rfl, (Fr.start w).nilR eE 2⟩
  · refine fLitR0 (sz := 2) (Fr.start w) rfl (fun t5 w1 f1 => ?_) (by kernel_rfl)
    refine fAppR 40 f1 0 rfl (hv.1.ev f1.old) (one3 hv.oc) (by omega) (by unfold maxLen; omega) (fun v' w2 f2 => ⟨v', rfl, ?_⟩) (by kernel_rfl)
    rw [Nat.zero_add, List.nil_append] at f2; exact f2
theorem Sort1_any (s : ByteArray) (d : Value) (hd : d.oneCell' = true) : Calls P n_names_Sort_1 #[.agg #[.string s, d]] w (fun e w' => e = .returned (.bool (!rightN s)) ∧ Ev w w') :=
  of_names_Sort_1 (fBox (Fr.start w) fun x1 w1 f1 => gLoad_s (f1.cell 0 0 rfl rfl) (gCall_b (Right_any s) fun w2 h2 => ⟨rfl, f1.old.trans h2⟩))
theorem ContainsWrong_any {v : Value} {us : List E3} (hv : Es w v us) (hl : us.length ≤ 1000000000) : Calls P n_slices_ContainsFunc_api_Entry_api_Entry #[v, .func (.func n_names_Sort_1) #[] #[]] w (fun e w' => e = .returned (.bool ((us.map er).any fun x => !rightN x.1)) ∧ Ev w w') := by
  refine of_slices_ContainsFunc_api_Entry_api_Entry ?_
  have hI : Calls P n_slices_IndexFunc_api_Entry_api_Entry #[v, .func (.func n_names_Sort_1) #[] #[]] w (fun e w' => ∃ r : Int, e = .returned (.int .i64 r) ∧ decide (r ≥ 0) = ((us.map er).any fun x => !rightN x.1) ∧ Ev w w') := by
    refine of_slices_IndexFunc_api_Entry_api_Entry (gLen_slv hv.1 ⟨fun i w' => ∃ j : Nat, i = (j : Int) ∧ j ≤ us.length ∧ ((us.map er).any fun x => !rightN x.1) = (((us.drop j).map er).any fun x => !rightN x.1) ∧ Ev w w', fun i _ => (us.length - i).toNat, ⟨0, rfl, Nat.zero_le _, rfl, Ch.refl _ w⟩, ?_⟩)
    rintro _ i w1 ⟨j, rfl, hj, hany, he⟩
    refine gIf_dec (fun hlt => ?_) (fun hge => ?_)
    · have hlt' : j < us.length := by omega
      rw [List.drop_eq_getElem_cons hlt', List.map_cons, List.any_cons] at hany
      have hu : us[j]? = some us[j] := List.getElem?_eq_getElem hlt'
      have hmem : us[j] ∈ us := List.getElem_mem hlt'
      generalize us[j] = u at hu hmem hany
      refine gIdx_E (hv.ev he) rfl hu fun ad h0 h1 => gLoad_E h0 h1 (gCallV_of rfl (by kernel_rfl) (Sort1_any u.1 u.2.1 (hv.oc u hmem)) ?_)
      rintro _ w2 ⟨rfl, h2⟩
      refine ⟨_, rfl, gIf_b (fun h => ⟨(j : Int), rfl, ?_, he.trans h2⟩) (fun h => ⟨⟨j + 1, by rw [i64_id (by omega) (by omega)]; omega, by omega, ?_, he.trans h2⟩, by dsimp only; rw [i64_id (by omega) (by omega)]; omega⟩)⟩
      · rw [hany, decide_eq_true (by omega)]; show true = (!rightN u.1 || _); rw [h]; rfl
      · rw [hany]; show (!rightN u.1 || _) = _; rw [h]; rfl
    · refine ⟨-1, rfl, ?_, he⟩
      rw [hany, List.drop_of_length_le (by omega)]; rfl
  refine gCall_of hI ?_
  rintro _ w2 ⟨r, rfl, hr, h2⟩
  exact ⟨r, rfl, by rw [hr], h2⟩
end
end Go.Proofs.YtdknadlkadoloaaDoorV
