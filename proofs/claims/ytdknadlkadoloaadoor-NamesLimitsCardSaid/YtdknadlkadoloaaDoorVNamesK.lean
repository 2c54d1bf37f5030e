/- The laws NamesOrder, NamesMap. -/
import Derived.Test.YtdknadlkadoloaaDoorVNamesJ
namespace Go.Proofs.YtdknadlkadoloaaDoorV
open Go Go.RowKit
/-- Turned round. -/
theorem turned_perm {α : Type} (l : List α) (t : Nat) : (l.drop t ++ l.take t).Perm l := by
  have h := List.perm_append_comm (l₁ := l.drop t) (l₂ := l.take t)
  rw [List.take_append_drop] at h; exact h
theorem turned_get {α : Type} (l : List α) {t i : Nat} (ht : t < l.length) (hi : i < l.length) : (l.drop t ++ l.take t)[i]? = l[(i + t) % l.length]? := by
  by_cases h : i < l.length - t
  · rw [List.getElem?_append_left (by rw [List.length_drop]; exact h), List.getElem?_drop, Nat.mod_eq_of_lt (by omega), Nat.add_comm]
  · rw [List.getElem?_append_right (by rw [List.length_drop]; omega), List.length_drop, List.getElem?_take, if_pos (by omega)]
    congr 1
    have : i + t = (i + t - l.length) + l.length := by omega
    rw [this, Nat.add_mod_right, Nat.mod_eq_of_lt (by omega)]; omega
theorem srt_self {l : List En} (h : Up l) : srtN l = l := (up_eq_srt h (List.Perm.refl l)).symm
/-- All is put that is there, or nothing is there yet. -/
theorem puts_srt {l m : List En} (hl : Up l) (hn : (m.map (·.1)).Nodup) (h : ∀ x ∈ l, x.1 ∈ m.map (·.1)) : m.foldl putN l = srtN m := by
  refine Up.ext (puts_up _ hl) ((srtN_up m).up (((srtN_perm m).map (·.1)).nodup_iff.2 hn)) fun x => ?_
  rw [puts_mem m hl hn, (srtN_perm m).mem_iff]
  exact ⟨fun hx => hx.elim id fun ⟨h1, h2⟩ => absurd (h x h1) h2, .inl⟩
section
variable {w0 w w' : World} {F : List It}
theorem SortR.own {w1 : World} {r : List En × Int} {e : Ending} (h : SortR w r e w1) : ∃ v us, e = .returned (.tuple #[v, .int .i64 r.2]) ∧ us.map er = r.1 ∧ Es w1 v us ∧ Ev w w1 := by
  obtain ⟨v, us, h1, h2, h3⟩ := h
  exact ⟨v, us, h1, h2, Es.own h3, h3.old⟩
theorem lit1_E {ad : Addr} {u : E3} (h : St w ad [.string u.1, u.2.1]) (hn : Nm .u8 w u.2.1 u.2.2) : Es w (.slice (some ad) 1 1) [u] :=
  ⟨by have := Sl.of_st2 h; exact this, fun x hx => by rw [List.mem_singleton.1 hx]; exact hn⟩
theorem NamesOrder_law {v : Value} {t : Int} (hv0 : Good P w t_sl_api_Entry [v]) (ht : IntKind.i64.min ≤ t ∧ t ≤ IntKind.i64.max) : Calls P n_valiselaw28_NamesOrder #[v, .int .i64 t] w (Holds w) := by
  obtain ⟨us, hv, hb, hl⟩ := good_E hv0
  refine of_valiselaw28_NamesOrder ⟨fun w' => Ev w w' ∧ fewB (us.map er) = true ∧ us.length ≤ 40, ?_, ?_⟩
  · refine gCall_b (few_any hv hb hl) fun w1 h1 => gIf_nnb (fun hf => gLen_slv (hv.ev h1).1 (gIf_dec (fun h => gCall_b awake_any fun w2 h2 => ⟨rfl, h1.trans h2⟩) (fun h => ⟨h1, hf, by omega⟩))) (fun _ => gCall_b awake_any fun w3 h3 => ⟨rfl, h1.trans h3⟩)
  rintro _ w4 ⟨h4, hf, h40⟩
  obtain ⟨q1, q2, q3, q4⟩ := few_small hf
  have hs := few_Small hf
  have hnm : ∀ {l : List En}, l.Perm (us.map er) → ∀ k, much (l.take k) = false := fun {l} hp k => by
    have h1 := sumD_take l k
    have h2 := sumN_take l k
    rw [sumD_perm hp] at h1; rw [sumN_perm hp] at h2
    have h3 := hp.length_eq
    rw [List.length_map] at h3
    exact not_much (by rw [List.length_take]; omega) (by omega) (by omega)
  refine gCall_of (Sort_any (hv.ev h4) hs) ?_
  intro e5 w5 hr5
  obtain ⟨t30, u30, rfl, hu30, hE30, h5⟩ := SortR.own hr5
  have k5 : Ev w w5 := h4.trans h5
  have l30 : u30.length ≤ us.length := by have := sortE_len (us.map er); rw [← hu30] at this; simpa using this
  refine ⟨_, _, rfl, ⟨fun w' => Ev w5 w' ∧ (sortE (us.map er)).2 = 0, ?_, ?_⟩⟩
  · refine gCall_b awake_any fun w6 h6 => gIf_nn (gIf_neq (fun hne => gCall_b awake_any fun w7 h7 => gIf_t (gLen_slv (hE30.ev (h6.trans h7)).1 ⟨?_, k5.trans (h6.trans h7)⟩)) (fun heq => ⟨h6, heq⟩))
    have h0 : (sortE (us.map er)).1 = [] := by
      unfold sortE at hne ⊢
      split
      · rfl
      · rename_i c1
        split
        · rfl
        · rename_i c2
          split
          · rfl
          · rename_i c3
            rw [if_neg c1, if_neg c2, if_neg c3] at hne
            exact absurd rfl hne
    have : u30.length = 0 := by rw [h0] at hu30; have := congrArg List.length hu30; simpa using this
    rw [this]; rfl
  rintro _ w9 ⟨h9, hok⟩
  obtain ⟨o1, hnd, o3, _⟩ := sortE_ok hok
  rw [o1] at hu30
  have k9 : Ev w w9 := k5.trans h9
  have hupS : Up (srtN (us.map er)) := (srtN_up _).up (((srtN_perm _).map (·.1)).nodup_iff.2 hnd)
  -- how far it is turned
  obtain ⟨tn, htn0, htn⟩ : ∃ tn : Nat, (us ≠ [] → tn < us.length) ∧ (us ≠ [] → Int.tmod (u64 t) (u64 ((us.length : Nat) : Int)) = (tn : Int)) := by
    have h1 : 0 ≤ u64 t ∧ u64 t < 18446744073709551616 := by rw [u64_def]; omega
    have h2 : u64 ((us.length : Nat) : Int) = ((us.length : Nat) : Int) := by rw [u64_def]; omega
    refine ⟨(Int.tmod (u64 t) (u64 ((us.length : Nat) : Int))).toNat, fun hne => ?_, fun hne => ?_⟩
    · have hp : 0 < us.length := List.length_pos_iff.2 hne
      rw [h2, Int.tmod_eq_emod_of_nonneg h1.1]
      have := Int.emod_lt_of_pos (u64 t) (show (0 : Int) < ((us.length : Nat) : Int) by omega)
      have := Int.emod_nonneg (u64 t) (show ((us.length : Nat) : Int) ≠ 0 by omega)
      omega
    · have hp : 0 < us.length := List.length_pos_iff.2 hne
      rw [h2, Int.tmod_eq_emod_of_nonneg h1.1]
      have := Int.emod_nonneg (u64 t) (show ((us.length : Nat) : Int) ≠ 0 by omega)
      omega
  obtain ⟨mm, hmm⟩ : ∃ mm : List E3, mm = us.drop tn ++ us.take tn := ⟨_, rfl⟩
  have hmp : mm.Perm us := by rw [hmm]; exact turned_perm us tn
  have hml : mm.length = us.length := hmp.length_eq
  have hmE : (mm.map er).Perm (us.map er) := hmp.map er
  refine ⟨fun m i w' => ∃ k : Nat, i = (k : Int) ∧ k ≤ us.length ∧ Fr w9 w' [rIt eE 2 m (mm.take k).length (cells3 (mm.take k))], fun _ i _ => (us.length - i).toNat, ⟨0, rfl, Nat.zero_le _, (Fr.start w9).nilR eE 2⟩, ?_⟩
  rintro _ m i w10 ⟨k, rfl, hk, f10⟩
  have hv10 := hv.ev (k9.trans f10.old)
  refine gLen_slv hv10.1 (gIf_dec (fun hlt => ?_) (fun hge => ?_))
  · have hne : us ≠ [] := by rintro rfl; simp at hlt; omega
    have hlt' : k < us.length := by omega
    have htl := htn0 hne
    have h2 : u64 ((us.length : Nat) : Int) ≠ 0 := by rw [u64_def]; omega
    refine gLen_slv hv10.1 (gBin_rem h2 (gLen_slv hv10.1 (gBin_rem (by omega) ?_)))
    rw [htn hne, i64_id (n := (tn : Int)) (by omega) (by omega), i64_id (n := (k : Int) + tn) (by omega) (by omega)]
    have hidx : ((k : Int) + tn).tmod ((us.length : Nat) : Int) = (((k + tn) % us.length : Nat) : Int) := by
      rw [Int.tmod_eq_emod_of_nonneg (by omega), ← Int.natCast_add, Int.natCast_emod]
    rw [hidx]
    have hxm : mm[k]? = us[(k + tn) % us.length]? := by rw [hmm]; exact turned_get us htl hlt'
    have hx := List.getElem?_eq_getElem (show k < mm.length by omega)
    have htk : mm.take (k + 1) = mm.take k ++ [mm[k]] := List.take_succ_eq_append_getElem (show k < mm.length by omega)
    generalize mm[k] = x at hx htk
    have hux : us[(k + tn) % us.length]? = some x := by rw [← hxm]; exact hx
    have hxu : x ∈ us := List.mem_of_getElem? hux
    refine gIdx_E hv10 rfl hux fun ad h0 h1 => gLoad_E h0 h1 (fLit_sz 2 [[.string x.1, x.2.1]] f10 rfl rfl (fun v hv => by simp at hv; subst hv; rfl) (fun ad2 w11 f11 => ?_) (by decide) (by kernel_rfl) (by decide +kernel))
    have htl2 : (mm.take k).length = k := by rw [List.length_take]; omega
    refine fAppR 40 (m := 1) f11 1 rfl (Sl.of_st2 (f11.get 0 rfl)) (fun y hy => by simp at hy; rcases hy with rfl | rfl; rfl; exact hv.oc x hxu) (by omega) (by unfold maxLen; omega) (fun v' w12 f12 => ?_) (by kernel_rfl)
    refine ⟨⟨k + 1, by rw [i64_id (by omega) (by omega)]; omega, by omega, ?_⟩, by dsimp only; rw [i64_id (by omega) (by omega)]; omega⟩
    rw [htk, cells3_app, List.length_append]
    exact f12.picksN 2 [1] (by decide) (by decide)
  have hmt : mm.take k = mm := List.take_of_length_le (by omega)
  rw [hmt] at f10
  have hEm : Es w10 m mm := ⟨f10.row 0 rfl, fun u hu => (hv.2 u (hmp.mem_iff.1 hu)).ev (k9.trans f10.old)⟩
  have hsm : Small mm := hs.perm hmp
  have h10 := f10.old
  clear hge hk
  refine gCall_of (Sort_any hEm hsm) ?_
  intro e13 w13 hr13
  obtain ⟨t71, u71, rfl, hu71, hE71, h13⟩ := SortR.own hr13
  rw [sortE_perm hmE, o1] at hu71
  rw [sortE_perm hmE, hok]
  have hndm : ((mm.map er).map (·.1)).Nodup := (hmE.map (·.1)).nodup_iff.2 hnd
  refine ⟨_, _, rfl, ⟨fun one i w' => ∃ (k : Nat) (os : List E3), i = (k : Int) ∧ k ≤ mm.length ∧ os.map er = ((mm.map er).take k).foldl putN [] ∧ Es w' one os ∧ Ev w13 w', fun _ i _ => (mm.length - i).toNat, ⟨0, [], rfl, Nat.zero_le _, rfl, Es.nil _, Ch.refl _ _⟩, ?_⟩⟩
  rintro _ one i w14 ⟨k, os, rfl, hk, hos, hEo, h14⟩
  have hEm14 := hEm.ev (h13.trans h14)
  have hupo : Up (os.map er) := by rw [hos]; exact puts_up _ List.Pairwise.nil
  have hpo : (os.map er).Perm ((mm.map er).take k) := by
    rw [hos]
    have := puts_new ((mm.map er).take k) (l := []) List.Pairwise.nil (by rw [List.nil_append]; exact hndm.sublist ((List.take_sublist _ _).map _))
    simpa using this
  have hol : os.length ≤ 40 := by have := hpo.length_eq; rw [List.length_map, List.length_take, List.length_map] at this; omega
  have hso : Small os := ⟨by omega, fun u hu => by
    have h1 : er u ∈ us.map er := hmE.mem_iff.1 (List.mem_of_mem_take (hpo.mem_iff.1 (List.mem_map.2 ⟨u, hu, rfl⟩)))
    obtain ⟨z, hz, hze⟩ := List.mem_map.1 h1
    have e1 : z.1 = u.1 := congrArg (fun p : En => p.1) hze
    have e2 : z.2.2 = u.2.2 := congrArg (fun p : En => p.2) hze
    rw [← e1, ← e2]; exact hs.2 z hz⟩
  refine gLen_slv hEm14.1 (gIf_dec (fun hlt => ?_) (fun hge => ?_))
  · have hlt' : k < mm.length := by omega
    have hx := List.getElem?_eq_getElem hlt'
    have hxm : mm[k] ∈ mm := List.getElem_mem hlt'
    have htk : (mm.map er).take (k + 1) = (mm.map er).take k ++ [er mm[k]] := by rw [List.take_succ_eq_append_getElem (by rw [List.length_map]; exact hlt'), List.getElem_map]
    generalize mm[k] = x at hx hxm htk
    have hxu := hmp.mem_iff.1 hxm
    refine gIdx_E hEm14 rfl hx fun ad h0 h1 => gLoad_E h0 h1 (fLit_sz 2 [[.string x.1, x.2.1]] (Fr.start w14) rfl rfl (fun v hv => by simp at hv; subst hv; rfl) (fun ad2 w15 f15 => ?_) (by decide) (by kernel_rfl) (by decide +kernel))
    have hE1 : Es w15 (.slice (some ad2) 1 1) [x] := lit1_E (f15.get 0 rfl) ((hEm14.2 x hxm).ev f15.old)
    refine gCall_of (Put_any (hEo.ev f15.old) hupo hE1 hso ⟨by simp, fun u hu => by rw [List.mem_singleton.1 hu]; exact hs.2 x hxu⟩ (by simp; omega)) ?_
    intro e16 w16 hr16
    obtain ⟨t87, u87, rfl, hu87, hE87, h16⟩ := SortR.own hr16
    have hput : putE (os.map er) ([x].map er) = (((mm.map er).take (k + 1)).foldl putN [], 0) := by
      have hx1 : sortE ([x].map er) = ([er x], 0) := by
        have hr : (([x].map er).any fun x => !rightN x.1) = false := by
          have := o3
          rw [Bool.eq_false_iff, ne_eq, List.any_eq_true] at this ⊢
          rintro ⟨y, hy, hyb⟩
          simp only [List.map_cons, List.map_nil, List.mem_singleton] at hy
          exact this ⟨y, by rw [hy]; exact List.mem_map.2 ⟨x, hxu, rfl⟩, hyb⟩
        have hq := q2 x hxu
        have hm1 : much ([x].map er) = false := not_much (by simp) (by simp [sumD, er]; omega) (by simp [sumN, er]; omega)
        unfold sortE
        rw [if_neg (by rw [hr]; decide), if_neg (show ¬¬ (([x].map er).map (·.1)).Nodup from fun h => h (by simp)), if_neg (by rw [hm1]; decide)]
        rfl
      have hfold : ([x].map er).foldl putN (os.map er) = ((mm.map er).take (k + 1)).foldl putN [] := by rw [htk, List.foldl_append, ← hos]; rfl
      have hmu : much (((mm.map er).take (k + 1)).foldl putN []) = false := by
        have := puts_new ((mm.map er).take (k + 1)) (l := []) List.Pairwise.nil (by rw [List.nil_append]; exact hndm.sublist ((List.take_sublist _ _).map _))
        rw [List.nil_append] at this
        rw [much_perm this]; exact hnm hmE _
      unfold putE
      rw [hx1, if_neg (show ¬ ((0 : Int) ≠ 0) from fun h => h rfl), hfold, if_neg (by rw [hmu]; decide)]
    rw [hput] at hu87 ⊢
    refine ⟨_, _, rfl, gIf_neq (fun h => (h rfl).elim) (fun _ => ⟨⟨k + 1, u87, by rw [i64_id (by omega) (by omega)]; omega, by omega, hu87, hE87, h14.trans (f15.old.trans h16)⟩, by dsimp only; rw [i64_id (by omega) (by omega)]; omega⟩)⟩
  · have hkm : k = mm.length := by omega
    subst hkm
    rw [List.take_of_length_le (by rw [List.length_map]; exact Nat.le_refl _), puts_srt List.Pairwise.nil hndm (fun _ h => by cases h)] at hos
    have hsrt : srtN (mm.map er) = srtN (us.map er) := by
      have := sortE_perm hmE
      obtain ⟨a1, _⟩ := sortE_ok (l := mm.map er) (by rw [this]; exact hok)
      rw [← a1, this, o1]
    rw [hsrt] at hos
    have k14 : Ev w w14 := k9.trans (h10.trans (h13.trans h14))
    have hall : putE [] (us.map er) = (srtN (us.map er), 0) := by
      have hf1 : (us.map er).foldl putN [] = srtN (us.map er) := puts_srt List.Pairwise.nil hnd (fun _ h => by cases h)
      have hmu : much (srtN (us.map er)) = false := by
        have h1 := hnm (l := us.map er) (List.Perm.refl _) (us.map er).length
        rw [List.take_length] at h1
        rw [much_perm (srtN_perm _)]; exact h1
      unfold putE
      rw [hok, if_neg (show ¬ ((0 : Int) ≠ 0) from fun h => h rfl), hf1, if_neg (by rw [hmu]; decide)]
    have hagain : putE (srtN (us.map er)) (us.map er) = (srtN (us.map er), 0) := by
      have hf1 : (us.map er).foldl putN (srtN (us.map er)) = srtN (us.map er) := puts_srt hupS hnd (fun x hx => List.mem_map.2 ⟨x, (srtN_perm _).mem_iff.1 hx, rfl⟩)
      have hmu : much (srtN (us.map er)) = false := by
        have h1 := hnm (l := us.map er) (List.Perm.refl _) (us.map er).length
        rw [List.take_length] at h1
        rw [much_perm (srtN_perm _)]; exact h1
      unfold putE
      rw [hok, if_neg (show ¬ ((0 : Int) ≠ 0) from fun h => h rfl), hf1, if_neg (by rw [hmu]; decide)]
    refine gCall_of (Put_any (us := []) (Es.nil w14) List.Pairwise.nil (hv.ev k14) ⟨by simp, fun _ h => by cases h⟩ hs (by simp; omega)) ?_
    intro e17 w17 hr17
    obtain ⟨t95, u95, rfl, hu95, hE95, h17⟩ := SortR.own hr17
    rw [show putE (List.map er []) (us.map er) = (srtN (us.map er), 0) from hall] at hu95 ⊢
    have s30 : Small u30 := small_of (fun x hx => by rw [hu30] at hx; exact (srtN_perm _).mem_iff.1 hx) l30 hs
    refine ⟨_, _, rfl, gCall_of (Put_any (hE30.ev (h9.trans (h10.trans (h13.trans (h14.trans h17))))) (by rw [hu30]; exact hupS) (hv.ev (k14.trans h17)) s30 hs (by omega)) ?_⟩
    intro e18 w18 hr18
    obtain ⟨t101, u101, rfl, hu101, hE101, h18⟩ := SortR.own hr18
    rw [hu30, hagain] at hu101
    rw [hu30, hagain]
    have h30 : Ev w5 w18 := h9.trans (h10.trans (h13.trans (h14.trans (h17.trans h18))))
    refine ⟨_, _, rfl, gIf_eq (fun _ => gIf_eq (fun _ => gIf_eq (fun _ => ?_) (fun h => (h rfl).elim)) (fun h => (h rfl).elim)) (fun h => (h rfl).elim)⟩
    have l95 : u95.length ≤ 100 := by have := mapLen hu95; rw [(srtN_perm _).length_eq, List.length_map] at this; omega
    have l101 : u101.length ≤ 100 := by have := mapLen hu101; rw [(srtN_perm _).length_eq, List.length_map] at this; omega
    refine gCall_b (SameE_any (hE30.ev h30) (hE71.ev (h14.trans (h17.trans h18))) (by omega)) fun w19 h19 => ?_
    rw [hu30, hu71, decide_eq_true rfl]
    refine gIf_t (gCall_b (SameE_any (hEo.ev (h17.trans (h18.trans h19))) (hE30.ev (h30.trans h19)) (by omega)) fun w20 h20 => ?_)
    rw [hos, hu30, decide_eq_true rfl]
    refine gIf_t (gCall_b (SameE_any (hE95.ev (h18.trans (h19.trans h20))) (hE30.ev (h30.trans (h19.trans h20))) (by omega)) fun w21 h21 => ?_)
    rw [hu95, hu30, decide_eq_true rfl]
    refine gIf_t (gCall_b (SameE_any (hE101.ev (h19.trans (h20.trans h21))) (hE30.ev (h30.trans (h19.trans (h20.trans h21)))) (by omega)) fun w22 h22 => ⟨?_, k14.trans (h17.trans (h18.trans (h19.trans (h20.trans (h21.trans h22)))))⟩)
    rw [hu101, hu30, decide_eq_true rfl]
end
end Go.Proofs.YtdknadlkadoloaaDoorV
