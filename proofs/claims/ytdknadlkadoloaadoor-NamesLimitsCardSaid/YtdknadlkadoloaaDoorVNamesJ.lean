/- The laws NamesPut, NamesOrder, NamesMap. -/
import Derived.Test.YtdknadlkadoloaaDoorVNamesI
namespace Go.Proofs.YtdknadlkadoloaaDoorV
open Go Go.RowKit
theorem gIf_nnb {b : Bool} {A B : Prop} (ha : b = true → A) (hb : b = false → B) : gIf (!(!b)) A B := by cases b; exact hb rfl; exact ha rfl
theorem small_of {a b : List E3} (h : ∀ x ∈ a.map er, x ∈ b.map er) (hl : a.length ≤ b.length) (hs : Small b) : Small a :=
  ⟨Nat.le_trans hl hs.1, fun u hu => by
    obtain ⟨z, hz, hze⟩ := List.mem_map.1 (h _ (List.mem_map.2 ⟨u, hu, rfl⟩))
    have e1 : z.1 = u.1 := congrArg (fun p : En => p.1) hze
    have e2 : z.2.2 = u.2.2 := congrArg (fun p : En => p.2) hze
    rw [← e1, ← e2]; exact hs.2 z hz⟩
theorem mapLen {a : List E3} {l : List En} (h : a.map er = l) : a.length = l.length := by rw [← h, List.length_map]
theorem any_perm {a b : List En} (h : a.Perm b) (p : En → Bool) : a.any p = b.any p := by
  rw [Bool.eq_iff_iff, List.any_eq_true, List.any_eq_true]
  exact ⟨fun ⟨x, h1, h2⟩ => ⟨x, h.mem_iff.1 h1, h2⟩, fun ⟨x, h1, h2⟩ => ⟨x, h.mem_iff.2 h1, h2⟩⟩
theorem sortE_perm {a b : List En} (h : a.Perm b) : sortE a = sortE b := by
  unfold sortE
  rw [any_perm h, much_perm h]
  have hn : (a.map (·.1)).Nodup ↔ (b.map (·.1)).Nodup := (h.map (·.1)).nodup_iff
  split
  · rfl
  · by_cases hb : (b.map (·.1)).Nodup
    · rw [if_neg (show ¬¬ (a.map (·.1)).Nodup from fun hh => hh (hn.2 hb)), if_neg (show ¬¬ (b.map (·.1)).Nodup from fun hh => hh hb)]
      split
      · rfl
      · have hua : Up (srtN a) := (srtN_up a).up (((srtN_perm a).map (·.1)).nodup_iff.2 (hn.2 hb))
        rw [up_eq_srt hua ((srtN_perm a).trans h)]
    · rw [if_pos (show ¬ (a.map (·.1)).Nodup from fun hh => hb (hn.1 hh)), if_pos hb]
theorem putN_new {l : List En} {x : En} (hu : Up l) (h : x.1 ∉ l.map (·.1)) : (putN l x).Perm (l ++ [x]) := by
  have hh : hasN l x.1 = false := by
    cases hc : hasN l x.1 with
    | false => rfl
    | true => exact absurd ((hasN_iff hu.weak).1 hc) h
  unfold putN
  rw [if_neg (by rw [hh]; decide)]
  refine (insN_perm l x).trans ?_
  exact (List.perm_append_singleton x l).symm
theorem puts_new : ∀ (xs : List En) {l : List En}, Up l → ((l ++ xs).map (·.1)).Nodup → (xs.foldl putN l).Perm (l ++ xs)
  | [], l, _, _ => by simp
  | x :: xs, l, h, hn => by
    have hx : x.1 ∉ l.map (·.1) := by
      rw [List.map_append, List.nodup_append] at hn
      intro hm
      exact hn.2.2 x.1 hm x.1 (by simp) rfl
    have h1 := putN_new h hx
    have h2 : ((putN l x ++ xs).map (·.1)).Nodup := by
      have : (putN l x ++ xs).Perm (l ++ x :: xs) := (h1.append_right xs).trans (by simp)
      exact (this.map (·.1)).nodup_iff.2 hn
    exact (puts_new xs (putN_up h) h2).trans ((h1.append_right xs).trans (by simp))
theorem not_much {l : List En} (h1 : l.length ≤ 4096) (h2 : sumD l ≤ 1048576) (h3 : sumN l ≤ 1048576) : much l = false := by
  unfold much
  rw [decide_eq_false (by omega), decide_eq_false (by omega), decide_eq_false (by omega)]; rfl
theorem find_mem {l : List En} {x : En} (hu : Up l) (hx : x ∈ l) : hasN l x.1 = true ∧ l[atN l x.1]? = some x := by
  have h1 : hasN l x.1 = true := (hasN_iff hu.weak).2 (List.mem_map.2 ⟨x, hx, rfl⟩)
  obtain ⟨z, hz, hzn⟩ := has_get h1
  refine ⟨h1, ?_⟩
  have hzm := List.mem_of_getElem? hz
  obtain ⟨i, hi, rfl⟩ := List.getElem_of_mem hx
  obtain ⟨j, hj, rfl⟩ := List.getElem_of_mem hzm
  rw [hz]
  congr 1
  have hp := List.pairwise_iff_getElem.1 hu
  rcases Nat.lt_trichotomy i j with h | h | h
  · have := hp i j hi hj h; rw [hzn, nlt_irr] at this; cases this
  · subst h; rfl
  · have := hp j i hj hi h; rw [hzn, nlt_irr] at this; cases this
theorem sumD_take (l : List En) (k : Nat) : sumD (l.take k) ≤ sumD l := by
  have := sumD_nn (l.drop k)
  have h : sumD l = sumD (l.take k) + sumD (l.drop k) := by rw [← sumD_app, List.take_append_drop]
  omega
theorem sumN_take (l : List En) (k : Nat) : sumN (l.take k) ≤ sumN l := by
  have := sumN_nn (l.drop k)
  have h : sumN l = sumN (l.take k) + sumN (l.drop k) := by rw [← sumN_app, List.take_append_drop]
  omega
section
variable {w0 w w' : World} {F : List It}
theorem NamesPut_law {v m g : Value} {s : ByteArray} (hv0 : Good P w t_sl_api_Entry [v]) (hm0 : Good P w t_sl_api_Entry [m]) (hg0 : Good P w t_sl_string [g]) (hsz : s.size ≤ reachBytes) : Calls P n_valiselaw28_NamesPut #[v, m, g, .string s] w (Holds w) := by
  obtain ⟨us, hv, hb, hl⟩ := good_E hv0
  obtain ⟨ms, hm, hbm, hlm⟩ := good_E hm0
  obtain ⟨ss, hg, hgb, hgl⟩ := good_Ss hg0
  refine of_valiselaw28_NamesPut ⟨fun w' => Ev w w' ∧ fewB (us.map er) = true ∧ fewB (ms.map er) = true ∧ ss.length ≤ 100, ?_, ?_⟩
  · have hgs : Sl w 1 g ss.length (ss.map .string) := hg
    refine gCall_b (few_any hv hb hl) fun w1 h1 => gIf_nnb (fun hf => gCall_b (few_any (hm.ev h1) hbm hlm) fun w2 h2 => gIf_nnb (fun hf2 => gLen_slv (hgs.ev (h1.trans h2)) (gIf_dec (fun h => gCall_b awake_any fun w3 h3 => ⟨rfl, h1.trans (h2.trans h3)⟩) (fun h => ⟨h1.trans h2, hf, hf2, by omega⟩))) (fun _ => gCall_b awake_any fun w3 h3 => ⟨rfl, h1.trans (h2.trans h3)⟩)) (fun _ => gCall_b awake_any fun w3 h3 => ⟨rfl, h1.trans h3⟩)
  rintro _ w6 ⟨h6, hf, hf2, hgl2⟩
  obtain ⟨q1, q2, q3, q4⟩ := few_small hf
  obtain ⟨r1, r2, r3, r4⟩ := few_small hf2
  have hs := few_Small hf
  have hms := few_Small hf2
  refine gCall_of (refSort_any (hv.ev h6) (by omega) hs) ?_
  rintro _ w7 ⟨t36, u36, rfl, hu36, hE36, h7⟩
  have hup : Up (u36.map er) := by rw [hu36]; exact sortE_up _
  have l36 : u36.length ≤ us.length := by have := sortE_len (us.map er); rw [← hu36] at this; simpa using this
  have s36 : Small u36 := small_of (fun x hx => sortE_mem (hu36 ▸ hx)) l36 hs
  refine ⟨_, _, rfl, gCall_of (CopyEntries_any hE36 s36) ?_⟩
  rintro _ w8 ⟨t40, u40, rfl, hu40, f8⟩
  have hE40 := Es.own f8
  have l40 : u40.length = u36.length := by have := congrArg List.length hu40; simpa using this
  have s40 : Small u40 := small_of (fun x hx => hu40 ▸ hx) (by omega) s36
  have k8 : Ev w w8 := h6.trans (h7.trans f8.old)
  have hup40 : Up (u40.map er) := by rw [hu40]; exact hup
  refine ⟨_, rfl, gCall_of (Put_any hE40 hup40 (hm.ev k8) s40 hms (by omega)) ?_⟩
  rintro _ w9 ⟨t44, u44, rfl, hu44, f9⟩
  have h9 := f9.old
  refine ⟨_, _, rfl, gCall_of (refPut_any (hE36.ev (f8.old.trans h9)) hup (hm.ev (k8.trans h9)) (by omega) (by omega) s36 hms (fun x hx => ?_)) ?_⟩
  · rcases List.mem_append.1 hx with hx | hx
    · obtain ⟨u, hu, rfl⟩ := List.mem_map.1 hx; exact s36.2 u hu
    · obtain ⟨u, hu, rfl⟩ := List.mem_map.1 hx; exact hms.2 u hu
  rintro _ w10 ⟨t50, u50, rfl, hu50, hE50, h10⟩
  refine ⟨_, _, rfl, gCall_of (Drop_any (hE40.ev (h9.trans h10)) hup40 (hg.ev (k8.trans (h9.trans h10))) s40 (by omega)) ?_⟩
  rintro _ w11 ⟨t56, u56, rfl, hu56, f11⟩
  have h11 := f11.old
  have k11 : Ev w8 w11 := h9.trans (h10.trans h11)
  refine ⟨_, _, rfl, gCall_of (refDrop_any (hE36.ev (f8.old.trans k11)) (hg.ev (k8.trans k11)) s36 (by omega)) ?_⟩
  rintro _ w12 ⟨t62, u62, rfl, hu62, hE62, h12⟩
  have len44 : u44.length ≤ 100000000 := by
    have h0 := mapLen hu44
    have h1 : (putE (u40.map er) (ms.map er)).1.length ≤ 1000 := by
      unfold putE
      split
      · simp
      · split
        · simp
        · have : ∀ (xs l : List En), (xs.foldl putN l).length ≤ l.length + xs.length := fun xs => by
            induction xs with
            | nil => intro l; simp
            | cons x xs ih =>
              intro l
              have h1 := ih (putN l x)
              have h2 := putN_len l x
              rw [List.foldl_cons, List.length_cons]; omega
          have := this (ms.map er) (u40.map er)
          rw [List.length_map, List.length_map] at this
          dsimp only; omega
    omega
  have len56 : u56.length ≤ 100000000 := by
    have h0 := mapLen hu56
    have : ∀ (ns : List ByteArray) (l : List En), (dropE l ns).1.length ≤ l.length := fun ns => by
      induction ns with
      | nil => intro l; exact Nat.le_refl _
      | cons n ns ih =>
        intro l
        rw [dropE]
        split
        · refine Nat.le_trans (ih _) ?_
          simp; omega
        · simp
    have := this ss (u40.map er)
    rw [List.length_map] at this
    have := s40.1
    omega
  refine ⟨_, _, rfl, gCall_b awake_any fun w13 h13 => gIf_t (gCall_b (entries_any ((Es.own f9).ev (h10.trans (h11.trans (h12.trans h13)))) (hE50.ev (h11.trans (h12.trans h13))) (by omega)) fun w14 h14 => ?_)⟩
  rw [hu44, hu50, hu40, decide_eq_true rfl]
  refine gIf_t (gIf_eq (fun _ => gCall_b (entries_any ((Es.own f11).ev (h12.trans (h13.trans h14))) (hE62.ev (h13.trans h14)) (by omega)) fun w15 h15 => ?_) (fun h => (h rfl).elim))
  rw [hu56, hu62, hu40, decide_eq_true rfl]
  have k15 : Ev w8 w15 := k11.trans (h12.trans (h13.trans (h14.trans h15)))
  refine gIf_t (gIf_eq (fun _ => gCall_i (Find_any s (hE40.ev k15) hup40.weak (by omega)) fun w16 h16 => gCall_i0 (refFind_any s (hE36.ev (f8.old.trans (k15.trans h16))) (by omega)) ?_) (fun h => (h rfl).elim))
  rw [hu40]
  refine gIf_eq (fun _ => gCall_b (entries_any (hE40.ev (k15.trans h16)) (hE36.ev (f8.old.trans (k15.trans h16))) (by omega)) fun w18 h18 => ⟨?_, k8.trans (k15.trans (h16.trans h18))⟩) (fun h => (h rfl).elim)
  rw [hu40, decide_eq_true rfl]
end
end Go.Proofs.YtdknadlkadoloaaDoorV
