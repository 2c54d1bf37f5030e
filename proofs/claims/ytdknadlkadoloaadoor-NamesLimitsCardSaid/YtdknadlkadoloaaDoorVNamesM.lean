/- The law NamesMap. -/
import Derived.Test.YtdknadlkadoloaaDoorVNamesK
namespace Go.Proofs.YtdknadlkadoloaaDoorV
open Go Go.RowKit
theorem putN_sums (l : List En) (x : En) : sumD (putN l x) ≤ sumD l + x.2.length ∧ sumN (putN l x) ≤ sumN l + x.1.size := by
  unfold putN
  have h1 : sumD l = sumD (l.take (atN l x.1)) + sumD (l.drop (atN l x.1)) := by rw [← sumD_app, List.take_append_drop]
  have h2 : sumN l = sumN (l.take (atN l x.1)) + sumN (l.drop (atN l x.1)) := by rw [← sumN_app, List.take_append_drop]
  rw [sumD_app, sumN_app]
  split
  · have h3 : sumD (l.drop (atN l x.1)) = sumD ((l.drop (atN l x.1)).take 1) + sumD ((l.drop (atN l x.1)).drop 1) := by rw [← sumD_app, List.take_append_drop]
    have h4 : sumN (l.drop (atN l x.1)) = sumN ((l.drop (atN l x.1)).take 1) + sumN ((l.drop (atN l x.1)).drop 1) := by rw [← sumN_app, List.take_append_drop]
    rw [List.drop_drop] at h3 h4
    have h5 := sumD_nn ((l.drop (atN l x.1)).take 1)
    have h6 := sumN_nn ((l.drop (atN l x.1)).take 1)
    rw [sumD_cons, sumN_cons]; omega
  · rw [sumD_cons, sumN_cons]; omega
theorem good_E1 {w : World} {c : Array Value} (h : Good P w t_api_Entry c.toList) : ∃ x : E3, c = #[.string x.1, x.2.1] ∧ Nm .u8 w x.2.1 x.2.2 ∧ x.2.2.length ≤ reachBytes ∧ x.1.size ≤ reachBytes := by
  obtain ⟨v0, g0, gg0⟩ := good_fld (i := 0) (off := 0) (ft := t_string) (by kernel_rfl) h
  obtain ⟨v1, g1, gg1⟩ := good_fld (i := 1) (off := 1) (ft := t_sl_uint8) (by kernel_rfl) h
  obtain ⟨s, e0, hs⟩ := good_stringR (by kernel_rfl) gg0
  obtain ⟨xs, hxs, _, hxb⟩ := good_nmR (k := .u8) (e := t_uint8) (by kernel_rfl) (by kernel_rfl) (by kernel_rfl) gg1
  have hb1 : P.bytesOf t_uint8 = 1 := by kernel_rfl
  rw [hb1, Nat.mul_one] at hxb
  simp only [List.cons.injEq, and_true] at e0
  subst e0
  have hfs0 : (match P.underlying t_api_Entry with | some (.struct _) => true | _ => false) = true := by kernel_rfl
  obtain ⟨fs, hfs⟩ : ∃ fs, P.underlying t_api_Entry = some (.struct fs) := by
    split at hfs0
    · rename_i fs h; exact ⟨fs, h⟩
    · cases hfs0
  have hl := (good_struct hfs h).1
  rw [show P.cellsOf t_api_Entry = 2 by kernel_rfl] at hl
  refine ⟨(s, v1, xs), ?_, hxs, hxb, hs⟩
  obtain ⟨l⟩ := c
  simp only at hl g0 g1
  match l, hl with
  | [a, b], _ =>
    simp at g0 g1
    subst g0; subst g1; rfl
section
variable {w0 w w' : World} {F : List It}
theorem NamesMap_law {v : Value} {c : Array Value} (hv0 : Good P w t_sl_api_Entry [v]) (hx0 : Good P w t_api_Entry c.toList) : Calls P n_valiselaw28_NamesMap #[v, .agg c] w (Holds w) := by
  obtain ⟨us, hv, hb, hl⟩ := good_E hv0
  obtain ⟨x, rfl, hnx, hxb1, hxb2⟩ := good_E1 hx0
  refine of_valiselaw28_NamesMap (fBox (Fr.start w) fun x3 w1 f1 => ?_)
  have f1 : Fr w w1 [sIt x3 [.string x.1, x.2.1]] := f1
  refine ⟨fun w' => Fr w w' [sIt x3 [.string x.1, x.2.1]] ∧ fewB (us.map er) = true ∧ x.2.2.length ≤ 1000 ∧ x.1.size ≤ 1000, ?_, ?_⟩
  · refine gCall_b (few_any (hv.ev f1.old) hb hl) fun w2 h2 => gIf_nnb (fun hf => gLoad_v ((f1.ev h2).cell 0 1 rfl rfl) (gLen_nm (hnx.ev (f1.ev h2).old) (gIf_ndec (fun h3 => gLoad_s ((f1.ev h2).cell 0 0 rfl rfl) (gIf_dec (fun h => gCall_b awake_any fun w3 h3 => ⟨rfl, ((f1.ev h2).ev h3).old⟩) (fun h => ⟨f1.ev h2, hf, by omega, by omega⟩))) (fun _ => gCall_b awake_any fun w3 h3 => ⟨rfl, ((f1.ev h2).ev h3).old⟩)))) (fun _ => gCall_b awake_any fun w3 h3 => ⟨rfl, ((f1.ev h2).ev h3).old⟩)
  rintro _ w6 ⟨f6, hf, hx1, hx2⟩
  clear f1
  obtain ⟨q1, q2, q3, q4⟩ := few_small hf
  have hs := few_Small hf
  refine gCall_of (Sort_any (hv.ev f6.old) hs) ?_
  intro e7 w7 hr7
  obtain ⟨t33, u33, rfl, hu33, hE33, h7⟩ := SortR.own hr7
  have f7 := f6.ev h7
  have l33 : u33.length ≤ us.length := by have := sortE_len (us.map er); rw [← hu33] at this; simpa using this
  have s33 : Small u33 := small_of (fun y hy => sortE_mem (hu33 ▸ hy)) l33 hs
  have hup : Up (u33.map er) := by rw [hu33]; exact sortE_up _
  refine ⟨_, _, rfl, ⟨fun w' => Ev w7 w' ∧ (sortE (us.map er)).2 = 0 ∧ rightN x.1 = true, ?_, ?_⟩⟩
  · refine gCall_b awake_any fun w8 h8 => gIf_nn (gIf_of (fun hne => ?_) (fun heq => ?_))
    · have hne : (sortE (us.map er)).2 = 0 := by simpa using hne
      refine gLoad_s ((f7.ev h8).cell 0 0 rfl rfl) (gCall_b (Right_any x.1) fun w9 h9 => gIf_nb (fun h => gCall_b awake_any fun w10 h10 => ⟨rfl, ((f7.ev h8).ev (h9.trans h10)).old⟩) (fun h => ⟨h8.trans h9, hne, h⟩))
    · exact gCall_b awake_any fun w10 h10 => ⟨rfl, ((f7.ev h8).ev h10).old⟩
  rintro _ w13 ⟨h13, hok, hright⟩
  have f13 := f7.ev h13
  obtain ⟨o1, hnd, o3, _⟩ := sortE_ok hok
  have hperm : (u33.map er).Perm (us.map er) := by rw [hu33, o1]; exact srtN_perm _
  have hput : putE (u33.map er) ([x].map er) = (putN (u33.map er) (er x), 0) := by
    have hx1 : sortE ([x].map er) = ([er x], 0) := by
      have hr : (([x].map er).any fun x => !rightN x.1) = false := by simp [er, hright]
      have hm1 : much ([x].map er) = false := not_much (by simp) (by simp [sumD, er]; omega) (by simp [sumN, er]; omega)
      unfold sortE
      rw [if_neg (by rw [hr]; decide), if_neg (show ¬¬ (([x].map er).map (·.1)).Nodup from fun h => h (by simp)), if_neg (by rw [hm1]; decide)]
      rfl
    have hmu : much (putN (u33.map er) (er x)) = false := by
      have h1 := putN_sums (u33.map er) (er x)
      have h2 := putN_len (u33.map er) (er x)
      rw [List.length_map] at h2
      rw [sumD_perm hperm, sumN_perm hperm] at h1
      simp only [er] at h1
      exact not_much (by omega) (by simp only [er]; omega) (by simp only [er]; omega)
    unfold putE
    rw [hx1, if_neg (show ¬ ((0 : Int) ≠ 0) from fun h => h rfl)]
    show (if much (putN (u33.map er) (er x)) = true then _ else _) = _
    rw [if_neg (by rw [hmu]; decide)]; rfl
  have hupY : Up (putN (u33.map er) (er x)) := putN_up hup
  obtain ⟨Y, hY⟩ : ∃ Y, Y = putN (u33.map er) (er x) := ⟨_, rfl⟩
  have hxY : er x ∈ Y := by rw [hY]; exact (putN_mem hup).2 (.inl rfl)
  rw [← hY] at hput hupY
  obtain ⟨hhY, hgY⟩ := find_mem hupY hxY
  obtain ⟨k, hk⟩ : ∃ k, k = atN Y x.1 := ⟨_, rfl⟩
  rw [show (er x).1 = x.1 from rfl] at hhY hgY
  rw [← hk] at hgY
  have hklt := (List.getElem?_eq_some_iff.1 hgY).1
  refine gLoad_E (f13.cell 0 0 rfl rfl) (f13.cell 0 1 rfl rfl) (fLit_sz 2 [[.string x.1, x.2.1]] (Fr.start w13) rfl rfl (fun v hv => by simp at hv; subst hv; rfl) (fun ad2 w14 f14 => ?_) (by decide) (by kernel_rfl) (by decide +kernel))
  have hE1 : Es w14 (.slice (some ad2) 1 1) [x] := lit1_E (f14.get 0 rfl) ((hnx.ev f13.old).ev f14.old)
  have g14 := f13.ev f14.old
  have hE33' : Es w14 t33 u33 := hE33.ev (h13.trans f14.old)
  refine gCall_of (Put_any hE33' hup hE1 s33 ⟨by simp, fun u hu => by rw [List.mem_singleton.1 hu]; exact ⟨by omega, by omega⟩⟩ (by simp; omega)) ?_
  intro e15 w15 hr15
  obtain ⟨t53, u53, rfl, hu53, hE53, h15⟩ := SortR.own hr15
  rw [hput] at hu53 ⊢
  have hu53 : u53.map er = Y := hu53
  have l53 : u53.length = Y.length := mapLen hu53
  have hYl : Y.length ≤ 300 := by rw [hY]; have := putN_len (u33.map er) (er x); rw [List.length_map] at this; omega
  have g15 := g14.ev h15
  obtain ⟨z, hz⟩ : ∃ z, u53[k]? = some z := ⟨u53[k]'(by omega), List.getElem?_eq_getElem (by omega)⟩
  have hzx : er z = er x := by
    have : (u53.map er)[k]? = some (er z) := by rw [List.getElem?_map, hz]; rfl
    rw [hu53, hgY] at this; injection this with this; exact this.symm
  have s53 : Small u53 := ⟨by omega, fun u hu => by
    have h1 : er u ∈ Y := hu53 ▸ List.mem_map.2 ⟨u, hu, rfl⟩
    rw [hY] at h1
    rcases (putN_mem hup).1 h1 with h1 | ⟨h1, _⟩
    · have e1 : u.1 = x.1 := congrArg (fun p : En => p.1) h1
      have e2 : u.2.2 = x.2.2 := congrArg (fun p : En => p.2) h1
      rw [e1, e2]; omega
    · obtain ⟨q, hq, hqe⟩ := List.mem_map.1 h1
      have e1 : q.1 = u.1 := congrArg (fun p : En => p.1) hqe
      have e2 : q.2.2 = u.2.2 := congrArg (fun p : En => p.2) hqe
      rw [← e1, ← e2]; exact s33.2 q hq⟩
  refine ⟨_, _, rfl, gLoad_s (g15.cell 0 0 rfl rfl) (gCall_i (Find_any x.1 hE53 (by rw [hu53]; exact hupY.weak) (by omega)) fun w16 h16 => ?_)⟩
  have hfind : findN (u53.map er) x.1 = (k : Int) := by unfold findN; rw [hu53, hhY, if_pos rfl, ← hk]
  rw [hfind]
  have g16 := g15.ev h16
  have hE16 := hE53.ev h16
  refine ⟨fun w' => Ev w16 w', ⟨fun w' => Ev w16.drew w', Ch.refl _ _, ?_⟩, ?_⟩
  · refine gIf_nneq (fun _ => gIf_ndec (fun _ => gLen_slv hE16.1 (gIf_ndec (fun _ => ?_) (fun h => by omega))) (fun h => by omega)) (fun h => (h rfl).elim)
    refine gIdx_E hE16 rfl hz fun ad h0 h1 => gLoadB_agg [.string z.1, z.2.1] (fun w' hw q y hq => ?_) (gLoadB_agg [.string x.1, x.2.1] (fun w' hw q y hq => Ch.cell hw (g16.drew.cell 0 q rfl hq) fun h => h) ?_)
    · rcases q with _ | _ | q
      · simp at hq; subst hq; exact Ch.cell hw h0 fun h => h
      · simp at hq; subst hq; exact Ch.cell hw h1 fun h => h
      · simp at hq
    · have hzm : z ∈ u53 := List.mem_of_getElem? hz
      refine gCall_b (Entry_any z x (hE16.2 z hzm) (hnx.ev g16.drew.old)) fun w17 h17 => ⟨h17, ?_⟩
      rw [decide_eq_true hzx]
      exact gIf_nt ((Ev.drew0 w16).trans h17)
  intro _ w18 h18
  have g18 := g16.ev h18
  have hE18 := hE16.ev h18
  refine ⟨fun i w' => ∃ j : Nat, i = (j : Int) ∧ 1 ≤ j ∧ Ev w18 w', fun i _ => (u53.length - i).toNat, ⟨1, rfl, Nat.le_refl _, Ch.refl _ _⟩, ?_⟩
  rintro _ i w19 ⟨j, rfl, hj1, h19⟩
  have hE19 := hE18.ev h19
  refine gLen_slv hE19.1 (gIf_dec (fun hlt => ?_) (fun hge => ?_))
  · have hlt' : j < u53.length := by omega
    have ha := List.getElem?_eq_getElem (show j - 1 < u53.length by omega)
    have hb' := List.getElem?_eq_getElem hlt'
    rw [i64_id (n := (j : Int) - 1) (by omega) (by omega)]
    refine gIdx_E hE19 (j := j - 1) (by omega) ha fun ad1 h01 _ => gLoadB_s (fun w' hw => Ch.cell (drewEv hw) h01 fun h => h) (gIdx_E hE19 rfl hb' fun ad2 h02 _ => gLoadB_s (fun w' hw => Ch.cell (drewEv hw) h02 fun h => h) ?_)
    rw [nlt_tl]
    have hlt2 : nlt u53[j - 1].1 u53[j].1 = true := by
      have hY2 := hupY
      rw [← hu53] at hY2
      have := List.pairwise_iff_getElem.1 hY2 (j - 1) j (by rw [List.length_map]; omega) (by rw [List.length_map]; omega) (by omega)
      simpa [er] using this
    rw [hlt2]
    exact gIf_nt ⟨⟨j + 1, by rw [i64_id (by omega) (by omega)]; omega, by omega, h19.drew⟩, by dsimp only; rw [i64_id (by omega) (by omega)]; omega⟩
  have g19 := g18.ev h19
  refine gLoad_s (g19.cell 0 0 rfl rfl) (fLitV [.string x.1] (Fr.start w19) rfl rfl (fun v hv => by rw [List.mem_singleton.1 hv]; rfl) fun t103 w20 f20 => ?_)
  have hss : Ss w20 t103 [x.1] := f20.sl 0 rfl
  have hE20 := hE19.ev f20.old
  refine gCall_of (Drop_any hE20 (by rw [hu53]; exact hupY) hss s53 (by simp)) ?_
  intro e21 w21 hr21
  obtain ⟨t104, u104, rfl, hu104, hE104, h21⟩ := SortR.own hr21
  have hdrop : dropE (u53.map er) [x.1] = (Y.take k ++ Y.drop (k + 1), 0) := by
    rw [hu53, dropE, if_pos hhY, dropE, ← hk]
  rw [hdrop] at hu104 ⊢
  have hu104 : u104.map er = Y.take k ++ Y.drop (k + 1) := hu104
  have l104 : u104.length = Y.length - 1 := by have := mapLen hu104; rw [List.length_append, List.length_take, List.length_drop] at this; omega
  have hupZ : Up (u104.map er) := by rw [hu104]; exact dropN_up hupY k
  have hsplit := split_at hgY
  have hnoZ : ∀ y ∈ u104.map er, y.1 ≠ x.1 := fun y hy e => by
    rw [hu104] at hy
    have hn := hupY.nodup
    rw [hsplit, List.map_append, List.map_cons, List.nodup_append] at hn
    obtain ⟨_, n2, n3⟩ := hn
    rw [List.nodup_cons] at n2
    rcases List.mem_append.1 hy with hy | hy
    · exact n3 y.1 (List.mem_map.2 ⟨y, hy, rfl⟩) (er x).1 (by simp) e
    · exact n2.1 (List.mem_map.2 ⟨y, hy, e⟩)
  have g21 := (g19.ev f20.old).ev h21
  have hfz : findN (u104.map er) x.1 = -1 := by
    unfold findN
    have : hasN (u104.map er) x.1 = false := by
      cases hc : hasN (u104.map er) x.1 with
      | false => rfl
      | true =>
        obtain ⟨y, hy, hye⟩ := List.mem_map.1 ((hasN_iff hupZ.weak).1 hc)
        exact absurd hye (hnoZ y hy)
    rw [this]; rfl
  have hE53' := hE20.ev h21
  refine ⟨_, _, rfl, ⟨fun w' => Ev w21 w', ?_, ?_⟩⟩
  · refine gIf_nneq (fun _ => gLoad_s (g21.cell 0 0 rfl rfl) (gCall_i (Find_any x.1 hE104 hupZ.weak (by omega)) fun w22 h22 => ?_)) (fun h => (h rfl).elim)
    rw [hfz]
    refine gIf_ndec (fun _ => gLen_slv (hE104.ev h22).1 (gLen_slv (hE53'.ev h22).1 ?_)) (fun h => by omega)
    rw [i64_id (n := ((u53.length : Nat) : Int) - 1) (by omega) (by omega)]
    exact gIf_neq (fun h => by omega) (fun _ => h22)
  intro _ w23 h23
  have g23 := g21.ev h23
  have hE33z : Es w23 t33 u33 := hE33'.ev (h15.trans (h16.trans (h18.trans (h19.trans (f20.old.trans (h21.trans h23))))))
  refine ⟨fun i w' => ∃ j : Nat, i = (j : Int) ∧ j ≤ u33.length ∧ Ev w23 w', fun i _ => (u33.length - i).toNat, ⟨0, rfl, Nat.zero_le _, Ch.refl _ _⟩, ?_⟩
  rintro _ i w24 ⟨j, rfl, hj, h24⟩
  have hE33w := hE33z.ev h24
  have hEz := hE104.ev (h23.trans h24)
  refine gLen_slv hE33w.1 (gIf_dec (fun hlt => ?_) (fun hge => ⟨rfl, (g23.ev h24).old⟩))
  have hlt' : j < u33.length := by omega
  have hy := List.getElem?_eq_getElem hlt'
  have hym : u33[j] ∈ u33 := List.getElem_mem hlt'
  generalize u33[j] = y at hy hym
  refine gIdx_E hE33w rfl hy fun ad h0 _ => gLoad_s h0 (gCall_i (Find_any y.1 hEz hupZ.weak (by omega)) fun w25 h25 => ?_)
  have hE33v := hE33w.ev h25
  have hEz5 := hEz.ev h25
  have g25 := (g23.ev h24).ev h25
  have next : ∀ w', Ev w23 w' → (∃ j' : Nat, i64 ((j : Int) + 1) = (j' : Int) ∧ j' ≤ u33.length ∧ Ev w23 w') ∧ ((u33.length : Int) - i64 ((j : Int) + 1)).toNat < ((u33.length : Int) - (j : Int)).toNat := fun w' hw => by
    rw [i64_id (by omega) (by omega)]
    exact ⟨⟨j + 1, by omega, by omega, hw⟩, by omega⟩
  refine ⟨fun w' => Ev w25.drew w', Ch.refl _ _, gIdx_E hE33v rfl hy fun ad1 h01 _ => gLoadB_s (fun w' hw => Ch.cell hw h01 fun h => h) (gLoadB_s (fun w' hw => Ch.cell hw (g25.drew.cell 0 0 rfl rfl) fun h => h) ?_)⟩
  rw [tl_eqb]
  refine gIf_ndec (fun hne => ?_) (fun _ => next _ (h24.trans h25.drew))
  have hyZ : er y ∈ u104.map er := by
    rw [hu104]
    have h1 : er y ∈ Y := by rw [hY]; exact (putN_mem hup).2 (.inr ⟨List.mem_map.2 ⟨y, hym, rfl⟩, hne⟩)
    rw [hsplit] at h1
    rcases List.mem_append.1 h1 with h1 | h1
    · exact List.mem_append_left _ h1
    · rcases List.mem_cons.1 h1 with h1 | h1
      · exact absurd (congrArg (fun p : En => p.1) h1) hne
      · exact List.mem_append_right _ h1
  obtain ⟨hh2, hg2⟩ := find_mem hupZ hyZ
  rw [show (er y).1 = y.1 from rfl] at hh2 hg2
  have hfy : findN (u104.map er) y.1 = (atN (u104.map er) y.1 : Int) := by unfold findN; rw [hh2, if_pos rfl]
  rw [hfy]
  generalize atN (u104.map er) y.1 = q at hg2
  have hqlt := (List.getElem?_eq_some_iff.1 hg2).1
  rw [List.length_map] at hqlt
  obtain ⟨zz, hzz⟩ : ∃ zz, u104[q]? = some zz := ⟨u104[q], List.getElem?_eq_getElem hqlt⟩
  have hzy : er zz = er y := by
    rw [List.getElem?_map, hzz] at hg2
    simpa using hg2
  refine gIf_ndec (fun _ => gLen_slv hEz5.1 (gIf_ndec (fun _ => ?_) (fun h => by omega))) (fun h => by omega)
  refine gIdx_E hEz5 rfl hzz fun ad3 a0 a1 => gLoadB_agg [.string zz.1, zz.2.1] (fun w' hw c' y' hq => ?_) (gIdx_E hE33v rfl hy fun ad4 b0 b1 => gLoadB_agg [.string y.1, y.2.1] (fun w' hw c' y' hq => ?_) ?_)
  · rcases c' with _ | _ | c'
    · simp at hq; subst hq; exact Ch.cell hw a0 fun h => h
    · simp at hq; subst hq; exact Ch.cell hw a1 fun h => h
    · simp at hq
  · rcases c' with _ | _ | c'
    · simp at hq; subst hq; exact Ch.cell hw b0 fun h => h
    · simp at hq; subst hq; exact Ch.cell hw b1 fun h => h
    · simp at hq
  · refine gCall_b (Entry_any zz y (hEz5.2 zz (List.mem_of_getElem? hzz)) (hE33v.2 y hym)) fun w26 h26 => ⟨h26, ?_⟩
    rw [decide_eq_true hzy]
    exact gIf_nt (next _ (h24.trans (h25.trans ((Ev.drew0 w25).trans h26))))
end
end Go.Proofs.YtdknadlkadoloaaDoorV
