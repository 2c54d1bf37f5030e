/- Entries held against each other, few of them; the laws NamesRight, NamesSort. -/
import Derived.Test.YtdknadlkadoloaaDoorVNamesF
import Derived.Test.YtdknadlkadoloaaDoorVHelp
import Derived.Test.YtdknadlkadoloaaDoorVHelpSpoil
import Derived.Test.YtdknadlkadoloaaDoorVLaw
namespace Go.Proofs.YtdknadlkadoloaaDoorV
open Go Go.RowKit
def Big (us : List E3) : Prop := ∀ u ∈ us, u.2.2.length ≤ reachBytes ∧ u.1.size ≤ reachBytes
theorem reach47 : reachBytes < 140737488355328 := by decide
section
variable {w0 w w' : World} {F : List It}
theorem good_E {v : Value} (h : Good P w t_sl_api_Entry [v]) : ∃ us, Es w v us ∧ Big us ∧ us.length ≤ 140737488355328 := by
  obtain ⟨n, cs, hS, _, hby, hg⟩ := good_slR (sz := 2) (e := t_api_Entry) (by kernel_rfl) (by kernel_rfl) h
  have hcl : cs.length = n * 2 := by obtain ⟨_, _, _, _, h, _⟩ := hS; exact h
  have : ∀ m, m ≤ n → ∃ us : List E3, us.length = m ∧ cells3 us = cs.take (m * 2) ∧ ∀ u ∈ us, Nm .u8 w u.2.1 u.2.2 ∧ u.2.2.length ≤ reachBytes ∧ u.1.size ≤ reachBytes := by
    intro m
    induction m with
    | zero => intro _; exact ⟨[], rfl, by simp [cells3], fun _ h => by cases h⟩
    | succ m ih =>
      intro hm
      obtain ⟨us, h1, h2, h3⟩ := ih (by omega)
      have hgm := hg m (by omega)
      obtain ⟨v0, g0, gg0⟩ := good_fld (i := 0) (off := 0) (ft := t_string) (by kernel_rfl) hgm
      obtain ⟨v1, g1, gg1⟩ := good_fld (i := 1) (off := 1) (ft := t_sl_uint8) (by kernel_rfl) hgm
      obtain ⟨s, e0, hs⟩ := good_stringR (by kernel_rfl) gg0
      obtain ⟨xs, hxs, _, hxb⟩ := good_nmR (k := .u8) (e := t_uint8) (by kernel_rfl) (by kernel_rfl) (by kernel_rfl) gg1
      have hb1 : P.bytesOf t_uint8 = 1 := by kernel_rfl
      rw [hb1, Nat.mul_one] at hxb
      simp only [List.cons.injEq, and_true] at e0
      subst e0
      refine ⟨us ++ [(s, v1, xs)], by simp [h1], ?_, fun u hu => ?_⟩
      · rw [cells3_app, h2]
        have hlt : m * 2 + 1 < cs.length := by omega
        rw [List.getElem?_take, if_pos (by omega), List.getElem?_drop] at g0 g1
        have a0 : cs[m * 2] = Value.string s := (List.getElem?_eq_some_iff.1 (by simpa using g0)).2
        have a1 : cs[m * 2 + 1] = v1 := (List.getElem?_eq_some_iff.1 g1).2
        rw [show (m + 1) * 2 = m * 2 + 1 + 1 by omega, List.take_succ_eq_append_getElem (by omega), List.take_succ_eq_append_getElem (by omega), a0, a1]
        simp [cells3, c3]
      · rcases List.mem_append.1 hu with hu | hu
        · exact h3 u hu
        · simp at hu; subst hu; exact ⟨hxs, hxb, hs⟩
  obtain ⟨us, h1, h2, h3⟩ := this n (Nat.le_refl _)
  rw [List.take_of_length_le (by omega)] at h2
  have hb40 : P.bytesOf t_api_Entry = 40 := by kernel_rfl
  rw [hb40] at hby
  have := reach47
  exact ⟨us, ⟨by rw [h1, h2]; exact hS, fun u hu => (h3 u hu).1⟩, fun u hu => (h3 u hu).2, by rw [h1]; omega⟩
theorem Entry_any (u x : E3) (hu : Nm .u8 w u.2.1 u.2.2) (hx : Nm .u8 w x.2.1 x.2.2) : Calls P n_valisehelp_Entry #[.agg #[.string u.1, u.2.1], .agg #[.string x.1, x.2.1]] w (fun e w' => e = .returned (.bool (decide (er u = er x))) ∧ Ev w w') := by
  refine of_valisehelp_Entry (fBox (Fr.start w) fun a2 w1 f1 => fBox f1 fun b3 w2 f2 => gLoad_s (f2.cell 1 0 rfl rfl) (gLoad_s (f2.cell 0 0 rfl rfl) ?_))
  rw [tl_eqb]
  refine gIf_dec (fun he => gLoad_v (f2.cell 1 1 rfl rfl) (gLoad_v (f2.cell 0 1 rfl rfl) (gCall_b0 (Bytes_any (hu.ev f2.old) (hx.ev f2.old)) ⟨?_, f2.old⟩))) (fun hne => ⟨?_, f2.old⟩)
  · have : (er u = er x) ↔ u.2.2 = x.2.2 := by unfold er; rw [Prod.mk.injEq, he]; simp
    rw [decide_eq_decide.2 this]
  · rw [decide_eq_false (show ¬ er u = er x from fun h => hne (congrArg (fun p : En => p.1) h))]
theorem SameE_any {a b : Value} {us vs : List E3} (ha : Es w a us) (hb : Es w b vs) (hl : us.length ≤ 1000000000) : Calls P n_valisehelp_Same_api_Entry #[a, b, .func (.func n_valisehelp_Entry) #[] #[]] w (fun e w' => e = .returned (.bool (decide (us.map er = vs.map er))) ∧ Ev w w') := by
  refine of_valisehelp_Same_api_Entry (gLen_slv ha.1 (gLen_slv hb.1 (gIf_neq (fun hne => ?_) (fun heq => ?_))))
  · refine ⟨?_, Ch.refl _ w⟩
    rw [decide_eq_false]
    intro h; have := congrArg List.length h; simp at this; omega
  have hlen : us.length = vs.length := by omega
  refine ⟨fun i w' => ∃ j : Nat, i = (j : Int) ∧ j ≤ us.length ∧ (us.take j).map er = (vs.take j).map er ∧ Ev w w', fun i _ => (us.length - i).toNat, ⟨0, rfl, Nat.zero_le _, rfl, Ch.refl _ w⟩, ?_⟩
  rintro _ i w1 ⟨j, rfl, hj, heq', he⟩
  have ha1 := ha.ev he
  have hb1 := hb.ev he
  refine gLen_slv ha1.1 (gIf_dec (fun hlt => ?_) (fun hge => ?_))
  · have hlt' : j < us.length := by omega
    have hu := List.getElem?_eq_getElem hlt'
    have hv := List.getElem?_eq_getElem (show j < vs.length by omega)
    have hmu : us[j] ∈ us := List.getElem_mem hlt'
    have hmv : vs[j] ∈ vs := List.getElem_mem (show j < vs.length by omega)
    have tu : us.take (j + 1) = us.take j ++ [us[j]] := List.take_succ_eq_append_getElem hlt'
    have tv : vs.take (j + 1) = vs.take j ++ [vs[j]] := List.take_succ_eq_append_getElem (show j < vs.length by omega)
    generalize us[j] = u at *
    generalize vs[j] = x at *
    refine ⟨fun w' => Ev w1.drew w', Ch.refl _ _, gIdx_E ha1 rfl hu fun ad h0 h1 => gLoadB_agg [.string u.1, u.2.1] (fun w' hw q y hq => ?_) (gIdx_E hb1 rfl hv fun ad2 k0 k1 => gLoadB_agg [.string x.1, x.2.1] (fun w' hw q y hq => ?_) (gCallV_of rfl (by kernel_rfl) (Entry_any u x (ha1.2 u hmu) (hb1.2 x hmv)) ?_))⟩
    · rcases q with _ | _ | q
      · simp at hq; subst hq; exact Ch.cell hw h0 fun h => h
      · simp at hq; subst hq; exact Ch.cell hw h1 fun h => h
      · simp at hq
    · rcases q with _ | _ | q
      · simp at hq; subst hq; exact Ch.cell hw k0 fun h => h
      · simp at hq; subst hq; exact Ch.cell hw k1 fun h => h
      · simp at hq
    · rintro _ w2 ⟨rfl, h2⟩
      refine ⟨_, rfl, h2, gIf_ndec (fun hne => ?_) (fun heq2 => ?_)⟩
      · refine ⟨?_, he.trans ((Ev.drew0 w1).trans h2)⟩
        rw [decide_eq_false]
        intro h
        have h1 : (us.map er)[j]? = (vs.map er)[j]? := by rw [h]
        rw [List.getElem?_map, List.getElem?_map, hu, hv] at h1
        simp at h1; exact hne h1
      · refine ⟨⟨j + 1, by rw [i64_id (by omega) (by omega)]; omega, by omega, ?_, he.trans ((Ev.drew0 w1).trans h2)⟩, by dsimp only; rw [i64_id (by omega) (by omega)]; omega⟩
        rw [tu, tv, List.map_append, List.map_append, heq']; simp [heq2]
  · refine ⟨?_, he⟩
    rw [List.take_of_length_le (by omega), List.take_of_length_le (by omega)] at heq'
    rw [decide_eq_true heq']
theorem entries_any {a b : Value} {us vs : List E3} (ha : Es w a us) (hb : Es w b vs) (hl : us.length ≤ 1000000000) : Calls P n_valiselaw28_entries #[a, b] w (fun e w' => e = .returned (.bool (decide (us.map er = vs.map er))) ∧ Ev w w') :=
  of_valiselaw28_entries (gCall_b (SameE_any ha hb hl) fun _ h => ⟨rfl, h⟩)
def fewB (l : List En) : Bool := decide (l.length < 200) && decide (sumD l + sumN l < 50000)
set_option maxRecDepth 20000 in
theorem few_any {v : Value} {us : List E3} (hv : Es w v us) (hb : Big us) (hl : us.length ≤ 140737488355328) : Calls P n_valiselaw28_few #[v] w (fun e w' => e = .returned (.bool (fewB (us.map er))) ∧ Ev w w') := by
  have hr := reach47
  refine of_valiselaw28_few ⟨fun n i w' => ∃ j : Nat, i = (j : Int) ∧ j ≤ us.length ∧ j ≤ 200 ∧ n = sumD ((us.take j).map er) + sumN ((us.take j).map er) ∧ 0 ≤ n ∧ n ≤ 300000000000000 * j ∧ Ev w w', fun _ i _ => (us.length - i).toNat, ⟨0, rfl, Nat.zero_le _, by omega, rfl, by decide, by decide, Ch.refl _ w⟩, ?_⟩
  rintro _ n i w1 ⟨j, rfl, hj, hj2, hn, hn0, hn1, he⟩
  have hv1 := hv.ev he
  have out : ∀ {R : Bool → World → Prop}, (∀ b, b = fewB (us.map er) → R b w1) → (j = us.length ∨ j = 200) → gLen P t_sl_api_Entry v fun t31 => gIf (decide ((t31 : Int) < 200)) (R (decide (n < 50000)) w1) (R false w1) := fun {R} hR hjj => by
    refine gLen_slv hv1.1 (gIf_dec (fun hlt => hR _ ?_) (fun hge => hR _ ?_))
    · have hjl : j = us.length := by omega
      rw [hjl, List.take_length] at hn
      unfold fewB
      rw [← hn, List.length_map, decide_eq_true (show us.length < 200 by omega)]; rfl
    · unfold fewB
      rw [List.length_map, decide_eq_false (show ¬ us.length < 200 by omega)]; rfl
  refine ⟨fun w' => w' = w1 ∧ j < us.length ∧ j < 200, ?_, ?_⟩
  · refine gLen_slv hv1.1 (gIf_dec (fun hlt => gIf_dec (fun hlt2 => ⟨rfl, by omega, by omega⟩) (fun hge2 => ?_)) (fun hge => ?_))
    · exact out (R := fun b w' => (Ending.returned (.bool b) = Ending.returned (.bool (fewB (us.map er)))) ∧ Ev w w') (fun b hb' => ⟨by rw [hb'], he⟩) (.inr (by omega))
    · exact out (R := fun b w' => (Ending.returned (.bool b) = Ending.returned (.bool (fewB (us.map er)))) ∧ Ev w w') (fun b hb' => ⟨by rw [hb'], he⟩) (.inl (by omega))
  · rintro _ w2 ⟨rfl, hlt', hlt2⟩
    have hu : us[j]? = some us[j] := List.getElem?_eq_getElem hlt'
    have hmem : us[j] ∈ us := List.getElem_mem hlt'
    have htk : us.take (j + 1) = us.take j ++ [us[j]] := List.take_succ_eq_append_getElem hlt'
    generalize us[j] = u at hu hmem htk
    have hbu := hb u hmem
    have hs : sumD ((us.take (j + 1)).map er) + sumN ((us.take (j + 1)).map er) = n + (u.2.2.length : Int) + (u.1.size : Int) := by
      rw [htk, List.map_append, sumD_app, sumN_app, hn]; simp [sumD, sumN, er]; omega
    refine gIdx_E hv1 rfl hu fun ad h0 h1 => gLoadB_v (fun w' hw => Ch.cell (drewEv hw) h1 fun h => h) (gLen_nm (hv1.2 u hmem) (gIdx_E hv1 rfl hu fun ad h0 h1 => gLoadB_s (fun w' hw => Ch.cell (drewEv hw) h0 fun h => h) ?_))
    rw [i64_id (n := n + (u.2.2.length : Int)) (by omega) (by omega), i64_id (n := n + (u.2.2.length : Int) + (u.1.size : Int)) (by omega) (by omega)]
    exact ⟨⟨j + 1, by rw [i64_id (by omega) (by omega)]; omega, by omega, by omega, hs.symm, by omega, by omega, he.drew⟩, by dsimp only; rw [i64_id (by omega) (by omega)]; omega⟩
theorem sum_nn (f : En → Int) : ∀ l : List En, (∀ x ∈ l, 0 ≤ f x) → 0 ≤ (l.map f).sum
  | [], _ => by simp
  | y :: l, h => by
    have := h y (by simp)
    have := sum_nn f l fun z hz => h z (by simp [hz])
    simp only [List.map_cons, List.sum_cons]; omega
theorem le_sum (f : En → Int) : ∀ l : List En, (∀ x ∈ l, 0 ≤ f x) → ∀ x ∈ l, f x ≤ (l.map f).sum
  | y :: l, h, x, hx => by
    have ih := le_sum f l fun z hz => h z (by simp [hz])
    have h0 := h y (by simp)
    have h1 : 0 ≤ (l.map f).sum := sum_nn f l fun z hz => h z (by simp [hz])
    simp only [List.map_cons, List.sum_cons]
    rcases List.mem_cons.1 hx with rfl | hx
    · omega
    · have := ih x hx; omega
theorem few_small {us : List E3} (h : fewB (us.map er) = true) : us.length < 200 ∧ (∀ u ∈ us, u.2.2.length < 50000 ∧ u.1.size < 50000) ∧ sumD (us.map er) < 50000 ∧ sumN (us.map er) < 50000 := by
  unfold fewB at h
  rw [Bool.and_eq_true, decide_eq_true_eq, decide_eq_true_eq, List.length_map] at h
  have h1 := sumD_nn (us.map er)
  have h2 := sumN_nn (us.map er)
  refine ⟨h.1, fun u hu => ?_, by omega, by omega⟩
  have hd := le_sum (fun x => (x.2.length : Int)) (us.map er) (fun x _ => Int.natCast_nonneg _) (er u) (List.mem_map.2 ⟨u, hu, rfl⟩)
  have hn := le_sum (fun x => (x.1.size : Int)) (us.map er) (fun x _ => Int.natCast_nonneg _) (er u) (List.mem_map.2 ⟨u, hu, rfl⟩)
  have e1 : ((us.map er).map (fun x => (x.2.length : Int))).sum = sumD (us.map er) := rfl
  have e2 : ((us.map er).map (fun x => (x.1.size : Int))).sum = sumN (us.map er) := rfl
  rw [e1] at hd; rw [e2] at hn
  simp only [er] at hd hn
  omega
theorem few_Small {us : List E3} (h : fewB (us.map er) = true) : Small us := by
  obtain ⟨h1, h2, _⟩ := few_small h
  exact ⟨by omega, fun u hu => by have := h2 u hu; omega⟩
/-! ### awake -/
def sB (l : List UInt8) : ByteArray := mkS l
theorem awake_sort : sortE [(sB [98], []), (sB [97], [])] = ([(sB [97], []), (sB [98], [])], 0) := by decide +kernel
theorem awake_right : rightN (sB [97, 47, 98]) = true := by decide +kernel
theorem awake_any : Calls P n_valiselaw28_awake #[] w (fun e w' => e = .returned (.bool true) ∧ Ev w w') := by
  refine of_valiselaw28_awake (fLit_sz 2 [[.string (sB [98]), .slice none 0 0], [.string (sB [97]), .slice none 0 0]] (Fr.start w) rfl rfl (fun v hv => by simp at hv; rcases hv with rfl | rfl <;> rfl) (fun ad w1 f1 => ?_) (by decide) (by kernel_rfl) (by decide +kernel))
  have hE : Es w1 (.slice (some ad) 2 2) [(sB [98], .slice none 0 0, []), (sB [97], .slice none 0 0, [])] :=
    ⟨⟨some ad, 2, rfl, Nat.le_refl _, rfl, fun ad' ha j u hj => by injection ha with ha; subst ha; exact St.cell (f1.get 0 rfl) hj, fun h => by cases h⟩, fun u hu => by
      simp at hu; rcases hu with rfl | rfl <;> exact Nm.nil .u8 w1⟩
  refine gCall_of (Sort_any hE ⟨by decide, fun u hu => by simp at hu; rcases hu with rfl | rfl <;> decide⟩) ?_
  rintro _ w2 ⟨v', us', rfl, hus, f2⟩
  have e1 : sortE (List.map er [(sB [98], Value.slice none 0 0, []), (sB [97], Value.slice none 0 0, [])]) = ([(sB [97], []), (sB [98], [])], 0) := awake_sort
  rw [e1] at hus ⊢
  refine ⟨_, _, rfl, gCall_b (Right_any _) fun w3 h3 => ?_⟩
  rw [show rightN (ByteArray.mk #[97, 47, 98]) = true from awake_right]
  have hv' := (Es.own f2).ev h3
  have hl2 : us'.length = 2 := by have := congrArg List.length hus; simpa using this
  obtain ⟨a, b, rfl⟩ : ∃ a b, us' = [a, b] := by
    match us', hl2 with
    | [a, b], _ => exact ⟨a, b, rfl⟩
  have ha : a.1 = sB [97] := by have := (List.cons.inj hus).1; exact congrArg Prod.fst this
  refine gIf_t (gIf_eq (fun _ => gLen_slv hv'.1 (gIf_eq (fun _ => gIdx_E hv' (j := 0) rfl rfl fun ad h0 _ => gLoad_s h0 ⟨?_, f1.old.trans (f2.old.trans h3)⟩) (fun h => (h rfl).elim))) (fun h => (h rfl).elim))
  rw [tl_eqb, ha, decide_eq_true (by rfl)]
/-! ### The laws -/
theorem gBin_add {t : TypeId} {a b : ByteArray} {K : ByteArray → Prop} (hl : a.size + b.size ≤ 1000000000000000000) (hk : K (a ++ b)) : gBin P .add t shS (.string a) (.string b) K := by
  refine ⟨a ++ b, fun w => ?_, hk⟩
  have hb : binOp .add t (.string a) (.string b) = Op.stringOp .add a b := rfl
  rw [hb]
  unfold Op.stringOp
  dsimp only
  rw [if_neg (by simp [IntKind.max, IntKind.signed, IntKind.bits]; omega)]; rfl
theorem good_Ss {v : Value} (h : Good P w t_sl_string [v]) : ∃ ss, Ss w v ss ∧ (∀ s ∈ ss, s.size ≤ reachBytes) ∧ ss.length ≤ 140737488355328 := by
  obtain ⟨n, cs, hS, _, hby, hg⟩ := good_slR (sz := 1) (e := t_string) (by kernel_rfl) (by kernel_rfl) h
  have hcl : cs.length = n := by obtain ⟨_, _, _, _, h, _⟩ := hS; omega
  have : ∀ m, m ≤ n → ∃ ss : List ByteArray, ss.length = m ∧ ss.map Value.string = cs.take m ∧ ∀ s ∈ ss, s.size ≤ reachBytes := by
    intro m
    induction m with
    | zero => intro _; exact ⟨[], rfl, by simp, fun _ h => by cases h⟩
    | succ m ih =>
      intro hm
      obtain ⟨ss, h1, h2, h3⟩ := ih (by omega)
      obtain ⟨s, e0, hs⟩ := good_stringR (by kernel_rfl) (hg m (by omega))
      refine ⟨ss ++ [s], by simp [h1], ?_, fun u hu => ?_⟩
      · rw [List.map_append, h2, List.take_succ_eq_append_getElem (by omega)]
        rw [Nat.mul_one, List.drop_eq_getElem_cons (by omega), List.take_succ_cons, List.take_zero] at e0
        simp only [List.cons.injEq, and_true] at e0
        rw [e0]; rfl
      · rcases List.mem_append.1 hu with hu | hu
        · exact h3 u hu
        · simp at hu; subst hu; exact hs
  obtain ⟨ss, h1, h2, h3⟩ := this n (Nat.le_refl _)
  rw [List.take_of_length_le (by omega)] at h2
  have hb16 : P.bytesOf t_string = 16 := by kernel_rfl
  rw [hb16] at hby
  have := reach47
  exact ⟨ss, by unfold Ss; rw [h1, h2]; exact hS, h3, by omega⟩
theorem gIdx_S {i : Int} {ki : IntKind} {v : Value} {ss : List ByteArray} {j : Nat} {s : ByteArray} {K : Addr → Prop} (h : Ss w v ss) (hij : i = (j : Int)) (hs : ss[j]? = some s) (hk : ∀ ad, w.cell? ad = some (.string s) → K ad) : gIdx P t_sl_string v (.int ki i) K := by
  subst hij
  exact gIdx_sz h (List.getElem?_eq_some_iff.1 hs).1 (fun ad hc _ => hk ad (by
    have := hc 0 (.string s) (by omega) (by rw [Nat.mul_one, Nat.add_zero, List.getElem?_map, hs]; rfl)
    rwa [Addr.add_zero'] at this))
theorem NamesRight_law {s : ByteArray} {v : Value} (hs : s.size ≤ reachBytes) (hg : Good P w t_sl_string [v]) : Calls P n_valiselaw28_NamesRight #[.string s, v] w (Holds w) := by
  have hr := reach47
  obtain ⟨ss, hv, hb, hl⟩ := good_Ss hg
  refine of_valiselaw28_NamesRight ⟨fun all w' => all.size ≤ 200000000000000000 ∧ w' = w, ⟨fun all i w' => ∃ j : Nat, i = (j : Int) ∧ j ≤ 20 ∧ j ≤ ss.length ∧ all.size ≤ 300000000000000 * j ∧ w' = w, fun _ i _ => (ss.length - i).toNat, ⟨0, rfl, by omega, by omega, by show 0 ≤ _; omega, rfl⟩, ?_⟩, ?_⟩
  · rintro _ all i w1 ⟨j, rfl, hj, hjl, ha, rfl⟩
    refine ⟨fun w' => w' = w1 ∧ j < ss.length ∧ j < 20, gLen_slv hv (gIf_dec (fun hlt => gIf_dec (fun hlt2 => ⟨rfl, by omega, by omega⟩) (fun _ => ⟨by omega, rfl⟩)) (fun _ => ⟨by omega, rfl⟩)), ?_⟩
    rintro _ w2 ⟨rfl, hlt, hlt2⟩
    have hx := List.getElem?_eq_getElem hlt
    have hxb := hb ss[j] (List.getElem_mem hlt)
    generalize ss[j] = x at hx hxb
    have h47 : (ByteArray.mk #[47]).size = 1 := rfl
    refine gIf_dec (fun hp => gBin_add (by rw [h47]; omega) (gIdx_S hv rfl hx fun ad hc => gLoad_s hc (gBin_add (by rw [ByteArray.size_append, h47]; omega) ?_))) (fun hp => gIdx_S hv rfl hx fun ad hc => gLoad_s hc (gBin_add (by omega) ?_))
    · refine ⟨⟨j + 1, by rw [i64_id (by omega) (by omega)]; omega, by omega, by omega, ?_, rfl⟩, by dsimp only; rw [i64_id (by omega) (by omega)]; omega⟩
      rw [ByteArray.size_append, ByteArray.size_append, h47]; omega
    · refine ⟨⟨j + 1, by rw [i64_id (by omega) (by omega)]; omega, by omega, by omega, ?_, rfl⟩, by dsimp only; rw [i64_id (by omega) (by omega)]; omega⟩
      rw [ByteArray.size_append]; omega
  · rintro _ all w3 ⟨ha, rfl⟩
    refine gCall_b awake_any fun w4 h4 => gIf_t (gCall_b (Right_any s) fun w5 h5 => gCall_b0 (refRight_any s (by omega)) (gEq_bool ?_))
    rw [beq_self_eq_true]
    refine gIf_t (gIf_ndec (fun hle => ?_) (fun hgt => ⟨rfl, h4.trans h5⟩))
    refine gCall_b (Right_any all) fun w6 h6 => gCall_b0 (refRight_any all (by omega)) (gEq_bool ?_)
    rw [beq_self_eq_true]
    exact ⟨rfl, h4.trans (h5.trans h6)⟩
theorem cells3_setd {us : List E3} {i : Nat} {u : E3} {ys : List Int} (hu : us[i]? = some u) : cells3 (us.set i (u.1, u.2.1, ys)) = cells3 us := by
  have hlt := (List.getElem?_eq_some_iff.1 hu).1
  have he := (List.getElem?_eq_some_iff.1 hu).2
  rw [← cells3_set hlt]
  have : c3 (u.1, u.2.1, ys) = c3 u := rfl
  rw [this, cells3_set hlt, ← he, List.set_getElem_self]
theorem own_at {v : Value} {us : List E3} {i : Nat} {u u' : E3} (hu : us[i]? = some u) : ∃ q, (ownF v us)[q]? = some (oIt .u8 eB u.2.1 u.2.2) ∧ ∀ v2, (rIt eE 2 v us.length (cells3 us) :: us.reverse.map fun u => oIt .u8 eB u.2.1 u.2.2).set q (oIt .u8 eB u'.2.1 u'.2.2) = rIt eE 2 v us.length (cells3 us) :: (us.set i u').reverse.map (fun u => oIt .u8 eB u.2.1 u.2.2) ∨ v2 = true := by
  have hlt := (List.getElem?_eq_some_iff.1 hu).1
  have he : us[i] = u := (List.getElem?_eq_some_iff.1 hu).2
  have hsp : us = us.take i ++ u :: us.drop (i + 1) := by rw [← he, ← List.drop_eq_getElem_cons hlt, List.take_append_drop]
  obtain ⟨A, hA⟩ : ∃ A, A = us.take i := ⟨_, rfl⟩
  obtain ⟨B, hB⟩ : ∃ B, B = us.drop (i + 1) := ⟨_, rfl⟩
  have hAl : A.length = i := by rw [hA, List.length_take]; omega
  have hset : us.set i u' = A ++ u' :: B := by rw [List.set_eq_take_append_cons_drop, if_pos hlt, hA, hB]
  rw [← hA, ← hB] at hsp
  have hrev : us.reverse = B.reverse ++ u :: A.reverse := by rw [hsp]; simp
  refine ⟨B.length + 1, ?_, fun v2 => .inl ?_⟩
  · unfold ownF
    rw [List.getElem?_cons_succ, hrev, List.map_append, List.getElem?_append_right (by simp)]
    simp
  · rw [List.set_cons_succ, hset, hrev, List.map_append, List.set_append_right _ _ (by simp)]
    simp
theorem NamesSort_law {v : Value} (hg : Good P w t_sl_api_Entry [v]) : Calls P n_valiselaw28_NamesSort #[v] w (Holds w) := by
  obtain ⟨us, hv, hb, hl⟩ := good_E hg
  refine of_valiselaw28_NamesSort (gCall_b (few_any hv hb hl) fun w1 h1 => gIf_nb (fun hf => gCall_b awake_any fun w2 h2 => ⟨rfl, h1.trans h2⟩) (fun hf => ?_))
  obtain ⟨q1, q2, q3, q4⟩ := few_small hf
  have hs := few_Small hf
  refine gCall_of (CopyEntries_any (hv.ev h1) hs) ?_
  rintro _ w3 ⟨vin, uin, rfl, hin, f3⟩
  have hlin : uin.length = us.length := by have := congrArg List.length hin; simpa using this
  have hEin := Es.own f3
  have hsin : Small uin := ⟨by rw [hlin]; exact hs.1, fun u hu => by
    have hm : er u ∈ us.map er := hin ▸ List.mem_map.2 ⟨u, hu, rfl⟩
    obtain ⟨x, hx, hxe⟩ := List.mem_map.1 hm
    have h2 := hs.2 x hx
    have e1 : x.1 = u.1 := congrArg (fun p : En => p.1) hxe
    have e2 : x.2.2 = u.2.2 := congrArg (fun p : En => p.2) hxe
    rw [← e1, ← e2]; exact h2⟩
  refine ⟨_, rfl, gCall_of (Sort_any hEin hsin) ?_⟩
  rintro _ w4 ⟨x, ux, rfl, hux, f4⟩
  rw [hin] at hux ⊢
  have h13 : Ev w w3 := h1.trans f3.old
  refine ⟨_, _, rfl, gCall_of (refSort_any (hv.ev (h13.trans f4.old)) (by omega) hs) ?_⟩
  rintro _ w5 ⟨y, uy, rfl, huy, hEy, h5⟩
  have f5 := f4.ev h5
  have hxl : ux.length ≤ 200 := by
    have h1 : (sortE (us.map er)).1.length ≤ us.length := by
      unfold sortE
      split
      · simp
      · split
        · simp
        · split
          · simp
          · rw [(srtN_perm _).length_eq, List.length_map]; exact Nat.le_refl _
    have := congrArg List.length hux
    rw [List.length_map] at this; omega
  have hxb : ∀ u ∈ ux, u.2.2.length ≤ 1000000000 := fun u hu => by
    have hm : er u ∈ (sortE (us.map er)).1 := hux ▸ List.mem_map.2 ⟨u, hu, rfl⟩
    have hm2 : er u ∈ us.map er := by
      unfold sortE at hm
      split at hm
      · simp at hm
      · split at hm
        · simp at hm
        · split at hm
          · simp at hm
          · exact (srtN_perm _).mem_iff.1 hm
    obtain ⟨z, hz, hze⟩ := List.mem_map.1 hm2
    have e2 : z.2.2 = u.2.2 := congrArg (fun p : En => p.2) hze
    have := q2 z hz
    rw [← e2]; omega
  refine ⟨_, _, rfl, ⟨fun w' => Ev w5 w', ?_, ?_⟩⟩
  · refine gCall_b awake_any fun w6 h6 => gIf_nn (gCall_b (entries_any ((Es.own f5).ev h6) (hEy.ev h6) (by omega)) fun w7 h7 => ?_)
    rw [hux, huy, decide_eq_true rfl]
    refine gIf_nn ?_
    rw [show ((sortE (us.map er)).2 != (sortE (us.map er)).2) = false by simp]
    refine gIf_nf (gCall_b (entries_any (hEin.ev (f5.old.trans (h6.trans h7))) (hv.ev (h13.trans (f5.old.trans (h6.trans h7)))) (by omega)) fun w8 h8 => ?_)
    rw [hin, decide_eq_true rfl]
    exact gIf_nt (h6.trans (h7.trans h8))
  rintro _ w9 h9
  have f9 := f5.ev h9
  refine gLen_slv (f9.row 0 rfl) ⟨fun i w' => ∃ (j : Nat) (uz : List E3), i = (j : Int) ∧ j ≤ ux.length ∧ uz.length = ux.length ∧ (∀ u ∈ uz, u.2.2.length ≤ 1000000000) ∧ Fr w3 w' (ownF x uz), fun i _ => (ux.length - i).toNat, ⟨0, ux, rfl, Nat.zero_le _, rfl, hxb, f9⟩, ?_⟩
  rintro _ i w10 ⟨j, uz, rfl, hj, hzl, hzb, f10⟩
  refine gIf_dec (fun hlt => ?_) (fun hge => ?_)
  · have hlt' : j < uz.length := by omega
    have hu := List.getElem?_eq_getElem hlt'
    have hmem : uz[j] ∈ uz := List.getElem_mem hlt'
    generalize uz[j] = u at hu hmem
    refine gIdx_E (Es.own f10) rfl hu fun ad _ h1 => gLoad_v h1 ?_
    obtain ⟨q, hq, _⟩ := own_at (v := x) (u' := u) hu
    refine gCall_of (Spoil_any (f10.on q hq) (hzb u hmem)) ?_
    rintro _ w11 ⟨rfl, hch, ys, hyl, hon⟩
    refine ⟨rfl, ⟨j + 1, uz.set j (u.1, u.2.1, ys), by rw [i64_id (by omega) (by omega)]; omega, by omega, by simpa using hzl, fun z hz => ?_, ?_⟩, by dsimp only; rw [i64_id (by omega) (by omega)]; omega⟩
    · rcases List.mem_or_eq_of_mem_set hz with hz | rfl
      · exact hzb z hz
      · show ys.length ≤ _; rw [hyl]; exact hzb u hmem
    · obtain ⟨q', hq', hset⟩ := own_at (v := x) (u' := (u.1, u.2.1, ys)) hu
      have f11 := f10.upd (jt := oIt .u8 eB u.2.1 ys) q' hq' hch (fun k _ hh => .inl hh) (hon.low (Nat.zero_le _)) fun k hk => .inl hk
      have hs2 := (hset false).resolve_right (by decide)
      have e2 : ownF x (uz.set j (u.1, u.2.1, ys)) = rIt eE 2 x uz.length (cells3 uz) :: (uz.set j (u.1, u.2.1, ys)).reverse.map (fun u => oIt .u8 eB u.2.1 u.2.2) := by
        unfold ownF; rw [cells3_setd hu, List.length_set]
      rw [e2, ← hs2]; exact f11
  · refine gCall_b (entries_any (hEin.ev f10.old) (hv.ev (h13.trans f10.old)) (by omega)) fun w12 h12 => ⟨?_, h13.trans (f10.old.trans h12)⟩
    rw [hin, decide_eq_true rfl]
end
end Go.Proofs.YtdknadlkadoloaaDoorV
