/- Put and Drop: the program's and the reference's; the law NamesPut. -/
import Derived.Test.YtdknadlkadoloaaDoorVNamesH
import Derived.Test.YtdknadlkadoloaaDoorVNamesG
namespace Go.Proofs.YtdknadlkadoloaaDoorV
open Go Go.RowKit
theorem sortE_up (l : List En) : Up (sortE l).1 := by
  unfold sortE
  split
  · exact List.Pairwise.nil
  · split
    · exact List.Pairwise.nil
    · rename_i hn
      split
      · exact List.Pairwise.nil
      · exact (srtN_up l).up (((srtN_perm l).map (·.1)).nodup_iff.2 (Classical.not_not.1 hn))
theorem sortE_ok {l : List En} (h : (sortE l).2 = 0) : (sortE l).1 = srtN l ∧ (l.map (·.1)).Nodup ∧ (l.any fun x => !rightN x.1) = false ∧ much l = false := by
  unfold sortE at h ⊢
  by_cases h1 : (l.any fun x => !rightN x.1) = true
  · rw [if_pos h1] at h; cases h
  · by_cases h2 : ¬ (l.map (·.1)).Nodup
    · rw [if_neg h1, if_pos h2] at h; cases h
    · by_cases h3 : much l = true
      · rw [if_neg h1, if_neg h2, if_pos h3] at h; cases h
      · rw [if_neg h1, if_neg h2, if_neg h3]
        exact ⟨rfl, Classical.not_not.1 h2, by simpa using h1, by simpa using h3⟩
theorem sortE_len (l : List En) : (sortE l).1.length ≤ l.length := by
  unfold sortE
  split
  · simp
  · split
    · simp
    · split
      · simp
      · rw [(srtN_perm l).length_eq]; exact Nat.le_refl _
theorem sortE_mem {l : List En} {x : En} (h : x ∈ (sortE l).1) : x ∈ l := by
  unfold sortE at h
  split at h
  · simp at h
  · split at h
    · simp at h
    · split at h
      · simp at h
      · exact (srtN_perm l).mem_iff.1 h
theorem putN_len (l : List En) (x : En) : (putN l x).length ≤ l.length + 1 := by
  unfold putN
  have := atN_le l x.1
  split <;> simp <;> omega
theorem dropN_up {l : List En} (h : Up l) (k : Nat) : Up (l.take k ++ l.drop (k + 1)) := by
  refine List.Pairwise.sublist ?_ h
  conv => rhs; rw [← List.take_append_drop k l]
  exact (List.Sublist.refl _).append (by rw [← List.drop_drop]; exact List.drop_sublist _ _)
theorem put_E {us : List E3} {x : E3} : ∀ (k : Nat), k = atN (us.map er) x.1 → (hasN (us.map er) x.1 = true → (us.set k x).map er = putN (us.map er) (er x)) ∧ (hasN (us.map er) x.1 = false → (us.take k ++ x :: us.drop k).map er = putN (us.map er) (er x)) := by
  rintro k rfl
  constructor
  · intro h
    obtain ⟨z, hz, _⟩ := has_get h
    have hlt := (List.getElem?_eq_some_iff.1 hz).1
    rw [List.length_map] at hlt
    unfold putN
    rw [show (er x).1 = x.1 from rfl, if_pos h, List.set_eq_take_append_cons_drop, if_pos hlt, List.map_append, List.map_cons, List.map_take, List.map_drop]
  · intro h
    unfold putN
    rw [show (er x).1 = x.1 from rfl, if_neg (by rw [h]; decide), List.map_append, List.map_cons, List.map_take, List.map_drop]
section
variable {w0 w w' : World} {F : List It}
theorem Put_any {v m : Value} {us ms : List E3} (hv : Es w v us) (hup : Up (us.map er)) (hm : Es w m ms) (hs : Small us) (hms : Small ms) (hll : us.length + ms.length ≤ 100000000) : Calls P n_names_Put #[v, m] w (SortR w (putE (us.map er) (ms.map er))) := by
  have l1 := hs.1
  have l2 := hms.1
  refine of_names_Put (gCall_of (Sort_any hm hms) ?_)
  rintro _ w1 ⟨t15, u15, rfl, hu15, f1⟩
  have he1 := f1.old
  refine ⟨_, _, rfl, gIf_neq (fun hne => ?_) (fun heq => ?_)⟩
  · have e1 : putE (us.map er) (ms.map er) = ([], (sortE (ms.map er)).2) := by unfold putE; rw [if_pos hne]
    rw [e1]; exact ⟨_, [], rfl, rfl, ownF_nil he1⟩
  obtain ⟨_, hnd, _, _⟩ := sortE_ok heq
  refine gCall_of (Clone_any (hv.ev he1) (by omega)) ?_
  rintro _ w2 ⟨t22, rfl, f2⟩
  refine ⟨t22, rfl, gLen_slv hm.1 ⟨fun out i w' => ∃ (k : Nat) (os : List E3), i = (k : Int) ∧ k ≤ ms.length ∧ os.map er = ((ms.take k).map er).foldl putN (us.map er) ∧ (∀ u ∈ os, u ∈ us ∨ u ∈ ms) ∧ os.length ≤ us.length + k ∧ Fr w w' [rIt eE 2 out os.length (cells3 os)], fun _ i _ => (ms.length - i).toNat, ?_, ?_⟩⟩
  · exact ⟨0, us, rfl, Nat.zero_le _, rfl, fun u hu => .inl hu, Nat.le_refl _, Fr.glue (F := []) he1 f2⟩
  rintro _ out i w3 ⟨k, os, rfl, hk, hos, hom, hol, f3⟩
  have hupo : Up (os.map er) := by rw [hos]; exact puts_up _ hup
  have hE : ∀ {w'}, Ev w w' → ∀ u ∈ os, Nm .u8 w' u.2.1 u.2.2 := fun {w'} he u hu => by
    rcases hom u hu with h | h
    · exact (hv.2 u h).ev he
    · exact (hm.2 u h).ev he
  have hE3 : Es w3 out os := ⟨f3.row 0 rfl, hE f3.old⟩
  refine gIf_dec (fun hlt => ?_) (fun hge => ?_)
  · have hlt' : k < ms.length := by omega
    have hx := List.getElem?_eq_getElem hlt'
    have hmem : ms[k] ∈ ms := List.getElem_mem hlt'
    have htk : ms.take (k + 1) = ms.take k ++ [ms[k]] := List.take_succ_eq_append_getElem hlt'
    generalize ms[k] = x at hx hmem htk
    have hxo := hm.oc x hmem
    have hnx := hm.2 x hmem
    have hfold : ((ms.take (k + 1)).map er).foldl putN (us.map er) = putN (os.map er) (er x) := by rw [htk, List.map_append, List.foldl_append, hos]; rfl
    refine gIdx_E (hm.ev f3.old) rfl hx fun ad h0 h1 => gLoad_E h0 h1 (fAlloc (z := .agg #[.string ⟨#[]⟩, .slice none 0 0]) f3 (by kernel_rfl) fun x10 w4 f4 => ?_)
    refine fStoreA f4 0 rfl (fun w5 f5 => ?_) rfl (fun y hy => by simp at hy; rcases hy with rfl | rfl; rfl; exact hxo)
    have ld : ∀ {w' : World} {G : List It} {K : ByteArray → Value → Prop}, Fr w w' (sIt x10 [.string x.1, x.2.1] :: G) → K x.1 x.2.1 → gLoad P t_api_Entry (.part (.agg [.str, .val])) (.pointer (some x10)) w' K := fun {w' G K} g hk => gLoad_E (g.cell 0 0 rfl rfl) (g.cell 0 1 rfl rfl) hk
    refine ld f5 ?_
    have hE5 : Es w5 out os := ⟨f5.row 1 rfl, hE f5.old⟩
    refine gCall_of (BinarySearch_any (s := x.1) hE5 hupo.weak (by omega) hxo) ?_
    rintro _ w6 ⟨rfl, h6⟩
    have f6 := f5.ev h6
    obtain ⟨q, hq⟩ : ∃ q, q = atN (os.map er) x.1 := ⟨_, rfl⟩
    have hqle := atN_le (os.map er) x.1
    rw [← hq, List.length_map] at hqle
    obtain ⟨p1, p2⟩ := put_E (us := os) (x := x) q hq
    refine ⟨_, _, rfl, ?_⟩
    rw [← hq]
    refine gIf_b (fun hh => ?_) (fun hh => ?_)
    · obtain ⟨z, hz, _⟩ := has_get hh
      have hqlt : q < os.length := by have := (List.getElem?_eq_some_iff.1 hz).1; rw [← hq, List.length_map] at this; exact this
      refine ld f6 (gIdx_r (f6.get 1 rfl) rfl hqlt fun ad2 hslt => fStoreR f6 1 rfl hslt hqlt rfl (fun y hy => by simp at hy; rcases hy with rfl | rfl; rfl; exact hxo) (fun w7 f7 => ?_) (by kernel_rfl))
      have hset := cells3_set (us := os) (i := q) (u := x) hqlt
      rw [show (#[Value.string x.1, x.2.1] : Array Value).toList = c3 x from rfl, hset] at f7
      refine ⟨⟨k + 1, os.set q x, by rw [i64_id (by omega) (by omega)]; omega, by omega, by rw [hfold]; exact p1 hh, fun u hu => ?_, by rw [List.length_set]; omega, ?_⟩, by dsimp only; rw [i64_id (by omega) (by omega)]; omega⟩
      · rcases List.mem_or_eq_of_mem_set hu with hu | rfl
        · exact hom u hu
        · exact .inr hmem
      · rw [List.length_set]; exact f7.picksN 2 [1] (by decide) (by decide)
    · refine ld f6 (fLit_sz 2 [[.string x.1, x.2.1]] f6 rfl rfl (fun v hv => by simp at hv; subst hv; rfl) (fun ad2 w8 f8 => ?_) (by decide) (by kernel_rfl) (by decide +kernel))
      have f9 : Fr w w8 [rIt eE 2 out os.length (cells3 os), sIt ad2 [.string x.1, x.2.1]] := f8.picksN 3 [2, 0] (by decide) (by decide)
      have hooc : ∀ u ∈ os, u.2.1.oneCell' = true := fun u hu => (hE f8.old u hu).oc
      refine gCall_of (Insert_any (xs := x.2.2) f9 hooc hxo q hqle (by omega)) ?_
      rintro _ w9 ⟨t44, rfl, f10⟩
      refine ⟨t44, rfl, ⟨k + 1, os.take q ++ x :: os.drop q, by rw [i64_id (by omega) (by omega)]; omega, by omega, by rw [hfold]; exact p2 hh, fun u hu => ?_, by simp; omega, f10⟩, by dsimp only; rw [i64_id (by omega) (by omega)]; omega⟩
      rcases List.mem_append.1 hu with hu | hu
      · exact hom u (List.mem_of_mem_take hu)
      · rcases List.mem_cons.1 hu with rfl | hu
        · exact .inr hmem
        · exact hom u (List.mem_of_mem_drop hu)
  · rw [List.take_of_length_le (by omega)] at hos
    have hso : Small os := ⟨by omega, fun u hu => by
      rcases hom u hu with h | h
      · exact hs.2 u h
      · exact hms.2 u h⟩
    refine gCall_b (much_any hE3 hso) fun w10 h10 => ?_
    rw [hos]
    refine gIf_b (fun hmu => ?_) (fun hmu => ?_)
    · have e1 : putE (us.map er) (ms.map er) = ([], 5) := by unfold putE; rw [if_neg (fun h => h heq), if_pos hmu]
      rw [e1]; exact ⟨_, [], rfl, rfl, ownF_nil (f3.old.trans h10)⟩
    · have e1 : putE (us.map er) (ms.map er) = ((ms.map er).foldl putN (us.map er), 0) := by unfold putE; rw [if_neg (fun h => h heq), if_neg (by rw [hmu]; decide)]
      rw [e1]
      refine gCall_of (own_any (hE3.ev h10) hso) ?_
      rintro _ w11 ⟨t49, u49, rfl, h49, f11⟩
      exact ⟨t49, rfl, t49, u49, rfl, by rw [h49, hos], by simpa using Fr.glue (F := []) (f3.old.trans h10) f11⟩
theorem refPut_any {v m : Value} {us ms : List E3} (hv : Es w v us) (hup : Up (us.map er)) (hm : Es w m ms) (hl : us.length ≤ 100000) (hlm : ms.length ≤ 100000) (hs : Small us) (hms : Small ms) (hbig : ∀ x ∈ us.map er ++ ms.map er, x.2.length ≤ 1000000000000 ∧ x.1.size ≤ 1000000000000) : Calls P n_valiseref28_Put #[v, m] w (RefR w (putE (us.map er) (ms.map er))) := by
  refine of_valiseref28_Put (gCall_of (refSort_any hm (by omega) hms) ?_)
  rintro _ w1 ⟨t14, u14, rfl, hu14, hE14, he1⟩
  refine ⟨_, _, rfl, gIf_neq (fun hne => ?_) (fun heq => ?_)⟩
  · have e1 : putE (us.map er) (ms.map er) = ([], (sortE (ms.map er)).2) := by unfold putE; rw [if_pos hne]
    rw [e1]; exact ⟨_, [], rfl, rfl, Es.nil _, he1⟩
  obtain ⟨hso, hnd, _, _⟩ := sortE_ok heq
  rw [hso] at hu14
  have h14l : u14.length = ms.length := by have := congrArg List.length hu14; rw [(srtN_perm _).length_eq] at this; simpa using this
  have hfin : (u14.map er).foldl putN (us.map er) = (ms.map er).foldl putN (us.map er) := by
    rw [hu14]
    exact puts_perm hup (srtN_perm _) (((srtN_perm _).map (·.1)).nodup_iff.2 hnd)
  refine gCall_of (CopyEntries_any (hv.ev he1) hs) ?_
  rintro _ w2 ⟨t21, u21, rfl, hu21, f2⟩
  have h21l : u21.length = us.length := by have := congrArg List.length hu21; simpa using this
  refine ⟨t21, rfl, ⟨fun out i w' => ∃ (k : Nat) (os : List E3), i = (k : Int) ∧ k ≤ u14.length ∧ os.map er = ((u14.take k).map er).foldl putN (us.map er) ∧ os.length ≤ us.length + k ∧ (∀ x ∈ os.map er, x ∈ us.map er ∨ x ∈ u14.map er) ∧ Es w' out os ∧ Ev w1 w', fun _ i _ => (u14.length - i).toNat, ⟨0, u21, rfl, Nat.zero_le _, hu21, by omega, fun x hx => .inl (hu21 ▸ hx), Es.own f2, f2.old⟩, ?_⟩⟩
  rintro _ out i w3 ⟨k, os, rfl, hk, hos, hol, hom, hE, he3⟩
  have hE14' := hE14.ev he3
  have hupo : Up (os.map er) := by rw [hos]; exact puts_up _ hup
  refine gLen_slv hE14'.1 (gIf_dec (fun hlt => ?_) (fun hge => ?_))
  · have hlt' : k < u14.length := by omega
    have hx := List.getElem?_eq_getElem hlt'
    have hmem : u14[k] ∈ u14 := List.getElem_mem hlt'
    have htk : u14.take (k + 1) = u14.take k ++ [u14[k]] := List.take_succ_eq_append_getElem hlt'
    generalize u14[k] = x at hx hmem htk
    have hfold : ((u14.take (k + 1)).map er).foldl putN (us.map er) = putN (os.map er) (er x) := by rw [htk, List.map_append, List.foldl_append, hos]; rfl
    refine gIdx_E hE14' rfl hx fun ad h0 _ => gLoad_s h0 (gCall_i0 (refAt_any x.1 hE (by omega)) ?_)
    obtain ⟨q, hq⟩ : ∃ q, q = atN (os.map er) x.1 := ⟨_, rfl⟩
    have hqle := atN_le (os.map er) x.1
    rw [← hq, List.length_map] at hqle
    rw [← hq]
    have hsp := hE.1.split q hqle
    refine gSl_from hE.1 q rfl hqle ⟨fun r w' => Ev w3 w' ∧ Sl w3 2 r (if hasN (os.map er) x.1 then os.drop (q + 1) else os.drop q).length (cells3 (if hasN (os.map er) x.1 then os.drop (q + 1) else os.drop q)), ?_, ?_⟩
    · have hno : hasN (os.map er) x.1 = false → (Sl w3 2 (subV 2 out q os.length) (if hasN (os.map er) x.1 then os.drop (q + 1) else os.drop q).length (cells3 (if hasN (os.map er) x.1 then os.drop (q + 1) else os.drop q))) := fun h => by rw [h]; exact hsp.2
      refine gLen_slv hsp.2 (gIf_dec (fun hpos => ?_) (fun hzero => ⟨(Ch.refl _ _).drew, hno ?_⟩))
      · have hqlt : q < os.length := by rw [List.length_drop] at hpos; omega
        have hz := List.getElem?_eq_getElem hqlt
        have hzm : os[q] ∈ os := List.getElem_mem hqlt
        have hE2 : Es w3 (subV 2 out q os.length) (os.drop q) := ⟨hsp.2, fun u hu => hE.2 u (List.mem_of_mem_drop hu)⟩
        have hz0 : (os.drop q)[0]? = some os[q] := by rw [List.getElem?_drop]; exact hz
        have hh : hasN (os.map er) x.1 = decide (os[q].1 = x.1) := by unfold hasN; rw [← hq, List.getElem?_map, hz]; rfl
        generalize os[q] = z at hz hzm hz0 hh
        refine gIdx_E hE2 (j := 0) rfl hz0 fun ad1 h01 _ => gLoadB_s (fun w' hw => Ch.cell (drewEv hw) h01 fun h => h) (gIdx_E hE14' rfl hx fun ad2 h02 _ => gLoadB_s (fun w' hw => Ch.cell (drewEv hw) h02 fun h => h) ?_)
        rw [tl_eqb]
        refine gIf_dec (fun he => ?_) (fun hne => ⟨(Ch.refl _ _).drew, hno (by rw [hh, decide_eq_false hne])⟩)
        refine gSl_from hsp.2 1 rfl (by rw [List.length_drop]; omega) ⟨(Ch.refl _ _).drew, ?_⟩
        have := (hsp.2.split 1 (by rw [List.length_drop]; omega)).2
        rw [List.drop_drop] at this
        rw [hh, decide_eq_true he, if_pos rfl]
        exact this
      · have : os.length ≤ q := by rw [List.length_drop] at hzero; omega
        unfold hasN; rw [← hq, List.getElem?_eq_none (by rw [List.length_map]; omega)]
    rintro _ r w5 ⟨he5, hr⟩
    have hput : (os.take q ++ x :: (if hasN (os.map er) x.1 then os.drop (q + 1) else os.drop q)).map er = putN (os.map er) (er x) := by
      unfold putN
      rw [show (er x).1 = x.1 from rfl, ← hq, List.map_append, List.map_cons, List.map_take]
      split <;> rw [List.map_drop]
    have hrm : ∀ u ∈ (if hasN (os.map er) x.1 then os.drop (q + 1) else os.drop q), u ∈ os := fun u hu => by
      split at hu <;> exact List.mem_of_mem_drop hu
    have hrl : (if hasN (os.map er) x.1 then os.drop (q + 1) else os.drop q).length ≤ os.length - q := by split <;> rw [List.length_drop] <;> omega
    generalize (if hasN (os.map er) x.1 then os.drop (q + 1) else os.drop q) = rest at hr hput hrm hrl
    have hE5 := hE.ev he5
    have hE15 := hE14'.ev he5
    have hxl : ∀ {w'}, Ev w5.drew w' → ∀ {ad : Addr}, w5.cell? (ad.add 0) = some (.string x.1) → w5.cell? (ad.add 1) = some x.2.1 → ∀ (z : Nat) (y : Value), [Value.string x.1, x.2.1][z]? = some y → w'.cell? (ad.add z) = some y := fun {w'} hw {ad} h0 h1 z y hz => by
      rcases z with _ | _ | z
      · simp at hz; subst hz; exact Ch.cell hw h0 fun h => h
      · simp at hz; subst hz; exact Ch.cell hw h1 fun h => h
      · simp at hz
    refine ⟨fun w' => Ev w5.drew w', Ch.refl _ _, gSl_to hE5.1 q rfl hqle (gIdx_E hE15 rfl hx fun ad h0 h1 => gLoadB_agg [.string x.1, x.2.1] (fun w' hw => hxl hw h0 h1) ?_)⟩
    have hd5 : Ev w5 w5.drew := Ev.drew0 w5
    refine ins_tail (xs := x.2.2) ((hE5.1.split q hqle).1.ev hd5) (hr.ev (he5.trans hd5)) (fun u hu => hE5.oc u (List.mem_of_mem_take hu)) (fun u hu => hE5.oc u (hrm u hu)) (hE15.oc x hmem) (by rw [List.length_take]; omega) fun v' w9 he9 hsl => ?_
    refine ⟨⟨k + 1, os.take q ++ (x.1, x.2.1, x.2.2) :: rest, by rw [i64_id (by omega) (by omega)]; omega, by omega, by rw [hfold]; exact hput, by rw [List.length_append, List.length_cons, List.length_take]; omega, fun y hy => ?_, ⟨hsl, fun u hu => ?_⟩, he3.trans (he5.trans (hd5.trans he9))⟩, by dsimp only; rw [i64_id (by omega) (by omega)]; omega⟩
    · rw [show (x.1, x.2.1, x.2.2) = x from rfl, hput] at hy
      rcases (putN_mem hupo).1 hy with rfl | ⟨hy, _⟩
      · exact .inr (List.mem_map.2 ⟨x, hmem, rfl⟩)
      · exact hom y hy
    · rcases List.mem_append.1 hu with hu | hu
      · exact (hE5.2 u (List.mem_of_mem_take hu)).ev (hd5.trans he9)
      · rcases List.mem_cons.1 hu with rfl | hu
        · exact (hE15.2 x hmem).ev (hd5.trans he9)
        · exact (hE5.2 u (hrm u hu)).ev (hd5.trans he9)
  · rw [List.take_of_length_le (by omega), hfin] at hos
    have hsm : Small os := ⟨by omega, fun u hu => by
      have h1 : er u ∈ os.map er := List.mem_map.2 ⟨u, hu, rfl⟩
      have h2 : er u ∈ us.map er ++ ms.map er := by
        rcases hom _ h1 with h | h
        · exact List.mem_append_left _ h
        · rw [hu14] at h; exact List.mem_append_right _ ((srtN_perm _).mem_iff.1 h)
      exact hbig _ h2⟩
    refine gCall_b (refMuch_any hE (by omega) hsm) fun w14 h14 => ?_
    rw [hos]
    refine gIf_b (fun hmu => ?_) (fun hmu => ?_)
    · have e1 : putE (us.map er) (ms.map er) = ([], 5) := by unfold putE; rw [if_neg (fun h => h heq), if_pos hmu]
      rw [e1]; exact ⟨_, [], rfl, rfl, Es.nil _, he1.trans (he3.trans h14)⟩
    · have e1 : putE (us.map er) (ms.map er) = ((ms.map er).foldl putN (us.map er), 0) := by unfold putE; rw [if_neg (fun h => h heq), if_neg (by rw [hmu]; decide)]
      rw [e1]; exact ⟨_, os, rfl, hos, hE.ev h14, he1.trans (he3.trans h14)⟩
theorem Drop_any {v m : Value} {us : List E3} {ss : List ByteArray} (hv : Es w v us) (hup : Up (us.map er)) (hm : Ss w m ss) (hs : Small us) (hl : ss.length ≤ 1000000000) : Calls P n_names_Drop #[v, m] w (SortR w (dropE (us.map er) ss)) := by
  have l1 := hs.1
  refine of_names_Drop (gCall_of (Clone_any hv (by omega)) ?_)
  rintro _ w1 ⟨t11, rfl, f1⟩
  have hm0 : Sl w 1 m ss.length (ss.map .string) := hm
  refine ⟨t11, rfl, gLen_slv hm0 ⟨fun out i w' => ∃ (k : Nat) (os : List E3), i = (k : Int) ∧ k ≤ ss.length ∧ dropE (us.map er) ss = dropE (os.map er) (ss.drop k) ∧ (∀ u ∈ os, u ∈ us) ∧ os.length ≤ us.length ∧ Up (os.map er) ∧ Fr w w' [rIt eE 2 out os.length (cells3 os)], fun _ i _ => (ss.length - i).toNat, ⟨0, us, rfl, Nat.zero_le _, rfl, fun _ h => h, Nat.le_refl _, hup, f1⟩, ?_⟩⟩
  rintro _ out i w2 ⟨k, os, rfl, hk, hdr, hom, hol, hupo, f2⟩
  have hE : ∀ {w'}, Ev w w' → ∀ u ∈ os, Nm .u8 w' u.2.1 u.2.2 := fun {w'} he u hu => (hv.2 u (hom u hu)).ev he
  have hE2 : Es w2 out os := ⟨f2.row 0 rfl, hE f2.old⟩
  refine gIf_dec (fun hlt => ?_) (fun hge => ?_)
  · have hlt' : k < ss.length := by omega
    rw [List.drop_eq_getElem_cons hlt', dropE] at hdr
    have hx := List.getElem?_eq_getElem hlt'
    generalize ss[k] = s at hx hdr
    refine gIdx_S (hm.ev f2.old) rfl hx fun ad hc => gLoad_s hc (gCall_i (Find_any s hE2 hupo.weak (by omega)) fun w3 h3 => ?_)
    have f3 := f2.ev h3
    unfold findN
    by_cases hh : hasN (os.map er) s = true
    · rw [hh, if_pos rfl] at hdr ⊢
      obtain ⟨z, hz, _⟩ := has_get hh
      have hq := (List.getElem?_eq_some_iff.1 hz).1
      rw [List.length_map] at hq
      generalize atN (os.map er) s = q at hdr hq ⊢
      refine gIf_dec (fun h => by omega) (fun _ => ?_)
      rw [i64_id (n := (q : Int) + 1) (by omega) (by omega), show (q : Int) + 1 = ((q + 1 : Nat) : Int) by omega]
      refine gCall_of (Delete_any f3 (fun u hu => (hE f3.old u hu).oc) q hq (by omega)) ?_
      rintro _ w4 ⟨t27, rfl, f4⟩
      refine ⟨t27, rfl, ⟨k + 1, os.take q ++ os.drop (q + 1), by rw [i64_id (by omega) (by omega)]; omega, by omega, ?_, fun u hu => ?_, by simp; omega, ?_, f4⟩, by dsimp only; rw [i64_id (by omega) (by omega)]; omega⟩
      · rw [hdr, List.map_append, List.map_take, List.map_drop]
      · rcases List.mem_append.1 hu with hu | hu
        · exact hom u (List.mem_of_mem_take hu)
        · exact hom u (List.mem_of_mem_drop hu)
      · rw [List.map_append, List.map_take, List.map_drop]; exact dropN_up hupo q
    · rw [Bool.not_eq_true] at hh
      rw [hh, if_neg (by decide)] at hdr ⊢
      refine gIf_dec (fun _ => ?_) (fun h => by omega)
      rw [hdr]; exact ⟨_, [], rfl, rfl, ownF_nil f3.old⟩
  · rw [List.drop_of_length_le (by omega), dropE] at hdr
    have hso : Small os := ⟨by omega, fun u hu => hs.2 u (hom u hu)⟩
    refine gCall_of (own_any hE2 hso) ?_
    rintro _ w5 ⟨t30, u30, rfl, h30, f5⟩
    rw [hdr]
    exact ⟨t30, rfl, t30, u30, rfl, h30, by simpa using Fr.glue (F := []) f2.old f5⟩
theorem refDrop_any {v m : Value} {us : List E3} {ss : List ByteArray} (hv : Es w v us) (hm : Ss w m ss) (hs : Small us) (hl : ss.length ≤ 1000000000) : Calls P n_valiseref28_Drop #[v, m] w (RefR w (dropE (us.map er) ss)) := by
  have l1 := hs.1
  refine of_valiseref28_Drop (gCall_of (CopyEntries_any hv hs) ?_)
  rintro _ w1 ⟨t10, u10, rfl, hu10, f1⟩
  have h10l : u10.length = us.length := by have := congrArg List.length hu10; simpa using this
  refine ⟨t10, rfl, ⟨fun out i w' => ∃ (k : Nat) (os : List E3), i = (k : Int) ∧ k ≤ ss.length ∧ dropE (us.map er) ss = dropE (os.map er) (ss.drop k) ∧ os.length ≤ us.length ∧ Es w' out os ∧ Ev w w', fun _ i _ => (ss.length - i).toNat, ⟨0, u10, rfl, Nat.zero_le _, by rw [hu10]; rfl, by omega, Es.own f1, f1.old⟩, ?_⟩⟩
  rintro _ out i w2 ⟨k, os, rfl, hk, hdr, hol, hE, he⟩
  have hm2 : Sl w2 1 m ss.length (ss.map .string) := hm.ev he
  refine gLen_slv hm2 (gIf_dec (fun hlt => ?_) (fun hge => ?_))
  · have hlt' : k < ss.length := by omega
    rw [List.drop_eq_getElem_cons hlt', dropE] at hdr
    have hx := List.getElem?_eq_getElem hlt'
    generalize ss[k] = s at hx hdr
    refine gIdx_S (hm.ev he) rfl hx fun ad hc => gLoad_s hc (gCall_i0 (refFind_any s hE (by omega)) ?_)
    unfold findN
    by_cases hh : hasN (os.map er) s = true
    · rw [hh, if_pos rfl] at hdr ⊢
      obtain ⟨z, hz, _⟩ := has_get hh
      have hq := (List.getElem?_eq_some_iff.1 hz).1
      rw [List.length_map] at hq
      generalize atN (os.map er) s = q at hdr hq ⊢
      refine gIf_dec (fun h => by omega) (fun _ => ⟨fun _ => True, trivial, ?_⟩)
      rw [i64_id (n := (q : Int) + 1) (by omega) (by omega), show (q : Int) + 1 = ((q + 1 : Nat) : Int) by omega]
      have s1 := (hE.1.split q (by omega)).1
      have s2 := (hE.1.split (q + 1) (by omega)).2
      have hd : Ev w2 w2.drew := Ev.drew0 w2
      refine gSl_to hE.1 q rfl (by omega) (gSl_from hE.1 (q + 1) rfl (by omega) ?_)
      refine fAppR0 40 (Fr.start w2.drew) (s1.ev hd) (one3 fun x hx => hE.oc x (List.mem_of_mem_take hx)) (by rw [List.length_take]; omega) (by rw [List.length_take]; unfold maxLen; omega) (fun t28 w4 f4 => ⟨trivial, ?_⟩) (by kernel_rfl)
      refine fAppR 40 f4 0 rfl (s2.ev (hd.trans f4.old)) (one3 fun x hx => hE.oc x (List.mem_of_mem_drop hx)) (by rw [List.length_take, List.length_drop]; omega) (by rw [List.length_take, List.length_drop]; unfold maxLen; omega) (fun t33 w5 f5 => ⟨trivial, ?_⟩) (by kernel_rfl)
      have f5' : Fr w2.drew w5 [rIt eE 2 t33 ((os.take q).length + (os.drop (q + 1)).length) (cells3 (os.take q) ++ cells3 (os.drop (q + 1)))] := f5
      rw [← cells3_app, ← List.length_append] at f5'
      refine ⟨⟨k + 1, os.take q ++ os.drop (q + 1), by rw [i64_id (by omega) (by omega)]; omega, by omega, ?_, by simp; omega, ⟨f5'.row 0 rfl, fun u hu => ?_⟩, he.trans (hd.trans f5'.old)⟩, by dsimp only; rw [i64_id (by omega) (by omega)]; omega⟩
      · rw [hdr, List.map_append, List.map_take, List.map_drop]
      · rcases List.mem_append.1 hu with hu | hu
        · exact (hE.2 u (List.mem_of_mem_take hu)).ev (hd.trans f5'.old)
        · exact (hE.2 u (List.mem_of_mem_drop hu)).ev (hd.trans f5'.old)
    · rw [Bool.not_eq_true] at hh
      rw [hh, if_neg (by decide)] at hdr ⊢
      refine gIf_dec (fun _ => ?_) (fun h => by omega)
      rw [hdr]; exact ⟨_, [], rfl, rfl, Es.nil _, he⟩
  · rw [List.drop_of_length_le (by omega), dropE] at hdr
    rw [hdr]; exact ⟨_, os, rfl, rfl, hE, he⟩
end
end Go.Proofs.YtdknadlkadoloaaDoorV
