import Derived.Handed
import Derived.ShapedOpen
import Derived.Test.YtiimlfgjnapgjaaGreatDoorVPart9
set_option linter.unusedVariables false
set_option linter.unusedSimpArgs false
/- Package box: Make. -/
set_option linter.unusedVariables false
set_option linter.unusedSimpArgs false
namespace Go.Proofs.YtiimlfgjnapgjaaGreatDoorV
open Go Go.RowKit
theorem sortE_ok {l : List En} (h : (sortE l).2 = 0) : (sortE l).1.length ≤ 4096 ∧ sumD (sortE l).1 ≤ 1048576 ∧ (∀ e ∈ (sortE l).1, e.1.size ≤ 4096) ∧ (sortE l).1.Perm l := by
  unfold sortE at h ⊢
  split at h
  · cases h
  rename_i h1
  rw [if_neg h1]
  split at h
  · cases h
  rename_i h2
  rw [if_neg h2]
  split at h
  · cases h
  rename_i h3
  rw [if_neg h3]
  have hp := srtN_perm l
  have hm : much l = false := by simpa using h3
  unfold much at hm
  simp only [Bool.or_eq_false_iff, decide_eq_false_iff_not] at hm
  refine ⟨by show (srtN l).length ≤ _; rw [hp.length_eq]; omega, by show sumD (srtN l) ≤ _; rw [sumD_perm hp]; omega, fun e he => ?_, hp⟩
  have hl : e ∈ l := hp.mem_iff.1 he
  have hr : rightN e.1 = true := by
    cases hc : rightN e.1 with
    | true => rfl
    | false => exact absurd (List.any_eq_true.2 ⟨e, hl, by rw [hc]; rfl⟩) h1
  unfold rightN rightU at hr
  rw [Bool.and_eq_true, decide_eq_true_iff, Array.length_toList] at hr
  exact hr.1
theorem turnBx_len (ch : ChF) (tg xs : List Int) : ((turnBx ch tg xs).1.length : Int) ≤ (xs.length : Int) + (xs.length : Int) / 256 + 8 := by
  unfold turnBx
  split
  · dsimp only; omega
  · omega
theorem allB_len {tr : En → List Int × List Int} (h : ∀ e, ((tr e).1.length : Int) ≤ (e.2.length : Int) + (e.2.length : Int) / 256 + 8) : ∀ es : List En, ((allB (es.map tr)).length : Int) ≤ 2 * sumD es + 8 * es.length
  | [] => by simp [allB, sumD]
  | e :: es => by
    have ih := allB_len h es
    have h1 := h e
    have e1 : allB ((e :: es).map tr) = (tr e).1 ++ allB (es.map tr) := by simp [allB]
    have e2 : sumD (e :: es) = (e.2.length : Int) + sumD es := by simp [sumD]
    rw [e1, e2, List.length_append, List.length_cons]; omega
theorem blksB_len2 {blk : List Int → List Int} {n : Nat} {xs : List Int} (hb : ∀ ys, (blk ys).length ≤ 2 * ys.length + 40) : ∀ js : List Nat, (blksB blk n xs js).length ≤ (2 * n + 40) * js.length
  | [] => by simp [blksB]
  | j :: js => by
    have ih := blksB_len2 (blk := blk) (n := n) (xs := xs) hb js
    have h1 := hb (chL n xs j)
    have h2 := chL_len n xs j
    have e : blksB blk n xs (j :: js) = blk (chL n xs j) ++ blksB blk n xs js := by simp [blksB]
    rw [e, List.length_append, List.length_cons, Nat.mul_add, Nat.mul_one]; omega
section
variable {w0 w : World} {F : List It}
set_option maxHeartbeats 800000 in
theorem Make_any {lv cv sv nv : Value} {us : List E3} {auto locked : Bool} {level block rounds : Int} {ts ss ns : List Int} {ch : ChF} {dF blk : List Int → List Int} (hE : Es w lv us) (hs : Small us) (hc : Nm .i64 w cv ts) (hsv : Nm .u8 w sv ss) (hnv : Nm .u8 w nv ns) (htl : ts.length ≤ 1000000)
    (hcl : ∀ tg xs, (ch xs tg).2.length ≤ 10)
    (hch : ∀ e ∈ us.map er, ∀ {w' : World} {b tv : Value}, Ev w w' → e.2.length ≤ 1048576 → Nm .u8 w' b e.2 → Nm .i64 w' tv (tgOf auto ts dF e.2) → Calls P n_chain_Choose #[b, tv] w' (FwdE w' (ch e.2 (tgOf auto ts dF e.2))))
    (hdet : auto = true → ∀ e ∈ us.map er, ∀ {w' : World} {b : Value}, Ev w w' → e.2.length ≤ 1048576 → Nm .u8 w' b e.2 → Calls P n_chain_Detect #[b] w' (DetE w' (dF e.2)))
    (hbl : ∀ ys, (blk ys).length ≤ 2 * ys.length + 40)
    (hblk : allB ((sortE (us.map er)).1.map (trOf ch auto ts dF)) ≠ [] → ∀ {w' : World} {ad : Addr} {v b : Value} {X ys : List Int}, Ev w w' → ys.length ≤ 65536 → W1 w' ad v X → Stab (Ft ad v) w' (fun w'' => Nm .u8 w'' b ys) → X.length ≤ 1000000000 →
      Calls P n_box_writer_block #[.pointer (some ad), b, .int .i64 level] w' (fun e w'' => e = .returned (.tuple #[]) ∧ ∃ v', WS w' w'' ad v v' (X ++ blk ys))) :
    Calls P n_box_Make #[lv, .agg #[.bool auto, cv, .int .i64 level, .int .i64 block, .bool locked, sv, nv, .int .i64 rounds]] w (TupE w (makeB (trOf ch auto ts dF) blk auto ts level block locked ss.length ns.length rounds (us.map er))) := by
  refine of_box_Make (fBox (Fr.start w) fun o3 w1 f1 => fLoadA f1 0 rfl (gCall_b (BRight_any (hc.ev f1.old) (hsv.ev f1.old) (hnv.ev f1.old) (by omega)) fun w2 h2 => ?_))
  have f2 := f1.ev h2
  refine gIf_nb (fun hr => ?_) (fun hr => ?_)
  · have e : makeB (trOf ch auto ts dF) blk auto ts level block locked ss.length ns.length rounds (us.map er) = ([], 1) := by unfold makeB; rw [if_pos hr]
    rw [e]
    exact ⟨_, rfl, f2.old, ON.nil _ _ _ _⟩
  refine gCall_of (Sort_any (hE.ev f2.old) hs) ?_
  rintro _ w3 ⟨tv, es3, rfl, hmap, fs⟩
  refine ⟨_, _, rfl, gIf_neq (fun hne => ?_) (fun he => ?_)⟩
  · have e : makeB (trOf ch auto ts dF) blk auto ts level block locked ss.length ns.length rounds (us.map er) = ([], (sortE (us.map er)).2) := by unfold makeB; rw [if_neg (by rw [hr]; decide), if_pos hne]
    rw [e]
    exact ⟨_, rfl, f2.old.trans fs.old, ON.nil _ _ _ _⟩
  have eM : makeB (trOf ch auto ts dF) blk auto ts level block locked ss.length ns.length rounds (us.map er) = (boxB (bodyB (trOf ch auto ts dF) blk auto ts level block (sortE (us.map er)).1), 0) := by unfold makeB; rw [if_neg (by rw [hr]; decide), if_neg (by omega)]
  rw [eM]
  obtain ⟨hlen, hsd, hnm, hperm⟩ := sortE_ok he
  have hE3 : Es w3 tv es3 := Es.own fs
  have hw3 : Ev w w3 := f2.old.trans fs.old
  have hmem : ∀ u ∈ es3, er u ∈ us.map er ∧ u.1.size ≤ 4096 ∧ u.2.2.length ≤ 1048576 := fun u hu => by
    have h1 : er u ∈ (sortE (us.map er)).1 := by rw [← hmap]; exact List.mem_map.2 ⟨u, hu, rfl⟩
    refine ⟨hperm.mem_iff.1 h1, hnm _ h1, ?_⟩
    have h2 : ∀ (l : List En) (x : En), x ∈ l → (x.2.length : Int) ≤ sumD l := fun l x hx => by
      induction l with
      | nil => cases hx
      | cons y l ih =>
        have e2 : sumD (y :: l) = (y.2.length : Int) + sumD l := by simp [sumD]
        have := sumD_nn l
        rcases List.mem_cons.1 hx with rfl | hx
        · omega
        · have := ih hx; omega
    have := h2 _ _ h1
    have h3 : (er u).2 = u.2.2 := rfl
    rw [h3] at this; omega
  obtain ⟨es, hes⟩ : ∃ es, es = (sortE (us.map er)).1 := ⟨_, rfl⟩
  rw [← hes] at hmap hlen hsd hblk ⊢
  have hl3 : es3.length = es.length := erMap_len hmap
  obtain ⟨tr, htr⟩ : ∃ tr, tr = trOf ch auto ts dF := ⟨_, rfl⟩
  rw [← htr] at hblk ⊢
  have htl1 : ∀ e, ((tr e).1.length : Int) ≤ (e.2.length : Int) + (e.2.length : Int) / 256 + 8 := fun e => by rw [htr]; exact turnBx_len _ _ _
  have htl2 : ∀ e, (tr e).2.length ≤ 10 := fun e => by
    rw [htr]; unfold trOf turnBx
    split
    · exact Nat.zero_le _
    · exact hcl _ _
  have hall : (allB (es.map tr)).length ≤ 2200000 := by have := allB_len htl1 es; omega
  have hallk : ∀ k, (allB ((es.take k).map tr)).length ≤ 2200000 := fun k => by
    have e : es.take k ++ es.drop k = es := List.take_append_drop k es
    have h0 : ∀ a b : List En, allB ((a ++ b).map tr) = allB (a.map tr) ++ allB (b.map tr) := fun a b => by simp [allB]
    have h1 := congrArg List.length (h0 (es.take k) (es.drop k))
    rw [e, List.length_append] at h1; omega
  have hO : ∀ {w' : World}, Ev w3 w' → ∀ z x, [Value.bool auto, cv, .int .i64 level, .int .i64 block, .bool locked, sv, nv, .int .i64 rounds][z]? = some x → w'.cell? (o3.add z) = some x := fun hw z x hz => Ch.cell (fs.old.trans hw) (f2.cell 0 z rfl hz) fun h => h
  obtain ⟨hb16, hb65⟩ : 16 ≤ block ∧ block ≤ 65536 := by
    unfold optR at hr
    rw [Bool.and_eq_true, Bool.not_eq_true', decide_eq_false_iff_not] at hr
    omega
  refine gLen_slv hE3.1 ⟨fun al its t w' => ∃ (j : Nat) (vs : List ItV), t = (j : Int) ∧ j ≤ es3.length ∧ vs.map ItV.p = (es.take j).map (fun e => itemP (tr e) e) ∧ Fr w3 w' (oIt .u8 eB al (allB ((es.take j).map tr)) :: itF its vs), fun _ _ t _ => (es3.length - t).toNat, ⟨0, [], rfl, Nat.zero_le _, rfl, ((Fr.start w3).nilR eI5 5).nil0 .u8 eB⟩, ?_⟩
  rintro _ al its t w4 ⟨j, vs, rfl, hj, hvs, f4⟩
  have hvl : vs.length = j := by
    have := congrArg List.length hvs
    rw [List.length_map, List.length_map, List.length_take] at this; omega
  refine gIf_dec (fun hlt => ?_) (fun hge => ?_)
  · -- one more entry
    have hlt' : j < es3.length := by omega
    have hu : es3[j]? = some es3[j] := List.getElem?_eq_getElem hlt'
    have hmu : es3[j] ∈ es3 := List.getElem_mem hlt'
    have hte : es.take (j + 1) = es.take j ++ [er es3[j]] := by
      rw [← hmap, ← List.map_take, ← List.map_take, List.take_succ_eq_append_getElem hlt', List.map_append]; rfl
    generalize es3[j] = u at hu hmu hte
    obtain ⟨hm1, hm2, hm3⟩ := hmem u hmu
    have hnu := hE3.2 u hmu
    refine gIdx_E (hE3.ev f4.old) rfl hu fun ad h0 h1 => gLoad_E h0 h1 (fAlloc (z := .agg #[.string ⟨#[]⟩, .slice none 0 0]) f4 (by kernel_rfl) fun x10 w5 f5 => fStoreA f5 0 rfl (fun w6 f6 => ?_) rfl (fun x hx => by simp at hx; rcases hx with rfl | rfl; rfl; exact hnu.oc))
    have hw6 : Ev w w6 := hw3.trans f6.old
    refine fLoadA f6 0 rfl (gLoad_agg [.bool auto, cv, .int .i64 level, .int .i64 block, .bool locked, sv, nv, .int .i64 rounds] (fun z x hz => hO f6.old z x hz) ?_ rfl (by kernel_rfl))
    refine gCall_of (turned_any (ch := ch) (dF := dF) (hnu.ev f6.old) (hc.ev hw6) (by omega) (fun {w' b tv} he hb htg => hch (er u) hm1 (hw6.trans he) hm3 hb htg) (fun ha {w' b} he hb => hdet ha (er u) hm1 (hw6.trans he) hm3 hb)) ?_
    rintro _ w7 ⟨y, did, rfl, h7, ny, nd⟩
    have f7 := ((f6.drop 0).ev h7)
    have f7 : Fr w3 w7 (oIt .u8 eB al (allB ((es.take j).map tr)) :: itF its vs) := f7
    have nd' : ON .i64 eN w7 w6.heap.size did (turnBx ch (tgOf auto ts dF u.2.2) u.2.2).2 := nd
    have f7 : Fr w3 w7 (oIt .i64 eN did (turnBx ch (tgOf auto ts dF u.2.2) u.2.2).2 :: oIt .u8 eB al (allB ((es.take j).map tr)) :: itF its vs) := by
      have g6 : Fr w3 w6 (oIt .u8 eB al (allB ((es.take j).map tr)) :: itF its vs) := f6.drop 0
      exact g6.newO h7 nd'
    have hrr : turnBx ch (tgOf auto ts dF u.2.2) u.2.2 = tr (er u) := by rw [htr]; rfl
    rw [hrr] at f7 ny nd'
    have hr1 := htl1 (er u)
    have he2 : (er u).2 = u.2.2 := rfl
    rw [he2] at hr1
    have hdidc : did.oneCell' = true := nd'.nm.oc
    obtain ⟨q, hq⟩ : ∃ q : ItV, q = ⟨itemP (tr (er u)) (er u), did⟩ := ⟨_, rfl⟩
    have hq5 : c5 q = [.string u.1, .int .i64 u.2.2.length, .int .u32 (cSum u.2.2), did, .int .i64 (tr (er u)).1.length] := by rw [hq]; rfl
    have hq1 : ∀ x ∈ c5 q, x.oneCell' = true := fun x hx => by
      rw [hq5] at hx
      simp at hx; rcases hx with rfl | rfl | rfl | rfl | rfl
      · rfl
      · rfl
      · rfl
      · exact hdidc
      · rfl
    rw [hrr]
    refine ⟨_, _, _, _, _, _, rfl, fAlloc (z := .agg #[.string ⟨#[]⟩, .int .i64 0, .int .u32 0, .slice none 0 0, .int .i64 0]) (Fr.start w7) (by kernel_rfl) fun i12 w8 g8 => fStoreA g8 0 rfl (fun w9 g9 => ?_) rfl (fun x hx => hq1 x (by rw [hq5]; exact hx))⟩
    have g9 : Fr w7 w9 [sIt i12 (c5 q)] := by rw [hq5]; exact g9
    have g9 := g9.drew
    have hyl : (tr (er u)).1.length ≤ 1100000 := by omega
    have hal := hallk j
    have ea : allB ((es.take (j + 1)).map tr) = allB ((es.take j).map tr) ++ (tr (er u)).1 := by rw [hte, List.map_append]; exact allB_snoc _ _
    have ev : (vs ++ [q]).map ItV.p = (es.take (j + 1)).map (fun e => itemP (tr e) e) := by rw [hte, List.map_append, List.map_append, hvs, hq]; rfl
    have hone : (Value.agg #[.string u.1, .int .i64 u.2.2.length, .int .u32 (cSum u.2.2), did, .int .i64 (tr (er u)).1.length]).cells.toList = c5 q := by rw [hq5]; rfl
    have fin : ∀ {w' : World} {t43 t47 : Value} {H : List It}, Fr w3 w' (H ++ oIt .i64 eN did (tr (er u)).2 :: oIt .u8 eB t43 (allB ((es.take j).map tr) ++ (tr (er u)).1) :: rIt eI5 5 t47 (vs.length + 1) (cells5 vs ++ c5 q) :: vs.reverse.map fun u => oIt .i64 eN u.cv u.p.chain) →
        (∃ (j' : Nat) (vs' : List ItV), i64 ((j : Int) + 1) = (j' : Int) ∧ j' ≤ es3.length ∧ vs'.map ItV.p = (es.take j').map (fun e => itemP (tr e) e) ∧ Fr w3 w' (oIt .u8 eB t43 (allB ((es.take j').map tr)) :: itF t47 vs')) ∧ ((es3.length : Int) - i64 ((j : Int) + 1)).toNat < ((es3.length : Int) - (j : Int)).toNat := fun {w' t43 t47 H} hf => by
      have hf2 := hf.dropN H.length
      rw [List.drop_left] at hf2
      refine ⟨⟨j + 1, vs ++ [q], by rw [i64_id (by omega) (by omega)]; omega, by omega, ev, ?_⟩, by rw [i64_id (by omega) (by omega)]; omega⟩
      rw [ea, itF_snoc]
      have hqc : oIt .i64 eN q.cv q.p.chain = oIt .i64 eN did (tr (er u)).2 := by rw [hq]; rfl
      rw [hqc]
      exact hf2.picksN 3 [1, 2, 0] (by decide) (by decide)
    refine ⟨fun w' => ∀ z x, (c5 q)[z]? = some x → w'.cell? (i12.add z) = some x, fun z x hz => g9.cell 0 z rfl hz, gLoadB_agg [.string u.1, .int .i64 u.2.2.length, .int .u32 (cSum u.2.2), did, .int .i64 (tr (er u)).1.length] (fun w' hw z x hz => hw z x (by rw [hq5]; exact hz)) ?_ rfl (by kernel_rfl)⟩
    refine ⟨?_, ?_⟩
    · -- the bytes first
      have f9 : Fr w3 w9.drew (sIt i12 (c5 q) :: oIt .i64 eN did (tr (er u)).2 :: oIt .u8 eB al (allB ((es.take j).map tr)) :: itF its vs) := Fr.glue f7 g9
      refine fApp f9 2 rfl (ny.ev g9.old) (by omega) fun t43 w10 f10 => ⟨fun z x hz => f10.cell 0 z rfl hz, ?_⟩
      refine fLit_sz 5 [c5 q] f10 (by rw [hq5]; rfl) rfl (fun v hv => by rw [List.mem_singleton.1 hv, hq5]; rfl) (fun t46 w11 f11 => ⟨fun z x hz => f11.cell 1 z rfl hz, ?_⟩) (by decide) (by kernel_rfl) (by decide +kernel)
      have f11 : Fr w3 w11 (sIt t46 (c5 q) :: sIt i12 (c5 q) :: oIt .i64 eN did (tr (er u)).2 :: oIt .u8 eB t43 (allB ((es.take j).map tr) ++ (tr (er u)).1) :: itF its vs) := by
        rw [hq5] at f11 ⊢; exact f11
      refine fAppR 100 (m := 1) f11 4 rfl (Sl.of_st5 (f11.get 0 rfl)) hq1 (by omega) (by unfold maxLen; omega) (fun t47 w12 f12 => ⟨fun z x hz => f12.cell 1 z rfl hz, ?_⟩) (by kernel_rfl)
      exact fin (H := [sIt t46 (c5 q), sIt i12 (c5 q)]) f12
    · -- the item first
      refine fLit_sz 5 [c5 q] g9 (by rw [hq5]; rfl) rfl (fun v hv => by rw [List.mem_singleton.1 hv, hq5]; rfl) (fun t46 w11 g11 => ⟨fun z x hz => g11.cell 1 z rfl hz, ?_⟩) (by decide) (by kernel_rfl) (by decide +kernel)
      have g11 : Fr w7 w11 [sIt t46 (c5 q), sIt i12 (c5 q)] := by rw [hq5] at g11 ⊢; exact g11
      have f11 : Fr w3 w11 (sIt t46 (c5 q) :: sIt i12 (c5 q) :: oIt .i64 eN did (tr (er u)).2 :: oIt .u8 eB al (allB ((es.take j).map tr)) :: itF its vs) := Fr.glue f7 g11
      refine fApp f11 3 rfl (ny.ev g11.old) (by omega) fun t43 w12 f12 => ⟨fun z x hz => f12.cell 1 z rfl hz, ?_⟩
      refine fAppR 100 (m := 1) f12 4 rfl (Sl.of_st5 (f12.get 0 rfl)) hq1 (by omega) (by unfold maxLen; omega) (fun t47 w13 f13 => ⟨fun z x hz => f13.cell 1 z rfl hz, ?_⟩) (by kernel_rfl)
      exact fin (H := [sIt t46 (c5 q), sIt i12 (c5 q)]) f13
  · -- all of them
    obtain rfl : j = es3.length := by omega
    have htk : es.take es3.length = es := by rw [hl3, List.take_length]
    rw [htk] at hvs f4
    have hw4 : Ev w w4 := hw3.trans f4.old
    have hAll : Nm .u8 w4 al (allB (es.map tr)) := f4.nm 0 rfl
    have hIs : Is w4 its vs := itF_is (f4.drop 0)
    have hO4 : ∀ {w' : World}, Ev w4 w' → ∀ z x, [Value.bool auto, cv, .int .i64 level, .int .i64 block, .bool locked, sv, nv, .int .i64 rounds][z]? = some x → w'.cell? (o3.add z) = some x := fun hw => hO (f4.old.trans hw)
    have hokp : ∀ p ∈ vs.map ItV.p, okP p := fun p hp => by
      rw [hvs] at hp
      obtain ⟨e, he, rfl⟩ := List.mem_map.1 hp
      rw [← hmap] at he
      obtain ⟨u, hu, rfl⟩ := List.mem_map.1 he
      exact ⟨(hmem u hu).2.1, htl2 _⟩
    have hin : inR .u8 (allB (es.map tr)) := hAll.2
    refine fAlloc (z := .agg #[.slice none 0 0]) (Fr.start w4) (by kernel_rfl) fun w13 w16 f16 => ?_
    have f16 : Fr w4 w16 [wIt eB w13 (.slice none 0 0) []] := f16.asW (e := eB) 0 rfl
    refine ⟨fun a w' => w' = w16 ∧ a = (if auto = true then 1 else 0), gLoad_b (hO4 f16.old 0 _ rfl) (gIf_b (fun h => ⟨rfl, by rw [if_pos h]⟩) (fun h => ⟨rfl, by rw [h]; rfl⟩)), ?_⟩
    rintro _ a w17 ⟨hw17, rfl⟩
    obtain rfl : w16 = w17 := hw17.symm
    have hadd : w13.add 0 = w13 := Addr.add_zero' w13
    have l1 := numB_10 level
    have l2 := numB_10 block
    have l3 : (numB (if auto = true then (1 : Int) else 0).toNat).length ≤ 10 := numB_len64 (by cases auto <;> decide)
    have l3' : (numB (if auto = true then 1 else 0)).length ≤ 10 := numB_len64 (by cases auto <;> decide)
    have l4 := tagsB_len ts (by omega)
    refine gLoad_i (hO4 f16.old 2 _ rfl) ?_
    rw [hadd]
    refine fNumU f16 0 rfl (by simp) fun v18 w18 f18 => gLoad_i (hO4 f18.old 3 _ rfl) (fNumU f18 0 rfl (by simp; omega) fun v19 w19 f19 => ?_)
    refine fNum f19 0 rfl (by cases auto <;> decide) (by simp; omega) fun v20 w20 f20 => gLoad_v (hO4 f20.old 1 _ rfl) ?_
    refine gCall_u (wtags_any (ts := ts) f20 0 rfl (fun w' hf => hc.ev (hw4.trans hf.old)) (by simp only [List.length_append, List.length_nil]; omega)) fun w21 ⟨v21, f21⟩ => ?_
    refine gCall_u (witems_any (us := vs) f21 0 rfl (fun w' hf => hIs.ev hf.old) hokp (by omega) (by simp only [List.length_append, List.length_nil]; omega)) fun w22 ⟨v22, f22⟩ => ?_
    have eX : [] ++ numB (u64 level).toNat ++ numB (u64 block).toNat ++ numB (if auto = true then (1 : Int) else 0).toNat ++ tagsB ts ++ itemsB (vs.map ItV.p) = headB auto ts level block ++ itemsB (es.map fun e => itemP (tr e) e) := by
      rw [hvs]; unfold headB
      cases auto <;> rfl
    obtain ⟨X, hX⟩ : ∃ X, X = headB auto ts level block ++ itemsB (es.map fun e => itemP (tr e) e) := ⟨_, rfl⟩
    have hXl : X.length ≤ 100000000 := by
      have h1 := itemsN_len (ps := es.map fun e => itemP (tr e) e) (by rw [← hvs]; exact hokp)
      have h2 := numB_len64 (n := es.length) (by omega)
      rw [List.length_map] at h1
      rw [hX]; unfold headB itemsB
      simp only [List.length_append, List.length_map]; omega
    have g22 : Fr w4 w22 [wIt eB w13 v22 X] := by
      have : Fr w4 w22 [wIt eB w13 v22 ([] ++ numB (u64 level).toNat ++ numB (u64 block).toNat ++ numB (if auto = true then (1 : Int) else 0).toNat ++ tagsB ts ++ itemsB (vs.map ItV.p))] := f22
      rw [eX, ← hX] at this; exact this
    obtain ⟨n, rfl⟩ : ∃ n : Nat, block = n := ⟨block.toNat, by omega⟩
    have hn1 : 16 ≤ n := by omega
    refine gLoad_i (hO4 g22.old 3 _ rfl) (Chunk8_any g22 hAll.one (n := n) (by omega) fun ca cb w23 f23 => ?_)
    obtain ⟨AL, hAL⟩ : ∃ AL, AL = allB (es.map tr) := ⟨_, rfl⟩
    rw [← hAL] at hAll hblk hall hin
    have hbb : ∀ js : List Nat, js.length ≤ chN n AL.length → (blksB blk n AL js).length ≤ 100000000 := fun js hk => by
      have h1 := blksB_len2 (blk := blk) (n := n) (xs := AL) hbl js
      rcases Nat.eq_zero_or_pos js.length with h0 | h0
      · rw [h0] at h1; omega
      · have h2 := (chN_lt (n := n) (len := AL.length) (j := js.length - 1) (by omega)).1 (by omega)
        have h4 : js.length - 1 ≤ (js.length - 1) * n := Nat.le_mul_of_pos_right _ (by omega)
        have h5 : (2 * n + 40) * js.length = 2 * ((js.length - 1) * n) + 2 * n + 40 * js.length := by
          obtain ⟨m, hm⟩ : ∃ m, js.length = m + 1 := ⟨js.length - 1, by omega⟩
          rw [hm, Nat.add_sub_cancel, Nat.add_mul, Nat.mul_add, Nat.mul_one, Nat.mul_assoc, Nat.mul_comm n m]
        omega
    refine range_chunk8 f23 hAll (by omega) (by omega) (by omega) (fun pre G => ∃ v, G = [wIt eB w13 v (X ++ blksB blk n AL pre)]) ⟨v22, by show [wIt eB w13 v22 X] = [wIt eB w13 v22 (X ++ [])]; rw [List.append_nil]⟩ ?_ ?_
    · rintro pre jj W _ ⟨v, rfl⟩ f hlenp hN hOb K hK
      have hlt := (chN_lt (len := AL.length) (j := pre.length) (n := n) (by omega)).1 hlenp
      have hAne : AL ≠ [] := by intro h; rw [h] at hlt; simp at hlt
      have hWr : W1 W w13 v (X ++ blksB blk n AL pre) := f.get 2 rfl
      have hcl := chL_len n AL jj
      have hpl := hbb pre (by omega)
      refine gLoad_i (hO4 f.old 2 _ rfl) (gCall_u (hblk hAne (ys := chL n AL jj) (hw4.trans f.old) (by omega) hWr (fun w'' hch' => ?_) (by rw [List.length_append]; omega)) fun W1' ⟨v', hws⟩ => ?_)
      · exact hN.chN hch' fun hne g i hg hh => by
          have hgo := hN.old hne hg
          have hg2 : g < w4.heap.size := by rcases hOb g hg with h | h; exact h; exact absurd h hne
          have := (f.mem (it := wIt eB w13 v (X ++ blksB blk n AL pre)) (by simp)).2 g hh
          omega
      · have f' := f.wr 2 rfl hws
        refine hK W1' [wIt eB w13 v' (X ++ blksB blk n AL (pre ++ [jj]))] hws.2.1.others ⟨v', rfl⟩ ?_
        rw [blksB_snoc, ← List.append_assoc]; exact f'
    · rintro D W _ hD ⟨v, rfl⟩ f hDD
      have hBl := hbb (List.range (chN n AL.length)) (by rw [List.length_range]; exact Nat.le_refl _)
      have hbody : X ++ blksB blk n AL (List.range (chN n AL.length)) = bodyB tr blk auto ts level n es := by
        unfold bodyB; rw [hX, hAL, Int.toNat_natCast]
      have hbl2 : (bodyB tr blk auto ts level n es).length ≤ 300000000 := by rw [← hbody, List.length_append]; omega
      rw [hbody] at f
      generalize bodyB tr blk auto ts level n es = BD at f hbl2
      have hW : W1 W w13 v BD := f.get 2 rfl
      refine gCall_v (Bytes_W hW (by omega)) fun y wa ⟨h1, oy⟩ => ?_
      have g1 : Fr W wa [oIt .u8 eB y BD] := (Fr.start W).newO h1 oy
      have hbu := oy.2
      refine fNewW g1 fun out vo wb g2 => fLitC [118, 98, 120, 1] g2 rfl rfl (fun x hx => by simp at hx; rcases hx with rfl | rfl | rfl | rfl <;> decide) fun t81 wc g3 => ?_
      refine raw1_any (g3.get 1 rfl) (fun w' hc' => Cn.nm ((g3.oth 1 rfl hc' fun k q h => h).get 0 rfl)) (by simp) fun vd wd hd => ?_
      have g4 : Fr W wd [cIt eB t81 [118, 98, 120, 1], wIt eB out vd [118, 98, 120, 1], oIt .u8 eB y BD] := g3.wr 1 rfl hd
      refine gCall_i (cSum_any (g4.nm 2 rfl) (by omega)) fun we h5 => ?_
      rw [cSum_u64 hbu]
      have hcr := cSum_rng hbu
      refine fLittleW (n := 4) (g4.ev h5) 1 rfl (by omega) (by simp) fun vf wf g6 => ?_
      have g6 : Fr W wf [cIt eB t81 [118, 98, 120, 1], wIt eB out vf ([118, 98, 120, 1] ++ littleB (cSum BD) 4), oIt .u8 eB y BD] := g6
      refine raw1_any (ys := BD) (g6.get 1 rfl) (fun w' hc' => (g6.oth 1 rfl hc' fun k q h => h).nm 1 rfl) (by simp [littleB_len]; omega) fun vg wg hg => ?_
      have g7 : Fr W wg [cIt eB t81 [118, 98, 120, 1], wIt eB out vg (boxB BD), oIt .u8 eB y BD] := g6.wr 1 rfl hg
      have hxl : (boxB BD).length ≤ 400000000 := by unfold boxB; simp only [List.length_append, littleB_len]; simp; omega
      refine gCall_v (Bytes_W (g7.get 1 rfl) (by omega)) fun z wh ⟨h8, oz⟩ => ?_
      have hk1 : wh.heap[D]? = some (.deferred (some [])) := (g7.old.trans h8).oth D _ hDD rfl
      have f9 := (((f.ev g7.old).newO h8 oz).putObj (D := D) (o' := .deferred none) (Nat.le_trans f23.old.size hD) hk1 rfl)
      exact ⟨hk1, z, rfl, hw4.trans f9.old, (f9.on 0 rfl).low hw4.size⟩
end
end Go.Proofs.YtiimlfgjnapgjaaGreatDoorV

/- Package script: New, Do without an archive, awake; the law ScriptNil. -/
set_option linter.unusedVariables false
set_option linter.unusedSimpArgs false
namespace Go.Proofs.YtiimlfgjnapgjaaGreatDoorV
open Go Go.RowKit
section
variable {w0 w : World} {F : List It}
abbrev told0 (e : Int) : List Value := [.int .i64 e, .slice none 0 0, .slice none 0 0]
theorem sNew_any : Calls P n_script_New #[] w (fun e w' => ∃ ad, e = .returned (.pointer (some ad)) ∧ ∀ {w0 F}, Fr w0 w F → Fr w0 w' (sIt ad [.slice none 0 0, .string ⟨#[]⟩] :: F)) := by
  refine of_script_New (gBox_of fun ad w2 h2 had hs hS => ⟨ad, rfl, fun f => f.new h2 hS fun k hk => ?_⟩)
  have hk : k = ad.block := hk
  subst had; dsimp only at hk; omega
theorem Do_bad {d : Addr} {k lv bk rd nn : Int} {ev nv cv sv ov : Value} {au lo : Bool} (hk : ¬ (1 ≤ k ∧ k ≤ 9)) : Calls P n_script_Day_Do #[.pointer (some d), .agg #[.int .i64 k, ev, nv, .bool au, cv, .int .i64 lv, .int .i64 bk, .bool lo, sv, ov, .int .i64 rd, .int .i64 nn]] w (fun e w' => e = .returned (.agg #[.int .i64 1, .slice none 0 0, .slice none 0 0]) ∧ Ev w w') := by
  refine of_script_Day_Do (fBox (Fr.start w) fun o3 w1 f1 => fAlloc (z := .agg #[.int .i64 0, .slice none 0 0, .slice none 0 0]) f1 (by kernel_rfl) fun t4 w2 f2 => gEq_pnil (gIf_f (fAlloc (z := .agg #[.int .i64 0, .slice none 0 0, .slice none 0 0]) f2 (by kernel_rfl) fun t5 w3 f3 => ?_)))
  refine ⟨fun w' => Fr w w' [sIt t5 (told0 1), sIt t4 (told0 0), sIt o3 [.int .i64 k, ev, nv, .bool au, cv, .int .i64 lv, .int .i64 bk, .bool lo, sv, ov, .int .i64 rd, .int .i64 nn]], ?_, ?_⟩
  · refine fLoad_i f3 2 0 rfl rfl (gIf_eq (fun h => absurd h (by omega)) fun _ => gIf_eq (fun h => absurd h (by omega)) fun _ => gIf_eq (fun h => absurd h (by omega)) fun _ => gIf_eq (fun h => absurd h (by omega)) fun _ => gIf_eq (fun h => absurd h (by omega)) fun _ => gIf_eq (fun h => absurd h (by omega)) fun _ => gIf_eq (fun h => absurd h (by omega)) fun _ => gIf_eq (fun h => absurd h (by omega)) fun _ => gIf_eq (fun h => absurd h (by omega)) fun _ => ?_)
    exact fStore f3 0 0 rfl (fun w4 f4 => f4)
  · rintro _ w4 f4
    refine fLoadA f4 0 rfl (fStoreA f4 1 rfl (fun w5 f5 => fLoadA f5 1 rfl ⟨rfl, f5.old⟩))
def chN0 : ChF := fun xs _ => (xs, [])
theorem tr0 (auto : Bool) (dF : List Int → List Int) (e : En) : (trOf chN0 auto [] dF e).1 = e.2 := by
  unfold trOf turnBx chN0; split <;> rfl
def oneA : List E3 := [(sB [97], .slice none 0 0, [])]
theorem sort_a : sortE [(sB [97], [])] = ([(sB [97], [])], 0) := by decide +kernel
/-- The box of one entry without bytes. -/
theorem make_a {lv : Value} (hE : Es w lv oneA) : Calls P n_box_Make #[lv, .agg #[.bool false, .slice none 0 0, .int .i64 0, .int .i64 16, .bool false, .slice none 0 0, .slice none 0 0, .int .i64 0]] w (fun e w' => ∃ v X, e = .returned (.tuple #[v, .int .i64 0]) ∧ Ev w w' ∧ ON .u8 eB w' w.heap.size v X ∧ 0 < X.length ∧ X.length ≤ 100000) := by
  have hm := Make_any (auto := false) (locked := false) (level := 0) (block := 16) (rounds := 0) (ch := chN0) (dF := fun _ => []) (blk := fun _ => []) hE (by unfold oneA; exact ⟨by decide, fun u hu => by simp at hu; subst hu; decide⟩) (Nm.nil .i64 w) (Nm.nil .u8 w) (Nm.nil .u8 w) (by simp) (fun _ _ => by simp [chN0]) (fun e he {w' b tv} hev hl hb ht => Choose0_any hb ht (by omega)) (fun h => by cases h) (fun ys => by simp) (fun h => by
    exfalso; apply h
    have e1 : oneA.map er = [(sB [97], [])] := rfl
    rw [e1, sort_a]
    simp [allB, tr0])
  refine hm.mono ?_
  rintro e w' ⟨v, rfl, hev, ho⟩
  have e1 : oneA.map er = [(sB [97], [])] := rfl
  have hr : optR false [] 0 16 false (([] : List Int).length : Int) (([] : List Int).length : Int) 0 = true := by decide
  have e2 : makeB (trOf chN0 false [] fun _ => []) (fun _ => []) false [] 0 16 false (([] : List Int).length : Int) (([] : List Int).length : Int) 0 (oneA.map er) = (boxB (bodyB (trOf chN0 false [] fun _ => []) (fun _ => []) false [] 0 16 [(sB [97], [])]), 0) := by
    unfold makeB
    rw [if_neg (by rw [hr]; decide), e1, sort_a, if_neg (by simp)]
  rw [e2] at ho ⊢
  refine ⟨v, _, rfl, hev, ho, by unfold boxB; simp, ?_⟩
  have l1 := numB_10 0
  have l2 := numB_10 16
  have l3 : (numB 0).length ≤ 10 := numB_len64 (by decide)
  have l4 := tagsB_len [] (by simp)
  have l5 : (numB 1).length ≤ 10 := numB_len64 (by decide)
  have l6 := itemsN_len (ps := [(sB [97], ([] : List Int))].map fun e => itemP (trOf chN0 false [] (fun _ => []) e) e) (fun p hp => by
    simp at hp; subst hp
    exact ⟨by show (1 : Nat) ≤ 4096; decide, by show (trOf chN0 false [] (fun _ => []) (sB [97], [])).2.length ≤ 10; unfold trOf turnBx chN0; split <;> simp⟩)
  have l7 : blksB (fun _ => []) (Int.toNat 16) (allB ([(sB [97], ([] : List Int))].map (trOf chN0 false [] fun _ => []))) (List.range (chN (Int.toNat 16) (allB ([(sB [97], ([] : List Int))].map (trOf chN0 false [] fun _ => []))).length)) = [] := by
    simp [blksB]
  unfold boxB bodyB
  rw [l7]
  unfold headB itemsB
  simp only [List.length_append, littleB_len, List.length_map, List.length_cons, List.length_nil] at *
  simp at *
  omega
theorem create_a {lv : Value} (hE : Es w lv oneA) : Calls P n_archive_Create #[.string ⟨#[]⟩, .agg #[.bool false, .slice none 0 0, .int .i64 0, .int .i64 16, .bool false, .slice none 0 0, .slice none 0 0, .int .i64 0], lv] w (fun e w' => ∃ v X, e = .returned (.tuple #[v, .int .i64 0]) ∧ Ev w w' ∧ ON .u8 eB w' w.heap.size v X ∧ 0 < X.length ∧ X.length ≤ 100000) := by
  refine of_archive_Create (fBox (Fr.start w) fun o4 w1 f1 => fLoadA f1 0 rfl (gCall_of (make_a (hE.ev f1.old)) ?_))
  rintro _ w2 ⟨v, X, rfl, h2, o2, hX, hX2⟩
  have f2 := f1.ev h2
  exact ⟨v, 0, rfl, gIf_nneq (fun _ => fLoad_b f2 0 4 rfl rfl (gIf_nf ⟨v, X, rfl, f2.old, o2.low f1.old.size, hX, hX2⟩)) (fun h => (h rfl).elim)⟩
theorem gEq_dset {p : Addr} {K : Bool → Prop} (hk : K true) : gEq P .neq t_pt_script_Day (.pointer (some p)) (.pointer none) K := gNe_pnil hk
theorem awake31_any : Calls P n_valiselaw31_awake #[] w (fun e w' => e = .returned (.bool true) ∧ Ev w w') := by
  refine of_valiselaw31_awake (gCall_of sNew_any ?_)
  rintro _ w1 ⟨d, rfl, h1⟩
  have f1 := h1 (Fr.start w)
  refine ⟨some d, rfl, gEq_dset (gIf_t (fLit_sz 2 [[.string (sB [97]), .slice none 0 0]] f1 rfl rfl (fun v hv => by simp at hv; subst hv; rfl) (fun ad w2 f2 => ⟨rfl, ?_⟩) (by decide) (by kernel_rfl) (by decide +kernel)))⟩
  have hE : ∀ {w' : World}, St w' ad [.string (sB [97]), .slice none 0 0] → Es w' (.slice (some ad) 1 1) oneA := fun h => ⟨by have := Sl.of_st2 h; exact this, fun u hu => by unfold oneA at hu; simp at hu; subst hu; exact Nm.nil .u8 _⟩
  have f2 : Fr w w2 [sIt ad [.string (sB [97]), .slice none 0 0], sIt d [.slice none 0 0, .string ⟨#[]⟩]] := f2
  -- made
  refine gCall_of (R := fun e w' => e = .returned (.agg #[.int .i64 0, .slice none 0 0, .slice none 0 0]) ∧ ∃ v X, Fr w w' [sIt d [v, .string ⟨#[]⟩]] ∧ Nm .u8 w' v X ∧ 0 < X.length ∧ X.length ≤ 100000) ?_ ?_
  · refine of_script_Day_Do (fBox f2 fun o3 w3 f3 => fAlloc (z := .agg #[.int .i64 0, .slice none 0 0, .slice none 0 0]) f3 (by kernel_rfl) fun t4 w4 f4 => gEq_pnil (gIf_f (fAlloc (z := .agg #[.int .i64 0, .slice none 0 0, .slice none 0 0]) f4 (by kernel_rfl) fun t5 w5 f5 => ?_)))
    refine ⟨fun _ => False, fLoad_i f5 2 0 rfl rfl (gIf_t ?_), fun _ _ h => h.elim⟩
    obtain ⟨oc, hoc⟩ : ∃ oc : List Value, oc = [.int .i64 1, .slice (some ad) 1 1, .slice none 0 0, .bool false, .slice none 0 0, .int .i64 0, .int .i64 16, .bool false, .slice none 0 0, .slice none 0 0, .int .i64 0, .int .i64 0] := ⟨_, rfl⟩
    have f5 : Fr w w5 [sIt t5 (told0 0), sIt t4 (told0 0), sIt o3 oc, sIt ad [.string (sB [97]), .slice none 0 0], sIt d [.slice none 0 0, .string ⟨#[]⟩]] := by rw [hoc]; exact f5
    have f5 := f5.drew
    refine ⟨fun w' => w'.cell? (d.add 1) = some (.string ⟨#[]⟩) ∧ ∀ z y, oc[z]? = some y → w'.cell? (o3.add z) = some y, ⟨f5.cell 4 1 rfl rfl, fun z y hz => f5.cell 2 z rfl hz⟩, gNil_some (gLoadB_s (fun w' hw => hw.1) (gLoadB_agg [.bool false, .slice none 0 0, .int .i64 0, .int .i64 16, .bool false, .slice none 0 0, .slice none 0 0, .int .i64 0] (fun w' hw j u hj => ?_) (gLoadB_v (fun w' hw => hw.2 1 _ (by rw [hoc]; rfl)) (gCall_of (create_a (hE (f5.get 3 rfl))) ?_)) rfl (by kernel_rfl)))⟩
    · rw [Addr.add2']
      refine hw.2 (3 + j) u ?_
      rw [hoc]
      rcases j with _ | _ | _ | _ | _ | _ | _ | _ | j
      all_goals first | exact hj | (simp at hj)
    rintro _ w6 ⟨v, X, rfl, h6, o6, hX, hX2⟩
    have f6 := f5.newO h6 o6
    refine ⟨_, _, rfl, ⟨f6.cell 5 1 rfl rfl, fun z y hz => f6.cell 3 z rfl hz⟩, gCall_of (R := fun e w' => e = .returned (.agg #[.int .i64 0, .slice none 0 0, .slice none 0 0]) ∧ Fr w w' [oIt .u8 eB v X, sIt t5 (told0 0), sIt t4 (told0 0), sIt o3 oc, sIt ad [.string (sB [97]), .slice none 0 0], sIt d [v, .string ⟨#[]⟩]]) ?_ ?_⟩
    · refine of_script_Day_have (fAlloc (z := .agg #[.int .i64 0, .slice none 0 0, .slice none 0 0]) f6 (by kernel_rfl) fun t6 w7 f7 => gIf_t (gNil_some (fStore f7 6 0 rfl (fun w8 f8 => fStoreA f8 0 rfl (fun w9 f9 => fLoadA f9 0 rfl ⟨rfl, f9.drop 0⟩)) (by decide) o6.nm.oc o6.one)))
    · rintro _ w9 ⟨rfl, f9⟩
      refine ⟨_, _, _, rfl, ⟨f9.cell 5 1 rfl rfl, fun z y hz => f9.cell 3 z rfl hz⟩, fStoreA f9 2 rfl (fun w10 f10 => ⟨⟨f10.cell 5 1 rfl rfl, fun z y hz => f10.cell 3 z rfl hz⟩, fLoadA f10 2 rfl ⟨rfl, v, X, f10.picks [5] (by decide), f10.nm 0 rfl, hX, hX2⟩⟩)⟩
  · rintro _ w11 ⟨rfl, v, X, f11, nv, hX, hX2⟩
    refine ⟨_, _, _, rfl, gIf_t (gCall_v (Q := fun y w' => Ev w11 w' ∧ Nm .u8 w' y X) ?_ fun y w12 ⟨h12, ny⟩ => gLen_nm ny (gIf_dec (fun _ => gCall_of (Do_bad (by omega)) ?_) (fun h => absurd h (by omega))))⟩
    · exact of_script_Day_Archive (gEq_pnil (gIf_f (gNil_some (fLoad_v f11 0 0 rfl rfl (fApp0 (Fr.start w11) nv (by omega) fun y w' f => ⟨y, rfl, f.old, f.nm 0 rfl⟩)))))
    · rintro _ w13 ⟨rfl, h13⟩
      exact ⟨_, _, _, rfl, rfl, (f11.old.trans h12).trans h13⟩
end
end Go.Proofs.YtiimlfgjnapgjaaGreatDoorV

/- Package valisehelp: Own, Kept, Plain, Same of @T@. -/
namespace Go.Proofs.YtiimlfgjnapgjaaGreatDoorV
open Go Go.RowKit
theorem Own_byte_on {l : Value} {xs : List Int} {f : Int} {w : World} (h : Nm .u8 w l xs) (hl : xs.length ≤ 1000000000) (hf : IntKind.u8.min ≤ f ∧ f ≤ IntKind.u8.max) :
    Calls P n_valisehelp_Own_byte #[l, .int .u8 f] w (fun e w' => ∃ v, e = .returned v ∧ Ev w w' ∧ Owd .u8 w' v xs f ∧ ON .u8 (elOf P t_sl_uint8) w' w.heap.size v xs) := by
  refine of_valisehelp_Own_byte (gLen_nm h ?_)
  rw [show i64 ((xs.length : Int) + 3) = ((xs.length + 3 : Nat) : Int) from i64_id (by omega) (by omega)]
  refine gMake_cap (k := .u8) (by omega) fun w1 h1 hs1 hF => ?_
  generalize hg : w.heap.size = g at *
  have hz : (List.replicate (xs.length + 3) (0 : Int)).length = xs.length + 3 := by simp
  refine gApp_room (n := 0) hF hz (h.ev h1) (by omega) fun w2 h2 hs2 hF2 => gLen_nm h ?_
  rw [show i64 ((xs.length : Int) + 3) = ((xs.length + 3 : Nat) : Int) from i64_id (by omega) (by omega), Nat.zero_add]
  rw [Nat.zero_add] at hF2
  have e0 : List.replicate (xs.length + 3) (0 : Int) = List.replicate xs.length 0 ++ [0, 0, 0] := List.replicate_append_replicate.symm
  have eF : List.take 0 (List.replicate (xs.length + 3) (0 : Int)) ++ xs ++ List.drop xs.length (List.replicate (xs.length + 3) 0) = xs ++ [0, 0, 0] := by
    rw [e0, List.drop_append_of_le_length (by simp), List.drop_of_length_le (by simp)]; simp
  rw [eF] at hF2
  refine gSlice_any (sz := 1) (l := 0) (h := xs.length + 3) (.inl ⟨rfl, rfl⟩) (.inr ⟨_, rfl⟩) (by omega) (by omega) ?_ (by kernel_rfl)
  rw [subV_z (by omega)]
  have hO := hF2.on (xs.length + 3) (by simp)
  rw [List.take_of_length_le (by simp)] at hO
  have e2 : (xs ++ [(0 : Int), 0, 0]).length = xs.length + 3 := by simp
  rw [e2] at hO
  have hev : Ev w w2 := h1.new h2 fun n i hh => by rw [hh]; omega
  refine gLen_nm h ⟨fun i w3 => ∃ j : Nat, i = ((xs.length + j : Nat) : Int) ∧ j ≤ 3 ∧ Ev w w3 ∧ ON .u8 (elOf P t_sl_uint8) w3 g (.slice (some ⟨g, 0, none⟩) (xs.length + 3) (xs.length + 3)) (xs ++ (List.replicate j f ++ List.replicate (3 - j) 0)), fun i _ => xs.length + 3 - i.toNat, ⟨0, by omega, by omega, hev, hO⟩, ?_⟩
  rintro _ i w3 ⟨j, rfl, hj, h3, hO3⟩
  have hln : (xs ++ (List.replicate j f ++ List.replicate (3 - j) (0 : Int))).length = xs.length + 3 := by simp; omega
  refine gLen_nm hO3.nm (gIf_dec (fun hlt => ?_) (fun hge => ?_))
  · rw [hln] at hlt
    refine gIdx_on hO3 (by omega) (by rw [hln]; omega) fun ad hs _ => gStore_on hO3 hs (by omega) (by rw [hln]; omega) hf fun w4 h4 _ hO4 => ?_
    rw [show i64 (((xs.length + j : Nat) : Int) + 1) = ((xs.length + (j + 1) : Nat) : Int) by rw [i64_id (by omega) (by omega)]; omega]
    refine ⟨⟨j + 1, rfl, by omega, h3.new h4 fun n i hh => ?_, ?_⟩, by dsimp only; omega⟩
    · have : n = g := by simpa [Value.ownBlock] using hh.symm
      omega
    · have e3 : (xs ++ (List.replicate j f ++ List.replicate (3 - j) (0 : Int))).set (xs.length + j) f = xs ++ (List.replicate (j + 1) f ++ List.replicate (3 - (j + 1)) 0) := by
        rw [List.set_append_right _ _ (by omega), show xs.length + j - xs.length = j by omega, List.set_append_right _ _ (by simp), List.length_replicate, Nat.sub_self, show 3 - j = (3 - (j + 1)) + 1 by omega, List.replicate_succ, List.set_cons_zero, List.replicate_succ']
        simp
      rw [Int.toNat_natCast, e3] at hO4
      exact hO4
  · rw [hln] at hge
    obtain rfl : j = 3 := by omega
    refine ⟨_, rfl, h3, ⟨some ⟨g, 0, none⟩, xs.length + 3, rfl, Nat.le_refl _, hO3.nm⟩, ?_⟩
    have := hO3.pre xs.length (by omega)
    rw [List.take_left] at this
    exact this
theorem Own_byte_any {l : Value} {xs : List Int} {f : Int} {w : World} (h : Nm .u8 w l xs) (hl : xs.length ≤ 1000000000) (hf : IntKind.u8.min ≤ f ∧ f ≤ IntKind.u8.max) :
    Calls P n_valisehelp_Own_byte #[l, .int .u8 f] w (fun e w' => ∃ v, e = .returned v ∧ Ev w w' ∧ Owd .u8 w' v xs f) :=
  (Own_byte_on h hl hf).mono fun _ _ ⟨v, h1, h2, h3, _⟩ => ⟨v, h1, h2, h3⟩
theorem Same_byte_any {a b : Value} {xs ys : List Int} {w : World} (ha : Nm .u8 w a xs) (hb : Nm .u8 w b ys) (hl : xs.length ≤ 1000000000) :
    Calls P n_valisehelp_Same_byte #[a, b, .func (.func n_valisehelp_Plain_byte_1) #[] #[]] w (fun e w' => e = .returned (.bool (decide (xs = ys))) ∧ Ev w w') := by
  refine of_valisehelp_Same_byte (gLen_nm ha (gLen_nm hb (gIf_neq (fun hne => ⟨by rw [decide_eq_false fun h => hne (by rw [h])], Ch.refl _ w⟩) (fun heq => ?_))))
  have hle : xs.length = ys.length := by omega
  refine ⟨fun i w' => ∃ j : Nat, i = j ∧ j ≤ xs.length ∧ (∀ q, q < j → rd xs q = rd ys q) ∧ Ev w w', fun i _ => xs.length - i.toNat, ⟨0, rfl, by omega, by omega, Ch.refl _ w⟩, ?_⟩
  rintro _ i w1 ⟨j, rfl, hj, hq, h1⟩
  refine gLen_nm ha (gIf_dec (fun hlt => ?_) (fun hge => ⟨?_, h1⟩))
  · refine ⟨fun w' => w' = w1.drew, rfl, gIdx_nm (ha.ev h1) (by omega) (by omega) fun a1 c1 _ => gLoadB_i (at1 c1) (gIdx_nm (hb.ev h1) (by omega) (by omega) fun a2 c2 _ => gLoadB_i (at1 c2) (gCallV_of rfl (by kernel_rfl) (of_valisehelp_Plain_byte_1 (R := fun e w' => e = .returned (.bool (rd xs j == rd ys j)) ∧ w' = w1.drew) ⟨rfl, rfl⟩) ?_))⟩
    rintro _ _ ⟨rfl, rfl⟩
    refine ⟨_, rfl, rfl, ?_⟩
    refine gIf_neqq (fun hne => ⟨?_, h1.drew⟩) (fun he => ?_)
    · rw [decide_eq_false fun h => hne (by rw [h])]
    · rw [i64_id (n := (j : Int) + 1) (by omega) (by omega)]
      refine ⟨⟨j + 1, by omega, by omega, fun q hq' => ?_, h1.drew⟩, by dsimp only; omega⟩
      rcases Nat.lt_or_ge q j with h | h
      · exact hq q h
      · have : q = j := by omega
        subst this; exact he
  · rw [decide_eq_true]
    refine List.ext_getElem hle fun q h1 h2 => ?_
    rw [← rd_nat xs q h1, ← rd_nat ys q h2]; exact hq q (by omega)
theorem Plain_byte_any {a b : Value} {xs ys : List Int} {w : World} (ha : Nm .u8 w a xs) (hb : Nm .u8 w b ys) (hl : xs.length ≤ 1000000000) :
    Calls P n_valisehelp_Plain_byte #[a, b] w (fun e w' => e = .returned (.bool (decide (xs = ys))) ∧ Ev w w') :=
  of_valisehelp_Plain_byte (gCall_of (Same_byte_any ha hb hl) fun _ _ ⟨h1, h2⟩ => ⟨_, h1, rfl, h2⟩)
theorem Kept_byte_any {o l : Value} {xs : List Int} {f : Int} {w : World} (ho : Owd .u8 w o xs f) (h : Nm .u8 w l xs) (hl : xs.length ≤ 1000000000) :
    Calls P n_valisehelp_Kept_byte #[o, l, .int .u8 f] w (fun e w' => e = .returned (.bool true) ∧ Ev w w') := by
  have hn := ho.nm
  obtain ⟨a, c, rfl, hc, hN⟩ := ho
  have e3 : i64 ((xs.length : Int) + 3) = ((xs.length + 3 : Nat) : Int) := i64_id (by omega) (by omega)
  refine of_valisehelp_Kept_byte ⟨fun w' => Ev w w', gCall_of (Plain_byte_any hn h hl) ?_, ?_⟩
  · rintro _ w1 ⟨rfl, h1⟩
    refine ⟨_, rfl, ?_⟩
    rw [decide_eq_true rfl]
    refine gIf_nn (gCap_sl (gLen_nm h ?_))
    rw [e3]
    exact gIf_dec (fun hlt => by omega) (fun _ => h1)
  · rintro _ w2 h2
    refine gLen_nm h ?_
    rw [e3]
    refine gSlice_any (sz := 1) (l := 0) (h := xs.length + 3) (.inl ⟨rfl, rfl⟩) (.inr ⟨_, rfl⟩) (by omega) hc ?_ (by kernel_rfl)
    rw [subV_z (by omega)]
    have hN2 := hN.ev h2
    have hln : (xs ++ [f, f, f]).length = xs.length + 3 := by simp
    refine gLen_nm h ⟨fun i w3 => ∃ j : Nat, i = ((xs.length + j : Nat) : Int) ∧ j ≤ 3 ∧ w3 = w2, fun i _ => xs.length + 3 - i.toNat, ⟨0, by omega, by omega, rfl⟩, ?_⟩
    rintro _ i _ ⟨j, rfl, hj, rfl⟩
    refine gLen_nm hN2 (gIf_dec (fun hlt => ?_) (fun hge => ⟨rfl, h2⟩))
    rw [hln] at hlt
    refine gIdx_nm hN2 (by omega) (by rw [hln]; omega) fun ad c1 _ => gLoad_i c1 (gIf_neq (fun hne => (hne ?_).elim) (fun _ => ?_))
    · rw [rd, Int.toNat_natCast, List.getD_eq_getElem?_getD, List.getElem?_append_right (by omega), show xs.length + j - xs.length = j by omega]
      have : j = 0 ∨ j = 1 ∨ j = 2 := by omega
      rcases this with rfl | rfl | rfl <;> rfl
    · rw [show i64 (((xs.length + j : Nat) : Int) + 1) = ((xs.length + (j + 1) : Nat) : Int) by rw [i64_id (by omega) (by omega)]; omega]
      exact ⟨⟨j + 1, rfl, by omega, rfl⟩, by dsimp only; omega⟩
end Go.Proofs.YtiimlfgjnapgjaaGreatDoorV

/- Operations held against each other; the law ScriptDecodes. -/
set_option linter.unusedVariables false
set_option linter.unusedSimpArgs false
namespace Go.Proofs.YtiimlfgjnapgjaaGreatDoorV
open Go Go.RowKit
def okO (o : OpV) : Prop := o.names.length ≤ 8 ∧ o.ents.length ≤ 8 ∧ o.chain.length ≤ 8
theorem okO_op {xs : List Int} {s : Nat × Int} (hx : inR .u8 xs) : okO (opS xs s).1 := by
  unfold opS
  split
  · exact ⟨Nat.zero_le 8, Nat.zero_le 8, Nat.zero_le 8⟩
  · have hr1 := nmS_rg (xs := xs) (s := (oN xs s).2) (m := 8) (by decide) hx
    have hr2 := nmS_rg (xs := xs) (s := (oNs xs s).2) (m := 8) (by decide) hx
    have hr3 := nmS_rg (xs := xs) (s := (oBl xs s).2) (m := 8) (by decide) hx
    have hr1 : 0 ≤ (oC1 xs s).1 ∧ (oC1 xs s).1 ≤ 8 := hr1
    have hr2 : 0 ≤ (oC2 xs s).1 ∧ (oC2 xs s).1 ≤ 8 := hr2
    have hr3 : 0 ≤ (oC3 xs s).1 ∧ (oC3 xs s).1 ≤ 8 := hr3
    have h1 : (oNs xs s).1.length = (oC1 xs s).1.toNat := repS_len _ _ _
    have h2 : (oEs xs s).1.length = (oC2 xs s).1.toNat := repS_len _ _ _
    have h3 : (oCh xs s).1.length = (oC3 xs s).1.toNat := repS_len _ _ _
    refine ⟨?_, ?_, ?_⟩
    · show (oNs xs s).1.length ≤ 8; omega
    · show (oEs xs s).1.length ≤ 8; omega
    · show (oCh xs s).1.length ≤ 8; omega
theorem okO_ops {xs : List Int} (hx : inR .u8 xs) : ∀ (f : Nat) (s : Nat × Int), (opsS xs f s).length ≤ f ∧ ∀ o ∈ opsS xs f s, okO o
  | 0, s => ⟨by simp [opsS], fun o h => by simp [opsS] at h⟩
  | f + 1, s => by
    rw [opsS]
    split
    · exact ⟨by simp, fun o h => by cases h⟩
    · have ih := okO_ops hx f (opS xs s).2
      refine ⟨by rw [List.length_cons]; omega, fun o h => ?_⟩
      rcases List.mem_cons.1 h with rfl | h
      · exact okO_op hx
      · exact ih.2 o h
section
variable {w : World}
theorem SameS_any {a b : Value} {ss : List ByteArray} (ha : Ss w a ss) (hb : Ss w b ss) (hl : ss.length ≤ 1000) : Calls P n_valisehelp_Same_string #[a, b, .func (.func n_valisehelp_Plain_string_1) #[] #[]] w (fun e w' => e = .returned (.bool true) ∧ Ev w w') := by
  refine of_valisehelp_Same_string (gLen_slv ha (gLen_slv hb (gIf_neq (fun h => (h rfl).elim) (fun _ => ⟨fun i w' => ∃ j : Nat, i = (j : Int) ∧ j ≤ ss.length ∧ Ev w w', fun i _ => (ss.length - i).toNat, ⟨0, rfl, Nat.zero_le _, Ch.refl _ w⟩, ?_⟩))))
  rintro _ i w1 ⟨j, rfl, hj, he⟩
  have ha1 : Ss w1 a ss := Sl.ev ha he
  have hb1 : Ss w1 b ss := Sl.ev hb he
  refine gLen_slv ha1 (gIf_dec (fun hlt => ?_) (fun hge => ⟨rfl, he⟩))
  have hlt' : j < ss.length := by omega
  have hu := List.getElem?_eq_getElem hlt'
  generalize ss[j] = u at hu
  refine ⟨fun w' => Ev w1.drew w', Ch.refl _ _, gIdx_S ha1 rfl hu fun ad h0 => gLoadB_s (fun w' hw => Ch.cell hw h0 fun h => h) (gIdx_S hb1 rfl hu fun ad2 k0 => gLoadB_s (fun w' hw => Ch.cell hw k0 fun h => h) (gCallV_of (R := fun e w' => e = .returned (.bool true) ∧ w' = w1.drew) rfl (by kernel_rfl) (of_valisehelp_Plain_string_1 ⟨by rw [show (u.toList == u.toList) = true by simp], rfl⟩) ?_))⟩
  rintro _ _ ⟨rfl, rfl⟩
  exact ⟨_, rfl, Ch.refl _ _, gIf_nt ⟨⟨j + 1, by rw [i64_id (by omega) (by omega)]; omega, by omega, he.drew⟩, by dsimp only; rw [i64_id (by omega) (by omega)]; omega⟩⟩
theorem SameN_any {a b : Value} {ts : List Int} (ha : Nm .i64 w a ts) (hb : Nm .i64 w b ts) (hl : ts.length ≤ 1000) : Calls P n_valisehelp_Same_int #[a, b, .func (.func n_valisehelp_Plain_int_1) #[] #[]] w (fun e w' => e = .returned (.bool true) ∧ Ev w w') := by
  refine of_valisehelp_Same_int (gLen_nm ha (gLen_nm hb (gIf_neq (fun h => (h rfl).elim) (fun _ => ⟨fun i w' => ∃ j : Nat, i = (j : Int) ∧ j ≤ ts.length ∧ Ev w w', fun i _ => (ts.length - i).toNat, ⟨0, rfl, Nat.zero_le _, Ch.refl _ w⟩, ?_⟩))))
  rintro _ i w1 ⟨j, rfl, hj, he⟩
  have ha1 := ha.ev he
  have hb1 := hb.ev he
  refine gLen_nm ha1 (gIf_dec (fun hlt => ?_) (fun hge => ⟨rfl, he⟩))
  have hlt' : j < ts.length := by omega
  refine ⟨fun w' => w' = w1.drew, rfl, gIdx_nm ha1 (by omega) (by omega) fun a1 c1 _ => gLoadB_i (at1 c1) (gIdx_nm hb1 (by omega) (by omega) fun a2 c2 _ => gLoadB_i (at1 c2) (gCallV_of (R := fun e w' => e = .returned (.bool true) ∧ w' = w1.drew) rfl (by kernel_rfl) (of_valisehelp_Plain_int_1 ⟨by rw [show (rd ts (j : Int) == rd ts (j : Int)) = true by simp], rfl⟩) ?_))⟩
  rintro _ _ ⟨rfl, rfl⟩
  exact ⟨_, rfl, rfl, gIf_nt ⟨⟨j + 1, by rw [i64_id (by omega) (by omega)]; omega, by omega, he.drew⟩, by dsimp only; rw [i64_id (by omega) (by omega)]; omega⟩⟩
def opO (o : OpV) (cv sv ov : Value) : List Value := [.bool o.auto, cv, .int .i64 o.level, .int .i64 o.block, .bool o.locked, sv, ov, .int .i64 o.rounds]
theorem OptEq_any {o : OpV} {cv sv ov cv' sv' ov' : Value} (h1 : Nm .i64 w cv o.chain) (h2 : Nm .u8 w sv o.salt) (h3 : Nm .u8 w ov o.nonce) (k1 : Nm .i64 w cv' o.chain) (k2 : Nm .u8 w sv' o.salt) (k3 : Nm .u8 w ov' o.nonce) (hl : o.chain.length ≤ 8) :
    Calls P n_valisehelp_Options #[.agg (opO o cv sv ov).toArray, .agg (opO o cv' sv' ov').toArray] w (fun e w' => e = .returned (.bool true) ∧ Ev w w') := by
  refine of_valisehelp_Options (fBox (Fr.start w) fun a2 w1 f1 => fBox f1 fun b3 w2 f2 => fLoad_b f2 1 0 rfl rfl (fLoad_b f2 0 0 rfl rfl (gEq_bool ?_)))
  rw [show (o.auto == o.auto) = true by simp]
  refine gIf_t (fLoad_v f2 1 1 rfl rfl (fLoad_v f2 0 1 rfl rfl (gCall_b (b := true) (Q := fun w' => Ev w2 w') (of_valisehelp_Plain_int (gCall_b (SameN_any (h1.ev f2.old) (k1.ev f2.old) (by omega)) fun w' h => ⟨rfl, h⟩)) fun w3 h => ?_)))
  have f3 := f2.ev h
  refine gIf_t (fLoad_i f3 1 2 rfl rfl (fLoad_i f3 0 2 rfl rfl (gIf_eq (fun _ => fLoad_i f3 1 3 rfl rfl (fLoad_i f3 0 3 rfl rfl (gIf_eq (fun _ => fLoad_b f3 1 4 rfl rfl (fLoad_b f3 0 4 rfl rfl (gEq_bool ?_))) (fun h => (h rfl).elim)))) (fun h => (h rfl).elim))))
  rw [show (o.locked == o.locked) = true by simp]
  refine gIf_t (fLoad_v f3 1 5 rfl rfl (fLoad_v f3 0 5 rfl rfl (gCall_b0 (Bytes_any (h2.ev f3.old) (k2.ev f3.old)) ?_)))
  rw [decide_eq_true rfl]
  refine gIf_t (fLoad_v f3 1 6 rfl rfl (fLoad_v f3 0 6 rfl rfl (gCall_b0 (Bytes_any (h3.ev f3.old) (k3.ev f3.old)) ?_)))
  rw [decide_eq_true rfl]
  exact gIf_t (fLoad_i f3 1 7 rfl rfl (fLoad_i f3 0 7 rfl rfl ⟨by rw [show (o.rounds == o.rounds) = true by simp], f3.old⟩))
theorem OpEq_any {c d : List Value} {o : OpV} (hc : OpM w c o) (hd : OpM w d o) (hk : okO o) : Calls P n_valisehelp_Op #[.agg c.toArray, .agg d.toArray] w (fun e w' => e = .returned (.bool true) ∧ Ev w w') := by
  obtain ⟨ev, nv, cv, sv, ov, us, rfl, c1, c2, c3, c4, c5, c6⟩ := hc
  obtain ⟨ev', nv', cv', sv', ov', us', rfl, d1, d2, d3, d4, d5, d6⟩ := hd
  obtain ⟨l1, l2, l3⟩ := hk
  refine of_valisehelp_Op (fBox (Fr.start w) fun a2 w1 f1 => fBox f1 fun b3 w2 f2 => fLoad_i f2 1 0 rfl rfl (fLoad_i f2 0 0 rfl rfl (gIf_eq (fun _ => fLoad_v f2 1 1 rfl rfl (fLoad_v f2 0 1 rfl rfl (gCall_b (SameE_any (c1.ev f2.old) (d1.ev f2.old) (by have := erMap_len c2; omega)) fun w3 h3 => ?_))) (fun h => (h rfl).elim))))
  have f3 := f2.ev h3
  rw [c2, d2, decide_eq_true rfl]
  refine gIf_t (fLoad_v f3 1 2 rfl rfl (fLoad_v f3 0 2 rfl rfl (gCall_b (b := true) (Q := fun w' => Ev w3 w') (of_valisehelp_Plain_string (gCall_b (SameS_any (Sl.ev c3 f3.old) (Sl.ev d3 f3.old) (by omega)) fun w' h => ⟨rfl, h⟩)) fun w4 h4 => ?_)))
  have f4 := f3.ev h4
  have hA : ∀ j u, (opO o cv sv ov)[j]? = some u → w4.cell? ((a2.add 3).add j) = some u := fun j u hj => by
    rw [Addr.add2']
    refine f4.cell 1 (3 + j) rfl ?_
    rcases j with _ | _ | _ | _ | _ | _ | _ | _ | j
    all_goals first | exact hj | (simp [opO] at hj)
  have hB : ∀ j u, (opO o cv' sv' ov')[j]? = some u → w4.cell? ((b3.add 3).add j) = some u := fun j u hj => by
    rw [Addr.add2']
    refine f4.cell 0 (3 + j) rfl ?_
    rcases j with _ | _ | _ | _ | _ | _ | _ | _ | j
    all_goals first | exact hj | (simp [opO] at hj)
  refine gIf_t (gLoad_agg (opO o cv sv ov) hA (gLoad_agg (opO o cv' sv' ov') hB (gCall_b (OptEq_any (c4.ev f4.old) (c5.ev f4.old) (c6.ev f4.old) (d4.ev f4.old) (d5.ev f4.old) (d6.ev f4.old) l3) fun w5 h5 => ?_) rfl (by kernel_rfl)) rfl (by kernel_rfl))
  have f5 := f4.ev h5
  exact gIf_t (fLoad_i f5 1 11 rfl rfl (fLoad_i f5 0 11 rfl rfl ⟨by rw [show (o.n == o.n) = true by simp], f5.old⟩))
theorem OpsEq_any {a b : Value} {ops : List OpV} (ha : OpsM w a ops) (hb : OpsM w b ops) (hk : ∀ o ∈ ops, okO o) (hl : ops.length ≤ 1000) : Calls P n_valisehelp_Same_api_Op #[a, b, .func (.func n_valisehelp_Op) #[] #[]] w (fun e w' => e = .returned (.bool true) ∧ Ev w w') := by
  have hSa : Sl w 12 a ops.length _ := ha.choose_spec.1
  have hSb : Sl w 12 b ops.length _ := hb.choose_spec.1
  refine of_valisehelp_Same_api_Op (gLen_slv hSa (gLen_slv hSb (gIf_neq (fun h => (h rfl).elim) (fun _ => ⟨fun i w' => ∃ j : Nat, i = (j : Int) ∧ j ≤ ops.length ∧ Ev w w', fun i _ => (ops.length - i).toNat, ⟨0, rfl, Nat.zero_le _, Ch.refl _ w⟩, ?_⟩))))
  rintro _ i w1 ⟨j, rfl, hj, he⟩
  obtain ⟨css, a1, a2, a3⟩ := ha.ev he
  obtain ⟨dss, b1, b2, b3⟩ := hb.ev he
  refine gLen_slv a1 (gIf_dec (fun hlt => ?_) (fun hge => ⟨rfl, he⟩))
  have hlt' : j < ops.length := by omega
  have ho := List.getElem?_eq_getElem hlt'
  have hom : ops[j] ∈ ops := List.getElem_mem hlt'
  have hc := List.getElem?_eq_getElem (show j < css.length by omega)
  have hd := List.getElem?_eq_getElem (show j < dss.length by omega)
  generalize ops[j] = o at ho hom
  generalize css[j] = c at hc
  generalize dss[j] = d at hd
  have mc := a3 j c o hc ho
  have md := b3 j d o hd ho
  have lc : ∀ c ∈ css, c.length = 12 := fun c hm => by
    obtain ⟨q, hq, rfl⟩ := List.getElem_of_mem hm
    exact (a3 q css[q] ops[q] (List.getElem?_eq_getElem hq) (List.getElem?_eq_getElem (by omega))).len
  have ld : ∀ c ∈ dss, c.length = 12 := fun c hm => by
    obtain ⟨q, hq, rfl⟩ := List.getElem_of_mem hm
    exact (b3 q dss[q] ops[q] (List.getElem?_eq_getElem hq) (List.getElem?_eq_getElem (by omega))).len
  have lc1 := mc.len
  have ld1 := md.len
  have hcal := OpEq_any (mc.ev (Ev.drew0 w1)) (md.ev (Ev.drew0 w1)) (hk o hom)
  obtain ⟨ev, nv, cv, sv, ov, us, rfl, _⟩ := mc
  obtain ⟨ev', nv', cv', sv', ov', us', rfl, _⟩ := md
  refine ⟨fun w' => Ev w1.drew w', Ch.refl _ _, gIdx_sz a1 hlt' fun ad h0 _ => gLoadB_agg (opC o ev nv cv sv ov) (fun w' hw z x hz => Ch.cell hw (h0 z x (by have := (List.getElem?_eq_some_iff.1 hz).1; omega) (flat12 lc hc z x (by have := (List.getElem?_eq_some_iff.1 hz).1; omega) hz)) fun h => h)
    (gIdx_sz b1 hlt' fun ad2 k0 _ => gLoadB_agg (opC o ev' nv' cv' sv' ov') (fun w' hw z x hz => Ch.cell hw (k0 z x (by have := (List.getElem?_eq_some_iff.1 hz).1; omega) (flat12 ld hd z x (by have := (List.getElem?_eq_some_iff.1 hz).1; omega) hz)) fun h => h) (gCallV_of rfl (by kernel_rfl) hcal ?_) rfl (by kernel_rfl)) rfl (by kernel_rfl)⟩
  rintro _ w2 ⟨rfl, h2⟩
  exact ⟨_, rfl, h2, gIf_nt ⟨⟨j + 1, by rw [i64_id (by omega) (by omega)]; omega, by omega, he.trans ((Ev.drew0 w1).trans h2)⟩, by dsimp only; rw [i64_id (by omega) (by omega)]; omega⟩⟩
theorem ScriptDecodes_law {b : Value} {xs : List Int} (hb : Nm .u8 w b xs) : Calls P n_valiselaw31_ScriptDecodes #[b] w (Holds w) := by
  refine of_valiselaw31_ScriptDecodes (gLen_nm hb (gIf_dec (fun _ => gCall_b awake31_any fun w1 h1 => ⟨rfl, h1⟩) (fun hle => ?_)))
  refine gCall_v (Own_byte_any hb (by omega) (by decide)) fun i1 w1 ⟨h1, hi1⟩ => gCall_b awake31_any fun w2 h2 => gIf_t ?_
  have hI := hi1.ev h2
  have e2 : Ev w w2 := h1.trans h2
  refine gCall_v (Decode_any hI.nm (by omega)) fun v3 w3 ⟨h3, m3⟩ => gCall_v (refDecode_any (hb.ev (e2.trans h3)) (by omega)) fun v4 w4 ⟨h4, m4⟩ => ?_
  have hk := okO_ops hb.2 100 (0, 0)
  refine gCall_b (OpsEq_any (m3.ev h4) m4 hk.2 (by have := hk.1; omega)) fun w5 h5 => gIf_t ?_
  have e5 : Ev w2 w5 := h3.trans (h4.trans h5)
  exact gCall_b (Kept_byte_any (hI.ev e5) (hb.ev (e2.trans e5)) (by omega)) fun w6 h6 => ⟨rfl, e2.trans (e5.trans h6)⟩
end
end Go.Proofs.YtiimlfgjnapgjaaGreatDoorV

/- What a row hands in that lists variables: the shape of the world, too. -/
namespace Go.Proofs.YtiimlfgjnapgjaaGreatDoorV
open Go
theorem returnsInHanded_of_change_shaped {H : Type} {enc : TypeId × Value → H} {a : Assume} {C : Checked} {os : Os} {f : FuncId} {fn : Func} {s : ChangeSpec} {conds : List PathCond} {apart fresh handsOn again : Bool} {X : World → Array Value → Prop}
    (hX : ∀ (w w' : World) (args : Array Value), w.heap = w'.heap → X w args → X w' args)
    (own : ownKnob C.prog.godebug = none) (started : os.Started) (noInit : C.prog.inits.idxOf? f = none) (hfn : C.prog.funcs[f]? = some fn)
    (witness : ∃ (w : World) (tape : Tape) (i : Input), w.os = os ∧ (w.forCall tape i).Shaped C.prog ∧ i.vars = [] ∧ Input.okWide C.prog (w.forCall tape i) .any w.heap.size f i ∧
      ((s.pre enc C.prog fn conds apart (w.forCall tape i).memory i.args ∧ X (w.forCall tape i).memory i.args) ∧ sizedMet enc C.prog fn (OpenSpec.ofChange s) apart (w.forCall tape i).memory i.args) ∧ a.holds C.prog (lone (Frame.enter C.prog f i.args .normal) [] (w.forCall tape i)))
    (contract : ∀ (W : World) (base : Nat) (args : Array Value) (ds gs : List (DataW H)) (before : List MemPlace),
      (∀ (j : Nat) t v, fn.params[j]? = some t → args[j]? = some v → Value.okWide C.prog W .any base t v) →
      DataW.Whole enc C.prog fn.params.toList s.vars apart W args.toList ds gs before →
      conds.all (PathCond.test C.prog ⟨fn.params.toList, ds, s.plain.varTypes C.prog, gs⟩) = true →
      (DataW.weightsEach C.prog (fn.params.toList ++ s.plain.varTypes C.prog) (ds ++ gs)).all (· ≤ reachBytes) = true → X W args →
      a.holds C.prog (lone (Frame.enter C.prog f args .normal) [] W) → W.ShapedOpen C.prog →
      Calls C.prog f args W fun e W' => ∃ v, e = .returned v ∧ s.post enc C.prog fn apart fresh handsOn again W args v W') :
    ReturnsInHanded a C os f .any (fun w args => (s.pre enc C.prog fn conds apart w args ∧ X w args) ∧ sizedMet enc C.prog fn (OpenSpec.ofChange s) apart w args) (s.post enc C.prog fn apart fresh handsOn again) := by
  refine returnsInHanded_of_calls own started noInit witness ?_
  intro w tape i _ hsh _ hok hpre hholds
  obtain ⟨_, _, _, fn', hfn', _, _, _, _, hval⟩ := hok
  have e : fn' = fn := Option.some.inj (hfn'.symm.trans hfn)
  subst e
  obtain ⟨⟨⟨ds, gs, before, hw, hc⟩, hx⟩, hz⟩ := hpre
  have hw' := DataW.Whole.of_heap (w' := w.forCall tape i) (by rfl) hw
  refine (contract (w.forCall tape i) w.heap.size i.args ds gs before hval hw' hc (hz.weights hw) (hX _ _ _ (by rfl) hx) hholds hsh).mono fun e W' ⟨v, he, hp⟩ => ?_
  subst he
  exact ChangeSpec.post_blind hp
end Go.Proofs.YtiimlfgjnapgjaaGreatDoorV
