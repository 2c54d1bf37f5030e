import Derived.Lib.Bytealg
import Derived.Test.YtiimlfgjnapgjaaGreatDoorVPart6
set_option linter.unusedVariables false
set_option linter.unusedSimpArgs false
/- Package box: Right; chains and items, written. -/
set_option linter.unusedVariables false
set_option linter.unusedSimpArgs false
namespace Go.Proofs.YtiimlfgjnapgjaaGreatDoorV
open Go Go.RowKit
/-- Which options may be. -/
def optR (auto : Bool) (ts : List Int) (level block : Int) (locked : Bool) (ns nn rounds : Int) : Bool :=
  !decide (level < 0 ∨ level ≥ 3 ∨ block < 16 ∨ block > 65536) && (!(!rightB ts || (auto && decide (ts.length > 0))) && (if locked = true then decide (ns = 16 ∧ nn = 12 ∧ 1 ≤ rounds ∧ rounds ≤ 1000) else decide (ns = 0 ∧ nn = 0 ∧ rounds = 0)))
def tagsN (ts : List Int) : List Int := (ts.map fun t => numB (u64 t).toNat).flatten
def tagsB (ts : List Int) : List Int := numB ts.length ++ tagsN ts
theorem tagsN_app (a b : List Int) : tagsN (a ++ b) = tagsN a ++ tagsN b := by simp [tagsN]
theorem numB_10 (t : Int) : (numB (u64 t).toNat).length ≤ 10 := numB_len64 (by rw [u64_def]; omega)
theorem tagsN_len : ∀ ts : List Int, (tagsN ts).length ≤ 10 * ts.length
  | [] => by simp [tagsN]
  | t :: ts => by
    have := tagsN_len ts
    have h := numB_10 t
    have e : tagsN (t :: ts) = numB (u64 t).toNat ++ tagsN ts := by simp [tagsN]
    rw [e, List.length_append, List.length_cons]; omega
theorem tagsB_len (ts : List Int) (h : ts.length ≤ 1000000000) : (tagsB ts).length ≤ 10 * ts.length + 10 := by
  have := tagsN_len ts
  have h2 := numB_len64 (n := ts.length) (by omega)
  unfold tagsB; rw [List.length_append]; omega
/-- An item. -/
structure ItP where
  name : ByteArray
  size : Int
  sum : Int
  chain : List Int
  packed : Int
structure ItV where
  p : ItP
  cv : Value
def c5 (u : ItV) : List Value := [.string u.p.name, .int .i64 u.p.size, .int .u32 u.p.sum, u.cv, .int .i64 u.p.packed]
def cells5 (us : List ItV) : List Value := us.flatMap c5
theorem cells5_cons (u : ItV) (us : List ItV) : cells5 (u :: us) = c5 u ++ cells5 us := rfl
theorem cells5_app (a b : List ItV) : cells5 (a ++ b) = cells5 a ++ cells5 b := by simp [cells5]
theorem cells5_get : ∀ {us : List ItV} {i : Nat} {u : ItV}, us[i]? = some u → ∀ (j : Nat) (x : Value), j < 5 → (c5 u)[j]? = some x → (cells5 us)[i * 5 + j]? = some x
  | [], _, _, h, _, _, _, _ => by simp at h
  | y :: us, 0, u, h, j, x, hj, hx => by
    simp at h; subst h
    rw [cells5_cons, Nat.zero_mul, Nat.zero_add, List.getElem?_append_left (by exact hj)]; exact hx
  | y :: us, i + 1, u, h, j, x, hj, hx => by
    have h2 := cells5_get (us := us) (i := i) (u := u) (by simpa using h) j x hj hx
    rw [cells5_cons, show (i + 1) * 5 + j = 5 + (i * 5 + j) by omega, List.getElem?_append_right (by show 5 ≤ _; omega)]
    rw [show 5 + (i * 5 + j) - (c5 y).length = i * 5 + j by show 5 + (i * 5 + j) - 5 = _; omega]; exact h2
def Is (w : World) (v : Value) (us : List ItV) : Prop := Sl w 5 v us.length (cells5 us) ∧ ∀ u ∈ us, Nm .i64 w u.cv u.p.chain
theorem Is.ev {w w' : World} {v : Value} {us : List ItV} (h : Is w v us) (he : Ev w w') : Is w' v us := ⟨h.1.ev he, fun u hu => (h.2 u hu).ev he⟩
/-- Items, as bytes. -/
def itB (p : ItP) : List Int := numB p.name.size ++ sOf p.name ++ numB (u64 p.size).toNat ++ littleB (u64 p.sum) 4 ++ tagsB p.chain ++ numB (u64 p.packed).toNat
def itemsN (ps : List ItP) : List Int := (ps.map itB).flatten
def itemsB (ps : List ItP) : List Int := numB ps.length ++ itemsN ps
theorem itemsN_app (a b : List ItP) : itemsN (a ++ b) = itemsN a ++ itemsN b := by simp [itemsN]
def okP (p : ItP) : Prop := p.name.size ≤ 4096 ∧ p.chain.length ≤ 10
theorem itB_len {p : ItP} (h : okP p) : (itB p).length ≤ 5000 := by
  have h1 := numB_len64 (n := p.name.size) (by have := h.1; omega)
  have h2 := tagsB_len p.chain (by have := h.2; omega)
  have h3 := numB_10 p.size
  have h4 := numB_10 p.packed
  have := h.1
  have := h.2
  unfold itB
  simp only [List.length_append, sOf_len, littleB_len]
  omega
theorem itemsN_len : ∀ {ps : List ItP}, (∀ p ∈ ps, okP p) → (itemsN ps).length ≤ 5000 * ps.length
  | [], _ => by simp [itemsN]
  | p :: ps, h => by
    have := itemsN_len (ps := ps) fun q hq => h q (by simp [hq])
    have h2 := itB_len (h p (by simp))
    have e : itemsN (p :: ps) = itB p ++ itemsN ps := by simp [itemsN]
    rw [e, List.length_append, List.length_cons]; omega
theorem set_set' {α : Type} (l : List α) (i : Nat) (a b : α) : (l.set i a).set i b = l.set i b := List.set_set ..
theorem get_set' {α : Type} {l : List α} {i : Nat} {x : α} (h : l[i]? = some x) (a : α) : (l.set i a)[i]? = some a := by
  have := (List.getElem?_eq_some_iff.1 h).1
  rw [List.getElem?_set]; simp [this]
theorem erase_set' {α : Type} : ∀ (l : List α) (i : Nat) (a : α), (l.set i a).eraseIdx i = l.eraseIdx i
  | [], _, _ => rfl
  | _ :: _, 0, _ => rfl
  | x :: l, i + 1, a => by show x :: (l.set i a).eraseIdx i = x :: l.eraseIdx i; rw [erase_set' l i a]
section
variable {w0 w : World} {F : List It}
theorem gIdx_It {i : Int} {ki : IntKind} {v : Value} {us : List ItV} {j : Nat} {u : ItV} {K : Addr → Prop} (h : Is w v us) (hij : i = (j : Int)) (hu : us[j]? = some u) (hk : ∀ ad, (∀ z x, (c5 u)[z]? = some x → w.cell? (ad.add z) = some x) → K ad) : gIdx P t_sl_api_Item v (.int ki i) K := by
  subst hij
  refine gIdx_sz h.1 (List.getElem?_eq_some_iff.1 hu).1 (fun ad hc _ => hk ad fun z x hx => hc z x ?_ (cells5_get hu z x ?_ hx))
  · exact (List.getElem?_eq_some_iff.1 hx).1
  · exact (List.getElem?_eq_some_iff.1 hx).1
theorem BRight_any {auto locked : Bool} {cv sv nv : Value} {level block rounds : Int} {ts ss ns : List Int} (hc : Nm .i64 w cv ts) (hs : Nm .u8 w sv ss) (hn : Nm .u8 w nv ns) (hl : ts.length ≤ 1000000000) :
    Calls P n_box_Right #[.agg #[.bool auto, cv, .int .i64 level, .int .i64 block, .bool locked, sv, nv, .int .i64 rounds]] w (fun e w' => e = .returned (.bool (optR auto ts level block locked ss.length ns.length rounds)) ∧ Ev w w') := by
  have no1 : (level < 0 ∨ level ≥ 3 ∨ block < 16 ∨ block > 65536) → optR auto ts level block locked ss.length ns.length rounds = false := fun h => by unfold optR; rw [decide_eq_true h]; rfl
  refine of_box_Right (fBox (Fr.start w) fun ad w1 f1 => ⟨fun w' => Fr w w' [sIt ad [.bool auto, cv, .int .i64 level, .int .i64 block, .bool locked, sv, nv, .int .i64 rounds]] ∧ optR auto ts level block locked ss.length ns.length rounds = decide (ss.length = 0 ∧ ns.length = 0 ∧ rounds = 0), ⟨fun b w' => w' = w1 ∧ b = decide (level < 0 ∨ level ≥ 3 ∨ block < 16 ∨ block > 65536), ?_, ?_⟩, ?_⟩)
  · refine fLoad_i f1 0 2 rfl rfl (gIf_ndec (fun h1 => fLoad_i f1 0 2 rfl rfl (gIf_ndec (fun h2 => fLoad_i f1 0 3 rfl rfl (gIf_ndec (fun h3 => fLoad_i f1 0 3 rfl rfl ⟨rfl, ?_⟩) (fun h3 => ⟨rfl, ?_⟩))) (fun h2 => ⟨rfl, ?_⟩))) (fun h1 => ⟨rfl, ?_⟩))
    · exact decide_eq_decide.2 (by omega)
    · rw [decide_eq_true (by omega)]
    · rw [decide_eq_true (by omega)]
    · rw [decide_eq_true (by omega)]
  · rintro _ b w2 ⟨hw2, rfl⟩
    obtain rfl : w1 = w2 := hw2.symm
    refine gIf_dec (fun hb => ⟨by rw [no1 hb], f1.old⟩) (fun hb => ?_)
    have e1 : optR auto ts level block locked ss.length ns.length rounds = (!(!rightB ts || (auto && decide (ts.length > 0))) && (if locked = true then decide ((ss.length : Int) = 16 ∧ (ns.length : Int) = 12 ∧ 1 ≤ rounds ∧ rounds ≤ 1000) else decide ((ss.length : Int) = 0 ∧ (ns.length : Int) = 0 ∧ rounds = 0))) := by
      unfold optR; rw [decide_eq_false hb]; rfl
    refine ⟨fun b w' => Fr w w' [sIt ad [.bool auto, cv, .int .i64 level, .int .i64 block, .bool locked, sv, nv, .int .i64 rounds]] ∧ b = (!rightB ts || (auto && decide (ts.length > 0))), ?_, ?_⟩
    · refine fLoad_v f1 0 1 rfl rfl (gCall_b (cRight_any (hc.ev f1.old) hl) fun w3 h3 => ?_)
      have f3 := f1.ev h3
      refine gIf_nnb (fun hr => fLoad_b f3 0 0 rfl rfl ?_) (fun hr => ⟨f3, by rw [hr]; rfl⟩)
      refine gIf_b (fun ha => fLoad_v f3 0 1 rfl rfl (gLen_nm (hc.ev f3.old) ⟨f3, ?_⟩)) (fun ha => ⟨f3, by rw [hr, ha]; rfl⟩)
      rw [hr, ha]
      exact decide_eq_decide.2 (by omega)
    · rintro _ b w3 ⟨f3, hb3⟩
      rw [← hb3] at e1
      cases b with
      | true => exact gIf_t ⟨by rw [e1]; rfl, f3.old⟩
      | false =>
        refine gIf_f (fLoad_b f3 0 4 rfl rfl ?_)
        cases locked with
        | false => exact gIf_f ⟨f3, by rw [e1]; simp only [Bool.not_false, Bool.true_and]; rw [if_neg (by decide)]; exact decide_eq_decide.2 (by omega)⟩
        | true =>
          rw [show (!false) = true from rfl, Bool.true_and, if_pos rfl] at e1
          refine gIf_t (fLoad_v f3 0 5 rfl rfl (gLen_nm (hs.ev f3.old) (gIf_eq (fun h1 => fLoad_v f3 0 6 rfl rfl (gLen_nm (hn.ev f3.old) (gIf_eq (fun h2 => fLoad_i f3 0 7 rfl rfl (gIf_dec (fun h3 => fLoad_i f3 0 7 rfl rfl ⟨?_, f3.old⟩) (fun h3 => ⟨?_, f3.old⟩))) (fun h2 => ⟨?_, f3.old⟩)))) (fun h1 => ⟨?_, f3.old⟩))))
          · rw [e1]; congr 2; exact decide_eq_decide.2 (by omega)
          · rw [e1, decide_eq_false (by omega)]
          · rw [e1, decide_eq_false (by omega)]
          · rw [e1, decide_eq_false (by omega)]
  · rintro _ w5 ⟨f5, e5⟩
    refine fLoad_v f5 0 5 rfl rfl (gLen_nm (hs.ev f5.old) (gIf_eq (fun h1 => fLoad_v f5 0 6 rfl rfl (gLen_nm (hn.ev f5.old) (gIf_eq (fun h2 => fLoad_i f5 0 7 rfl rfl ⟨?_, f5.old⟩) (fun h2 => ⟨?_, f5.old⟩)))) (fun h1 => ⟨?_, f5.old⟩)))
    · rw [e5]; congr 2; show decide (rounds = 0) = _; exact decide_eq_decide.2 (by omega)
    · rw [e5, decide_eq_false (by omega)]
    · rw [e5, decide_eq_false (by omega)]
/-! ### What is written -/
theorem fNumU {ad : Addr} {v : Value} {xs : List Int} {n : Int} {K : World → Prop} (f : Fr w0 w F) (i : Nat) (hi : F[i]? = some (wIt eB ad v xs)) (hl : xs.length + 10 ≤ 10000000000)
    (hk : ∀ v' w', Fr w0 w' (F.set i (wIt eB ad v' (xs ++ numB (u64 n).toNat))) → K w') : gCall P n_num_Writer_Num shU #[.pointer (some ad), .int .u64 (u64 n)] w K :=
  fNum f i hi (by rw [u64_def]; omega) hl hk
theorem wtags_any {ad : Addr} {v lv : Value} {xs ts : List Int} (f : Fr w0 w F) (i : Nat) (hi : F[i]? = some (wIt eB ad v xs)) (hn : ∀ w', Fr w0 w' (F.eraseIdx i) → Nm .i64 w' lv ts) (hl : xs.length + 10 * ts.length + 20 ≤ 10000000000) :
    Calls P n_box_writer_tags #[.pointer (some ad), lv] w (fun e w' => e = .returned (.tuple #[]) ∧ ∃ v', Fr w0 w' (F.set i (wIt eB ad v' (xs ++ tagsB ts)))) := by
  refine of_box_writer_tags (gNil_some (gLen_nm (hn w (f.drop i)) ?_))
  rw [Addr.add_zero', show u64 (ts.length : Int) = (ts.length : Int) by rw [u64_def]; omega]
  have l10 := numB_len64 (n := ts.length) (by omega)
  refine fNum f i hi (by omega) (by omega) fun v1 w1 f1 => gLen_nm (hn w1 (by have := f1.drop i; rwa [erase_set'] at this)) ?_
  rw [Int.toNat_natCast] at f1
  refine ⟨fun t w' => ∃ (j : Nat) (v' : Value), t = j ∧ j ≤ ts.length ∧ Fr w0 w' (F.set i (wIt eB ad v' (xs ++ numB ts.length ++ tagsN (ts.take j)))), fun t _ => (ts.length - t).toNat, ⟨0, v1, rfl, by omega, by rw [List.take_zero]; show Fr w0 w1 (F.set i (wIt eB ad v1 (xs ++ numB ts.length ++ []))); rw [List.append_nil]; exact f1⟩, ?_⟩
  rintro _ t w2 ⟨j, v2, rfl, hj, f2⟩
  have hN : Nm .i64 w2 lv ts := hn w2 (by have := f2.drop i; rwa [erase_set'] at this)
  refine gIf_dec (fun hlt => gGet hN (by omega) (by omega) (gNil_some ?_)) (fun hge => ?_)
  · have hlt' : j < ts.length := by omega
    have htk : ts.take (j + 1) = ts.take j ++ [rd ts (j : Int)] := by rw [List.take_succ_eq_append_getElem hlt', ← rd_nat ts j hlt']
    have hl2 := tagsN_len (ts.take j)
    rw [List.length_take] at hl2
    rw [Addr.add_zero']
    refine fNumU f2 i (get_set' hi _) (by simp only [List.length_append]; omega) fun v3 w3 f3 => ⟨⟨j + 1, v3, by rw [i64_id (by omega) (by omega)]; omega, by omega, ?_⟩, by dsimp only; rw [i64_id (by omega) (by omega)]; omega⟩
    rw [set_set'] at f3
    rw [htk, tagsN_app]
    have e : tagsN [rd ts (j : Int)] = numB (u64 (rd ts (j : Int))).toNat := by simp [tagsN]
    rw [e, ← List.append_assoc]; exact f3
  · obtain rfl : j = ts.length := by omega
    rw [List.take_length] at f2
    refine ⟨rfl, v2, ?_⟩
    unfold tagsB; rw [← List.append_assoc]; exact f2
theorem fLittleW {ad : Addr} {v : Value} {xs : List Int} {z n : Int} {K : World → Prop} (f : Fr w0 w F) (i : Nat) (hi : F[i]? = some (wIt eB ad v xs)) (hz : 0 ≤ z ∧ z < 18446744073709551616) (hl : xs.length + 10 ≤ 10000000000)
    (hk : ∀ v' w', Fr w0 w' (F.set i (wIt eB ad v' (xs ++ littleB z (clN n)))) → K w') : gCall P n_num_Writer_Little shU #[.pointer (some ad), .int .u64 z, .int .i64 n] w K :=
  gCall_u (Little_any (f.get i hi) hz hl) fun w' ⟨v', hw⟩ => hk v' w' (f.wr i hi hw)
theorem witems_any {ad : Addr} {v lv : Value} {xs : List Int} {us : List ItV} (f : Fr w0 w F) (i : Nat) (hi : F[i]? = some (wIt eB ad v xs)) (hn : ∀ w', Fr w0 w' (F.eraseIdx i) → Is w' lv us) (hp : ∀ p ∈ us.map ItV.p, okP p) (hus : us.length ≤ 100000) (hl : xs.length ≤ 1000000000) :
    Calls P n_box_writer_items #[.pointer (some ad), lv] w (fun e w' => e = .returned (.tuple #[]) ∧ ∃ v', Fr w0 w' (F.set i (wIt eB ad v' (xs ++ itemsB (us.map ItV.p))))) := by
  refine of_box_writer_items (gNil_some (gLen_slv (hn w (f.drop i)).1 ?_))
  rw [Addr.add_zero', show u64 (us.length : Int) = (us.length : Int) by rw [u64_def]; omega]
  have l10 := numB_len64 (n := us.length) (by omega)
  refine fNum f i hi (by omega) (by omega) fun v1 w1 f1 => gLen_slv (hn w1 (by have := f1.drop i; rwa [erase_set'] at this)).1 ?_
  rw [Int.toNat_natCast] at f1
  refine ⟨fun t w' => ∃ (j : Nat) (v' : Value), t = j ∧ j ≤ us.length ∧ Fr w0 w' (F.set i (wIt eB ad v' (xs ++ numB us.length ++ itemsN ((us.take j).map ItV.p)))), fun t _ => (us.length - t).toNat, ⟨0, v1, rfl, by omega, by rw [List.take_zero]; show Fr w0 w1 (F.set i (wIt eB ad v1 (xs ++ numB us.length ++ []))); rw [List.append_nil]; exact f1⟩, ?_⟩
  rintro _ t w2 ⟨j, v2, rfl, hj, f2⟩
  have hI : Is w2 lv us := hn w2 (by have := f2.drop i; rwa [erase_set'] at this)
  refine gIf_dec (fun hlt => ?_) (fun hge => ?_)
  · have hlt' : j < us.length := by omega
    have hu := List.getElem?_eq_getElem hlt'
    have hmu : us[j] ∈ us := List.getElem_mem hlt'
    have tu : us.take (j + 1) = us.take j ++ [us[j]] := List.take_succ_eq_append_getElem hlt'
    generalize us[j] = u at hu hmu tu
    have hok : okP u.p := hp u.p (List.mem_map.2 ⟨u, hmu, rfl⟩)
    have hlen := itemsN_len (ps := (us.take j).map ItV.p) fun p hpp => hp p (by obtain ⟨q, hq, rfl⟩ := List.mem_map.1 hpp; exact List.mem_map.2 ⟨q, List.mem_of_mem_take hq, rfl⟩)
    rw [List.length_map, List.length_take] at hlen
    obtain ⟨Y, hY⟩ : ∃ Y, Y = xs ++ numB us.length ++ itemsN ((us.take j).map ItV.p) := ⟨_, rfl⟩
    have hYl : Y.length ≤ 2000000000 := by rw [hY]; simp only [List.length_append]; omega
    rw [← hY] at f2
    have hn4 := hok.1
    have hc4 := hok.2
    have hcv := (hI.2 u hmu).oc
    refine gIdx_It hI rfl hu fun ia hcell => gLoad_agg (c5 u) hcell ?_ rfl (by kernel_rfl)
    refine fAlloc (z := .agg #[.string ⟨#[]⟩, .int .i64 0, .int .u32 0, .slice none 0 0, .int .i64 0]) f2 (by kernel_rfl) fun x5 w3 f3 => fStoreA f3 0 rfl (fun w4 f4 => ?_) rfl (fun x hx => ?_)
    · have f4 : Fr w0 w4 (sIt x5 (c5 u) :: F.set i (wIt eB ad v2 Y)) := f4
      have hB : ∀ {w' : World} {v' : Value} {Z : List Int}, Fr w0 w' (sIt x5 (c5 u) :: F.set i (wIt eB ad v' Z)) → ∀ z y, (c5 u)[z]? = some y → w'.cell? (x5.add z) = some y := fun hf z y hy => hf.cell 0 z rfl hy
      have hgi : ∀ (v' : Value) (Z : List Int), (sIt x5 (c5 u) :: F.set i (wIt eB ad v' Z))[i + 1]? = some (wIt eB ad v' Z) := fun v' Z => by rw [List.getElem?_cons_succ]; exact get_set' hi _
      have hse : ∀ (v' v'' : Value) (Z Z' : List Int), (sIt x5 (c5 u) :: F.set i (wIt eB ad v' Z)).set (i + 1) (wIt eB ad v'' Z') = sIt x5 (c5 u) :: F.set i (wIt eB ad v'' Z') := fun v' v'' Z Z' => by rw [List.set_cons_succ, set_set']
      refine ⟨fun w' => ∀ z y, (c5 u)[z]? = some y → w'.cell? (x5.add z) = some y, hB f4.drew, gNil_some (gLoadB_s (fun w' hw => hw 0 _ rfl) ?_)⟩
      rw [Addr.add_zero']
      refine fConvStr f4.drew (by omega) fun t24 w5 hk5 f5 => ⟨fun z y hy => f5.cell 1 z rfl hy, ?_⟩
      refine fTextW (xs := Y) (ys := sOf u.p.name) f5 (i + 2) (by rw [List.getElem?_cons_succ]; exact hgi _ _) (fun w' hf => Tx.nm (hf.get 0 rfl)) (by rw [sOf_len]; omega) fun v6 w6 f6 => ?_
      rw [List.set_cons_succ, hse, sOf_len] at f6
      have f6 : Fr w0 w6 (sIt x5 (c5 u) :: F.set i (wIt eB ad v6 (Y ++ numB u.p.name.size ++ sOf u.p.name))) := f6.drop 0
      refine ⟨hB f6, fun w' => ∀ z y, (c5 u)[z]? = some y → w'.cell? (x5.add z) = some y, hB f6.drew, gNil_some (gLoadB_i (fun w' hw => hw 1 _ rfl) ?_)⟩
      have ln := numB_len64 (n := u.p.name.size) (by omega)
      have l2 := numB_10 u.p.size
      have l3 := tagsB_len u.p.chain (by omega)
      rw [Addr.add_zero']
      refine fNumU f6.drew (i + 1) (hgi _ _) (by simp only [List.length_append, sOf_len]; omega) fun v7 w7 f7 => ?_
      rw [hse] at f7
      refine ⟨hB f7, fun w' => ∀ z y, (c5 u)[z]? = some y → w'.cell? (x5.add z) = some y, hB f7.drew, gNil_some (gLoadB_i (fun w' hw => hw 2 _ rfl) ?_)⟩
      rw [Addr.add_zero']
      refine fLittleW (n := 4) f7.drew (i + 1) (hgi _ _) (by rw [u64_def]; omega) (by simp only [List.length_append, sOf_len]; omega) fun v8 w8 f8 => ?_
      rw [hse, show clN 4 = 4 from rfl] at f8
      refine ⟨hB f8, fLoad_v f8 0 3 rfl rfl (gCall_u (wtags_any (ts := u.p.chain) f8 (i + 1) (hgi _ _) (fun w' hf => ?_) (by simp only [List.length_append, sOf_len, littleB_len]; omega)) fun w9 ⟨v9, f9⟩ => ?_)⟩
      · rw [List.eraseIdx_cons_succ, erase_set'] at hf
        exact (hn w' (hf.drop 0)).2 u hmu
      rw [hse] at f9
      refine ⟨fun w' => ∀ z y, (c5 u)[z]? = some y → w'.cell? (x5.add z) = some y, hB f9.drew, gNil_some (gLoadB_i (fun w' hw => hw 4 _ rfl) ?_)⟩
      rw [Addr.add_zero']
      refine fNumU f9.drew (i + 1) (hgi _ _) (by simp only [List.length_append, sOf_len, littleB_len]; omega) fun v10 w10 f10 => ?_
      rw [hse] at f10
      refine ⟨hB f10, ⟨j + 1, v10, by rw [i64_id (by omega) (by omega)]; omega, by omega, ?_⟩, by dsimp only; rw [i64_id (by omega) (by omega)]; omega⟩
      have e : xs ++ numB us.length ++ itemsN ((us.take (j + 1)).map ItV.p) = Y ++ numB u.p.name.size ++ sOf u.p.name ++ numB (u64 u.p.size).toNat ++ littleB (u64 u.p.sum) 4 ++ tagsB u.p.chain ++ numB (u64 u.p.packed).toNat := by
        rw [tu, List.map_append, itemsN_app, hY]
        have e1 : itemsN ([u].map ItV.p) = itB u.p := by simp [itemsN]
        rw [e1]; unfold itB; simp only [List.append_assoc]
      rw [e]; exact f10.drop 0
    · simp at hx; rcases hx with rfl | rfl | rfl | rfl | rfl
      · rfl
      · rfl
      · rfl
      · exact hcv
      · rfl
  · obtain rfl : j = us.length := by omega
    rw [List.take_length] at f2
    refine ⟨rfl, v2, ?_⟩
    unfold itemsB; rw [List.length_map, ← List.append_assoc]; exact f2
end
end Go.Proofs.YtiimlfgjnapgjaaGreatDoorV

/- Package crc: the sum of bytes, by a table and bit by bit. -/
set_option linter.unusedVariables false
set_option linter.unusedSimpArgs false
namespace Go.Proofs.YtiimlfgjnapgjaaGreatDoorV
open Go Go.RowKit
/-- One bit of the remainder. -/
def cStep (s : Nat) : Nat := if s % 2 = 1 then s / 2 ^^^ 3988292384 else s / 2
def crIt : Nat → Nat → Nat
  | 0, s => s
  | k + 1, s => cStep (crIt k s)
theorem cStep_xor (a b : Nat) : cStep (a ^^^ b) = cStep a ^^^ cStep b := by
  unfold cStep
  have hm : (a ^^^ b) % 2 = 1 ↔ ¬ (a % 2 = 1 ↔ b % 2 = 1) := Nat.xor_mod_two_eq_one
  rw [Nat.xor_div_two]
  by_cases h1 : a % 2 = 1 <;> by_cases h2 : b % 2 = 1
  · rw [if_neg (by rw [hm]; simp [h1, h2]), if_pos h1, if_pos h2, show a / 2 ^^^ 3988292384 ^^^ (b / 2 ^^^ 3988292384) = (a / 2 ^^^ b / 2) ^^^ (3988292384 ^^^ 3988292384) by rw [Nat.xor_assoc, Nat.xor_assoc, ← Nat.xor_assoc 3988292384, Nat.xor_comm 3988292384 (b / 2), Nat.xor_assoc], Nat.xor_self, Nat.xor_zero]
  · rw [if_pos (by rw [hm]; simp [h1, h2]), if_pos h1, if_neg h2, Nat.xor_assoc, Nat.xor_assoc, Nat.xor_comm (b / 2)]
  · rw [if_pos (by rw [hm]; simp [h1, h2]), if_neg h1, if_pos h2, Nat.xor_assoc]
  · rw [if_neg (by rw [hm]; simp [h1, h2]), if_neg h1, if_neg h2]
theorem crIt_xor (a b : Nat) : ∀ k, crIt k (a ^^^ b) = crIt k a ^^^ crIt k b
  | 0 => rfl
  | k + 1 => by rw [crIt, crIt_xor a b k, cStep_xor]; rfl
theorem cStep_even {s : Nat} (h : s % 2 = 0) : cStep s = s / 2 := by unfold cStep; rw [if_neg (by omega)]
theorem crIt_high (y : Nat) : ∀ k d : Nat, crIt k (y * 2 ^ (k + d)) = y * 2 ^ d
  | 0, d => by rw [Nat.zero_add]; rfl
  | k + 1, d => by
    rw [crIt, show k + 1 + d = k + (d + 1) by omega, crIt_high y k (d + 1), Nat.pow_succ, ← Nat.mul_assoc, cStep_even (by omega)]
    omega
theorem xor_split (x : Nat) : x = x / 256 * 256 ^^^ x % 256 := by
  apply Nat.eq_of_testBit_eq
  intro i
  rw [Nat.testBit_xor, show (256 : Nat) = 2 ^ 8 from rfl, Nat.testBit_mod_two_pow, Nat.testBit_mul_two_pow, Nat.testBit_div_two_pow]
  by_cases h : i < 8
  · rw [decide_eq_false (show ¬ 8 ≤ i by omega), decide_eq_true h]; simp
  · rw [decide_eq_true (show 8 ≤ i by omega), decide_eq_false h, show i - 8 + 8 = i by omega]; simp
theorem crIt8 (x : Nat) : crIt 8 x = x / 256 ^^^ crIt 8 (x % 256) := by
  conv => lhs; rw [xor_split x, crIt_xor]
  rw [show (256 : Nat) = 2 ^ (8 + 0) from rfl, crIt_high, Nat.pow_zero, Nat.mul_one]
theorem cStep_lt {s : Nat} (h : s < 4294967296) : cStep s < 4294967296 := by
  unfold cStep
  split
  · exact Nat.xor_lt_two_pow (n := 32) (by omega) (by decide)
  · omega
theorem crIt_lt {s : Nat} (h : s < 4294967296) : ∀ k, crIt k s < 4294967296
  | 0 => h
  | k + 1 => cStep_lt (crIt_lt h k)
/-- The remainder behind bytes. -/
def cByte (v x : Nat) : Nat := crIt 8 (v ^^^ x)
def cRun (v : Nat) (xs : List Int) : Nat := xs.foldl (fun v x => cByte v x.toNat) v
theorem cRun_cons (v : Nat) (x : Int) (xs : List Int) : cRun v (x :: xs) = cRun (cByte v x.toNat) xs := by simp only [cRun, List.foldl_cons]
def cAdd (sum : Nat) (xs : List Int) : Nat := cRun (sum ^^^ 4294967295) xs ^^^ 4294967295
def cSum (xs : List Int) : Int := ((cAdd 0 xs : Nat) : Int)

theorem cRun_app (v : Nat) (xs ys : List Int) : cRun v (xs ++ ys) = cRun (cRun v xs) ys := by unfold cRun; rw [List.foldl_append]
theorem cRun_lt : ∀ (xs : List Int) (v : Nat), inR .u8 xs → v < 4294967296 → cRun v xs < 4294967296
  | [], v, _, h => h
  | x :: xs, v, hx, h => by
    rw [cRun_cons]
    refine cRun_lt xs _ (fun y hy => hx y (List.mem_cons_of_mem _ hy)) (crIt_lt ?_ 8)
    have := hx.u8 (x := x) (by simp)
    exact Nat.xor_lt_two_pow (n := 32) (by omega) (by omega)
theorem cAdd_lt {s : Nat} {xs : List Int} (hx : inR .u8 xs) (h : s < 4294967296) : cAdd s xs < 4294967296 := by
  unfold cAdd
  exact Nat.xor_lt_two_pow (n := 32) (cRun_lt xs _ hx (Nat.xor_lt_two_pow (n := 32) (by omega) (by decide))) (by decide)
theorem cSum_rng {xs : List Int} (hx : inR .u8 xs) : 0 ≤ cSum xs ∧ cSum xs < 4294967296 := by
  have := cAdd_lt (s := 0) hx (by decide)
  unfold cSum; omega
def crcT : List Int := (List.range 256).map fun i => ((crIt 8 i : Nat) : Int)
theorem crcT_len : crcT.length = 256 := by unfold crcT; rw [List.length_map, List.length_range]
theorem crcT_rd {j : Nat} (h : j < 256) : rd crcT (j : Int) = ((crIt 8 j : Nat) : Int) := by
  rw [rd_nat crcT j (by rw [crcT_len]; exact h)]
  unfold crcT
  rw [List.getElem_map, List.getElem_range]
theorem crcT_step {j : Nat} (h : j < 256) : (crcT.take j ++ List.replicate (256 - j) 0).set j ((crIt 8 j : Nat) : Int) = crcT.take (j + 1) ++ List.replicate (256 - (j + 1)) 0 := by
  have hl : (crcT.take j).length = j := by rw [List.length_take, crcT_len]; omega
  have hj : j < crcT.length := by rw [crcT_len]; exact h
  rw [List.take_succ_eq_append_getElem hj, ← rd_nat crcT j hj, crcT_rd h, List.set_append_right _ _ (by rw [hl]; exact Nat.le_refl _), hl, Nat.sub_self, show 256 - j = (256 - (j + 1)) + 1 by omega, List.replicate_succ, List.set_cons_zero, List.append_assoc]
  rfl
theorem xor_u32 {a b : Nat} (ha : a < 4294967296) (hb : b < 4294967296) : iXor .u32 (a : Int) (b : Int) = ((a ^^^ b : Nat) : Int) := iXor_nat rfl ha hb
theorem crShr1 (a : Nat) : iShr .u32 (a : Int) 1 = ((a / 2 : Nat) : Int) := by
  have := iShr_div (k := .u32) (a := (a : Int)) (n := 1) (by decide) (by omega)
  exact this
theorem crShr8 (a : Nat) : iShr .u32 (a : Int) 8 = ((a / 256 : Nat) : Int) := by
  have := iShr_div (k := .u32) (a := (a : Int)) (n := 8) (by decide) (by omega)
  exact this
theorem zero256u : (Value.agg (Array.replicate 256 (.int .u32 0))).cells.toList = List.replicate 256 (.int .u32 0) := Array.toList_replicate
theorem cStep_i {v : Nat} (hv : v < 4294967296) : ((iAnd .u32 (v : Int) 1) = 0 → iShr .u32 (v : Int) 1 = ((cStep v : Nat) : Int)) ∧ ((iAnd .u32 (v : Int) 1) ≠ 0 → iXor .u32 (iShr .u32 (v : Int) 1) 3988292384 = ((cStep v : Nat) : Int)) := by
  have h1 : iAnd .u32 (v : Int) 1 = ((v % 2 : Nat) : Int) := by
    have := iAnd_mask (k := .u32) (a := (v : Int)) (m := 1) (n := 1) rfl (by omega) (by show (v : Int) < 4294967296; omega) (by decide) (by decide)
    exact this
  have h2 : iShr .u32 (v : Int) 1 = ((v / 2 : Nat) : Int) := crShr1 v
  refine ⟨fun h => ?_, fun h => ?_⟩
  · rw [h2]; unfold cStep; rw [if_neg (by omega)]
  · rw [h2]; unfold cStep; rw [if_pos (by omega)]
    exact xor_u32 (b := 3988292384) (by omega) (by decide)
section
variable {w0 w : World} {F : List It} {xs : List Int}
set_option maxRecDepth 20000 in
theorem Table_any : Calls P n_crc_Table #[] w (fun e w' => e = .returned (.agg (crcT.map (.int .u32)).toArray) ∧ Ev w w') := by
  have hkl := crcT_len
  refine of_crc_Table (fAlloc (z := .agg (Array.replicate 256 (.int .u32 0))) (Fr.start w) (by kernel_rfl) fun t0 w1 f1 => fAlloc (z := .agg (Array.replicate 256 (.int .u32 0))) f1 (by kernel_rfl) fun t1 w2 f2 => ?_)
  rw [zero256u] at f2
  have e0 : List.replicate 256 (Value.int .u32 0) = (((crcT.take 0) ++ List.replicate (256 - 0) 0).map (.int .u32)) := by rw [List.take_zero, List.nil_append, List.map_replicate]
  refine ⟨fun i w' => ∃ j : Nat, i = j ∧ j ≤ 256 ∧ Fr w w' [sIt t1 (((crcT.take j) ++ List.replicate (256 - j) 0).map (.int .u32)), sIt t0 (List.replicate 256 (.int .u32 0))], fun i _ => 256 - i.toNat, ?_, ?_⟩
  · refine ⟨0, rfl, by omega, ?_⟩
    rw [← e0]; exact f2
  rintro _ i w3 ⟨j, rfl, hj, f3⟩
  refine gIf_dec (fun hlt => ?_) (fun hge => ?_)
  · have hlt' : j < 256 := by omega
    refine ⟨fun v k w' => ∃ q : Nat, k = q ∧ q ≤ 8 ∧ v = ((crIt q j : Nat) : Int) ∧ w' = w3, fun _ k _ => 8 - k.toNat, ⟨0, rfl, by omega, by rw [u32_def]; unfold crIt; omega, rfl⟩, ?_⟩
    rintro _ v k _ ⟨q, rfl, hq, rfl, rfl⟩
    have hs := cStep_i (crIt_lt (s := j) (by omega) q)
    refine gIf_dec (fun hq2 => gIf_neq (fun h0 => ?_) (fun h0 => ?_)) (fun hq2 => ?_)
    · rw [hs.2 h0]
      exact ⟨⟨q + 1, by rw [i64_id (by omega) (by omega)]; omega, by omega, rfl, rfl⟩, by dsimp only; rw [i64_id (by omega) (by omega)]; omega⟩
    · rw [hs.1 h0]
      exact ⟨⟨q + 1, by rw [i64_id (by omega) (by omega)]; omega, by omega, rfl, rfl⟩, by dsimp only; rw [i64_id (by omega) (by omega)]; omega⟩
    · have hq8 : q = 8 := by omega
      subst hq8
      rw [i64_id (n := (j : Int) + 1) (by omega) (by omega)]
      refine gIdx_ar1 256 j rfl hlt' (fStore f3 0 j rfl (fun w5 f5 => ⟨⟨j + 1, by omega, by omega, ?_⟩, by dsimp only; omega⟩) (by simp [hkl]; omega))
      have e2 : ((crcT.take (j + 1)) ++ List.replicate (256 - (j + 1)) 0).map (Value.int .u32) = (((crcT.take j) ++ List.replicate (256 - j) 0).map (Value.int .u32)).set j (.int .u32 ((crIt 8 j : Nat) : Int)) := by
        rw [← List.map_set, crcT_step hlt']
      rw [e2]; exact f5
  · have : j = 256 := by omega
    subst this
    rw [List.take_of_length_le (by rw [hkl]; exact Nat.le_refl _), Nat.sub_self, List.replicate_zero, List.append_nil] at f3
    have h64 : (crcT.map (Value.int .u32)).length = 256 := by rw [List.length_map, hkl]
    refine fLoadArr f3 0 rfl ?_ (by rw [h64]; kernel_rfl)
    refine fStoreA f3 1 rfl (fun w5 f5 => ?_) (by simp [hkl]) (fun u hu => by obtain ⟨x, _, rfl⟩ := List.mem_map.1 hu; rfl) (by rw [List.size_toArray, h64]; kernel_rfl)
    refine fLoadArr f5 1 rfl ⟨?_, f5.old⟩ (by simp only [List.length_map, hkl]; kernel_rfl)
    simp
set_option maxRecDepth 20000 in
theorem cAdd_any {s : Nat} {b : Value} (hs : s < 4294967296) (hb : Nm .u8 w b xs) (hl : xs.length ≤ 1000000000) : Calls P n_crc_Add #[.int .u32 (s : Int), b] w (fun e w' => e = .returned (.int .u32 ((cAdd s xs : Nat) : Int)) ∧ Ev w w') := by
  have hkl : (crcT.map (Value.int .u32)).length = 256 := by rw [List.length_map, crcT_len]
  refine of_crc_Add (gCall_of Table_any ?_)
  rintro _ w1 ⟨rfl, h1⟩
  refine ⟨_, rfl, fAlloc (z := .agg (Array.replicate 256 (.int .u32 0))) ((Fr.start w).ev h1) (by kernel_rfl) fun t5 w2 f2 => ?_⟩
  rw [zero256u] at f2
  refine fStoreA f2 0 rfl (fun w3 f3 => ?_) (by simp [crcT_len]) (fun u hu => by obtain ⟨x, _, rfl⟩ := List.mem_map.1 hu; rfl) (by rw [List.size_toArray, hkl]; kernel_rfl)
  have f3' : Fr w w3 [sIt t5 (crcT.map (Value.int .u32))] := f3
  refine gLen_nm (hb.ev f3'.old) ⟨fun v i w' => ∃ j : Nat, i = j ∧ j ≤ xs.length ∧ v = ((cRun (s ^^^ 4294967295) (xs.take j) : Nat) : Int) ∧ w' = w3, fun _ i _ => xs.length - i.toNat, ⟨0, rfl, by omega, ?_, rfl⟩, ?_⟩
  · exact xor_u32 (b := 4294967295) hs (by decide)
  rintro _ v i _ ⟨j, rfl, hj, rfl, rfl⟩
  have hN := hb.ev f3'.old
  have hv : cRun (s ^^^ 4294967295) (xs.take j) < 4294967296 := cRun_lt _ _ (fun x hx => hb.2 x (List.mem_of_mem_take hx)) (Nat.xor_lt_two_pow (n := 32) (by omega) (by decide))
  refine gIf_dec (fun hlt => ?_) (fun hge => ?_)
  · have hlt' : j < xs.length := by omega
    have htk : xs.take (j + 1) = xs.take j ++ [rd xs (j : Int)] := by rw [List.take_succ_eq_append_getElem hlt', ← rd_nat xs j hlt']
    have hx := rd_u8 hb.2 (j : Int)
    generalize hvv : cRun (s ^^^ 4294967295) (xs.take j) = v at hv
    refine gIdx_nm hN (by omega) hlt fun ad c _ => gLoad_i c ?_
    obtain ⟨x, hxx⟩ : ∃ x : Nat, rd xs (j : Int) = x := ⟨(rd xs (j : Int)).toNat, by omega⟩
    rw [hxx] at htk hx ⊢
    have hix : iXor .u8 (u8 (v : Int)) (x : Int) = ((v % 256 ^^^ x : Nat) : Int) := by
      rw [show u8 (v : Int) = ((v % 256 : Nat) : Int) by rw [u8_def]; omega]
      exact iXor_nat (k := .u8) rfl (show v % 256 < 256 by omega) (show x < 256 by omega)
    have hxl : v % 256 ^^^ x < 256 := Nat.xor_lt_two_pow (n := 8) (by omega) (by omega)
    rw [hix]
    refine gIdx_ar1 256 (v % 256 ^^^ x) rfl hxl (fLoad_i (n := ((crIt 8 (v % 256 ^^^ x) : Nat) : Int)) f3' 0 (v % 256 ^^^ x) rfl ?_ ?_)
    · have hq := rd_get (xs := crcT) (i := ((v % 256 ^^^ x : Nat) : Int)) (by omega) (by rw [crcT_len]; omega)
      rw [Int.toNat_natCast, crcT_rd hxl] at hq
      rw [List.getElem?_map, hq]; rfl
    · rw [crShr8, xor_u32 (by omega) (crIt_lt (by omega) 8)]
      refine ⟨⟨j + 1, by rw [i64_id (by omega) (by omega)]; omega, by omega, ?_, rfl⟩, by dsimp only; rw [i64_id (by omega) (by omega)]; omega⟩
      rw [htk, cRun_app, hvv]
      rw [cRun_cons, Int.toNat_natCast]
      show ((v / 256 ^^^ crIt 8 (v % 256 ^^^ x) : Nat) : Int) = ((cByte v x : Nat) : Int)
      unfold cByte
      rw [crIt8 (v ^^^ x)]
      have d1 : (v ^^^ x) / 256 = v / 256 := by
        have := Nat.xor_div_two_pow (a := v) (b := x) (n := 8)
        rw [show (2 : Nat) ^ 8 = 256 from rfl] at this
        rw [this, show x / 256 = 0 by omega, Nat.xor_zero]
      have d2 : (v ^^^ x) % 256 = v % 256 ^^^ x := by
        have := Nat.xor_mod_two_pow (a := v) (b := x) (n := 8)
        rw [show (2 : Nat) ^ 8 = 256 from rfl] at this
        rw [this, show x % 256 = x by omega]
      rw [d1, d2]
  · obtain rfl : j = xs.length := by omega
    rw [List.take_length] at hv ⊢
    refine ⟨?_, f3'.old⟩
    have e : iXor .u32 ((cRun (s ^^^ 4294967295) xs : Nat) : Int) 4294967295 = ((cRun (s ^^^ 4294967295) xs ^^^ 4294967295 : Nat) : Int) := xor_u32 (b := 4294967295) hv (by decide)
    rw [e]; unfold cAdd; rfl
theorem cSum_any {b : Value} (hb : Nm .u8 w b xs) (hl : xs.length ≤ 1000000000) : Calls P n_crc_Sum #[b] w (fun e w' => e = .returned (.int .u32 (cSum xs)) ∧ Ev w w') :=
  of_crc_Sum (gCall_i (cAdd_any (s := 0) (by decide) hb hl) fun w' h => ⟨rfl, h⟩)
end
end Go.Proofs.YtiimlfgjnapgjaaGreatDoorV

/- Sorting entries: insertion, the merge, the whole. -/
namespace Go.Proofs.YtiimlfgjnapgjaaGreatDoorV
open Go Go.RowKit
def lt3 (x y : E3) : Bool := nlt x.1 y.1
theorem wk3 : Wk lt3 := ⟨fun _ _ _ h h' => nle_tr h h', fun _ _ h => nlt_as h⟩
theorem lt3_of {h a k : E3} (h1 : lt3 h a = true) (h2 : lt3 h k = false) : lt3 k a = true := by
  cases hc : lt3 k a with
  | true => rfl
  | false => rw [wk3.tr a k h hc h2] at h1; cases h1
theorem lt3_of' {m h k : E3} (h1 : lt3 m h = true) (h2 : lt3 k h = false) : lt3 m k = true := by
  cases hc : lt3 m k with
  | true => rfl
  | false => rw [wk3.tr h k m h2 hc] at h1; cases h1
theorem down_at {α : Type} (f : Nat → α) (i j : Nat) : down f i j j = f i := by unfold down; rw [if_neg (by omega), if_pos rfl]
theorem down_lt {α : Type} (f : Nat → α) {i j k : Nat} (h : k < j) : down f i j k = f k := by unfold down; rw [if_pos h]
theorem rot_id1 {α : Type} (m b : Nat) (f : Nat → α) : rot m m b f = f := by
  funext k; unfold rot rotS
  repeat' split
  all_goals first | rfl | (congr 1; omega)
theorem rot_id2 {α : Type} (s m : Nat) (f : Nat → α) : rot s m m f = f := by
  funext k; unfold rot rotS
  repeat' split
  all_goals first | rfl | (congr 1; omega)
theorem mid_eq {i j : Int} (p q : Nat) (hi : i = (p : Int)) (hj : j = (q : Int)) (h : p + q ≤ 4611686018427387904) : i64 (iShr .u64 (u64 (i64 (i + j))) 1) = (((p + q) / 2 : Nat) : Int) := by
  subst hi; subst hj
  have h1 : i64 ((p : Int) + q) = ((p + q : Nat) : Int) := by rw [i64_id (by omega) (by omega)]; omega
  rw [h1]
  generalize p + q = s at h ⊢
  have h2 : u64 (s : Int) = (s : Int) := by rw [u64_def]; omega
  rw [h2, show (1 : Int) = ((1 : Nat) : Int) from rfl, iShr_div (by decide) (by omega), show ((2 ^ 1 : Nat) : Int) = 2 from rfl, i64_id (by omega) (by omega)]
  omega
section
variable {w0 w w' : World} {G : List It} {e : TypeId} {v : Value} {n : Nat}
/-- What a sort leaves. -/
def Sorted3 (w0 : World) (G : List It) (e : TypeId) (v : Value) (n a b : Nat) (f : Nat → E3) (e' : Ending) (w' : World) : Prop :=
  e' = .returned (.tuple #[]) ∧ ∃ g, PermOn a b f g ∧ Srt lt3 a b g ∧ Fr w0 w' (fIt e v n g :: G)
theorem insertion_any {f : Nat → E3} (hv : Fr w0 w (fIt e v n f :: G)) (ho : Ok1 f) (a b : Nat) (h1 : a ≤ b) (h2 : b ≤ n) (hn : n ≤ 1000000000000) :
    Calls P n_slices_insertionSortCmpFunc_api_Entry #[v, .int .i64 a, .int .i64 b, byV] w (Sorted3 w0 G e v n a b f) := by
  refine of_slices_insertionSortCmpFunc_api_Entry ⟨fun i w' => ∃ (k : Nat) (g : Nat → E3), i = (k : Int) ∧ a + 1 ≤ k ∧ (k ≤ b ∨ k = a + 1) ∧ Ok1 g ∧ PermOn a b f g ∧ Srt lt3 a k g ∧ Fr w0 w' (fIt e v n g :: G), fun i _ => (b - i).toNat, ?_, ?_⟩
  · exact ⟨a + 1, f, by rw [i64_id (by omega) (by omega)]; omega, by omega, .inr rfl, ho, PermOn.refl _ _ _, fun i j p q r => by omega, hv⟩
  rintro _ i w1 ⟨k, g, rfl, hk1, hk2, hg, hp, hs, g1⟩
  refine gIf_dec (fun hlt => ?_) (fun hge => ?_)
  · have hkb : k < b := by omega
    refine ⟨fun j w' => ∃ q : Nat, j = (q : Int) ∧ a ≤ q ∧ q ≤ k ∧ (∀ r, q ≤ r → r < k → lt3 (g k) (g r) = true) ∧ Fr w0 w' (fIt e v n (down g k q) :: G), fun j _ => j.toNat, ?_, ?_⟩
    · exact ⟨k, rfl, by omega, Nat.le_refl _, fun r _ _ => by omega, by rw [down_start]; exact g1⟩
    rintro _ j w2 ⟨q, rfl, hq1, hq2, hq3, g2⟩
    have hod : Ok1 (down g k q) := hg.perm (down_perm g (a := a) hq1 hq2)
    -- the inner loop's end
    have fin : ∀ w', (q = a ∨ lt3 (g k) (g (q - 1)) = false) → Fr w0 w' (fIt e v n (down g k q) :: G) → ∃ (k' : Nat) (g' : Nat → E3), i64 ((k : Int) + 1) = (k' : Int) ∧ a + 1 ≤ k' ∧ (k' ≤ b ∨ k' = a + 1) ∧ Ok1 g' ∧ PermOn a b f g' ∧ Srt lt3 a k' g' ∧ Fr w0 w' (fIt e v n g' :: G) := fun w' hc g3 =>
      ⟨k + 1, _, by rw [i64_id (by omega) (by omega)]; omega, by omega, .inl (by omega), hod, hp.trans ((down_perm g hq1 hq2).mono (Nat.le_refl _) (by omega)), down_srt wk3 hs hq1 hq2 hq3 hc, g3⟩
    have mfin : ∀ (_ : World), ((b : Int) - i64 ((k : Int) + 1)).toNat < ((b : Int) - (k : Int)).toNat := fun _ => by rw [i64_id (by omega) (by omega)]; omega
    refine ⟨fun w' => a < q ∧ lt3 (g k) (g (q - 1)) = true ∧ Fr w0 w' (fIt e v n (down g k q) :: G), ⟨fun w' => Ev w2.drew w', Ch.refl _ _, ?_⟩, ?_⟩
    · refine gIf_dec (fun hgt => ?_) (fun hle => ?_)
      · have hqa : a < q := by omega
        refine fIdxLdB g2.drew q rfl (by omega) (fun _ h => h) ?_
        rw [i64_id (n := (q : Int) - 1) (by omega) (by omega)]
        refine fIdxLdB g2.drew (q - 1) (by omega) (by omega) (fun _ h => h) ?_
        rw [down_at, down_lt g (show q - 1 < q by omega)]
        refine gCmp (hg _) (hg _) fun w3 h3 => ⟨h3, ?_⟩
        rw [cmpN_lt]
        refine gIf_b (fun hl => ⟨hqa, hl, g2.drew.ev h3⟩) (fun hl => ⟨fin _ (.inr hl) (g2.drew.ev h3), mfin w3⟩)
      · exact ⟨fin _ (.inl (by omega)) g2.drew, mfin w2⟩
    · rintro _ w4 ⟨hqa, hl, g4⟩
      rw [i64_id (n := (q : Int) - 1) (by omega) (by omega)]
      refine gSwap g4 hod q (q - 1) rfl (by omega) (by omega) (by omega) fun w5 g5 => ⟨⟨q - 1, by omega, by omega, by omega, fun r r1 r2 => ?_, ?_⟩, by dsimp only; omega⟩
      · by_cases hr : r = q - 1
        · subst hr; exact hl
        · exact hq3 r (by omega) r2
      · rw [down_step g k q (by omega) hq2] at g5; exact g5
  · exact ⟨rfl, g, hp, hs.sub (Nat.le_refl _) (by omega), g1⟩
theorem symMerge_any : ∀ (N : Nat) {w : World} {f : Nat → E3} (a m b : Nat), b - a ≤ N → Fr w0 w (fIt e v n f :: G) → Ok1 f → a < m → m < b → b ≤ n → n ≤ 1000000000000 → Srt lt3 a m f → Srt lt3 m b f →
    Calls P n_slices_symMergeCmpFunc_api_Entry #[v, .int .i64 a, .int .i64 m, .int .i64 b, byV] w (Sorted3 w0 G e v n a b f)
  | 0, _, _, a, m, b, hN, _, _, h1, h2, _, _, _, _ => by omega
  | N + 1, w, f, a, m, b, hN, hv, ho, h1, h2, h3, hn, s1, s2 => by
    refine of_slices_symMergeCmpFunc_api_Entry ?_
    rw [i64_id (n := (m : Int) - a) (by omega) (by omega), i64_id (n := (b : Int) - m) (by omega) (by omega)]
    refine gIf_eq (fun hone => ?_) (fun hmore => gIf_eq (fun hone => ?_) (fun hmore2 => ?_))
    · have hma : m = a + 1 := by omega
      subst hma
      refine ⟨fun i j w' => ∃ p q : Nat, i = (p : Int) ∧ j = (q : Int) ∧ a + 1 ≤ p ∧ p ≤ q ∧ q ≤ b ∧ (∀ k, a + 1 ≤ k → k < p → lt3 (f k) (f a) = true) ∧ (∀ k, q ≤ k → k < b → lt3 (f k) (f a) = false) ∧ Fr w0 w' (fIt e v n f :: G), fun i j _ => (j - i).toNat, ?_, ?_⟩
      · exact ⟨a + 1, b, rfl, rfl, Nat.le_refl _, by omega, Nat.le_refl _, fun k _ _ => by omega, fun k _ _ => by omega, hv⟩
      rintro _ i j w1 ⟨p, q, rfl, rfl, hp1, hp2, hp3, hl, hr, g1⟩
      refine gIf_dec (fun hlt => ?_) (fun hge => ?_)
      · rw [mid_eq p q rfl rfl (by omega)]
        have hh1 : p ≤ (p + q) / 2 := by omega
        have hh2 : (p + q) / 2 < q := by omega
        generalize (p + q) / 2 = hm at hh1 hh2
        refine ⟨fun w' => Ev w1.drew w', Ch.refl _ _, fIdxLdB g1.drew hm rfl (by omega) (fun _ h => h) (fIdxLdB g1.drew a rfl (by omega) (fun _ h => h) (gCmp (ho _) (ho _) fun w2 h2' => ⟨h2', ?_⟩))⟩
        rw [cmpN_lt, i64_id (n := (hm : Int) + 1) (by omega) (by omega)]
        refine gIf_b (fun hc => ⟨⟨hm + 1, q, by omega, rfl, by omega, by omega, hp3, fun k k1 k2 => ?_, hr, g1.drew.ev h2'⟩, by dsimp only; omega⟩) (fun hc => ⟨⟨p, hm, rfl, rfl, hp1, hh1, by omega, hl, fun k k1 k2 => ?_, g1.drew.ev h2'⟩, by dsimp only; omega⟩)
        · by_cases hk : k = hm
          · subst hk; exact hc
          · exact lt3_of hc (s2 k hm k1 (by omega) (by omega))
        · by_cases hk : k = hm
          · subst hk; exact hc
          · exact wk3.tr _ _ _ hc (s2 hm k (by omega) (by omega) k2)
      · have hpq : p = q := by omega
        subst hpq
        refine ⟨fun k w' => ∃ r : Nat, k = (r : Int) ∧ a ≤ r ∧ r ≤ p - 1 ∧ Fr w0 w' (fIt e v n (up f a r) :: G), fun k _ => (b - k).toNat, ⟨a, rfl, Nat.le_refl _, by omega, by rw [up_start]; exact g1⟩, ?_⟩
        rintro _ k w3 ⟨r, rfl, hr1, hr2, g3⟩
        rw [i64_id (n := (p : Int) - 1) (by omega) (by omega)]
        refine gIf_dec (fun hlt => ?_) (fun hge2 => ?_)
        · have hup : Ok1 (up f a r) := ho.perm (up_perm f (b := b) hr1 (by omega))
          rw [i64_id (n := (r : Int) + 1) (by omega) (by omega)]
          refine gSwap g3 hup r (r + 1) rfl (by omega) (by omega) (by omega) fun w4 g4 => ⟨⟨r + 1, by omega, by omega, by omega, ?_⟩, by dsimp only; omega⟩
          rw [up_step f a r hr1] at g4; exact g4
        · have hrp : r = p - 1 := by omega
          subst hrp
          exact ⟨rfl, _, up_perm f hr1 (by omega), up_srt wk3 s2 hp1 hp3 hl hr, g3⟩
    · have hbm : b = m + 1 := by omega
      subst hbm
      refine ⟨fun i j w' => ∃ p q : Nat, i = (p : Int) ∧ j = (q : Int) ∧ a ≤ p ∧ p ≤ q ∧ q ≤ m ∧ (∀ k, a ≤ k → k < p → lt3 (f m) (f k) = false) ∧ (∀ k, q ≤ k → k < m → lt3 (f m) (f k) = true) ∧ Fr w0 w' (fIt e v n f :: G), fun i j _ => (j - i).toNat, ?_, ?_⟩
      · exact ⟨a, m, rfl, rfl, Nat.le_refl _, by omega, Nat.le_refl _, fun k _ _ => by omega, fun k _ _ => by omega, hv⟩
      rintro _ i j w1 ⟨p, q, rfl, rfl, hp1, hp2, hp3, hl, hr, g1⟩
      refine gIf_dec (fun hlt => ?_) (fun hge => ?_)
      · rw [mid_eq p q rfl rfl (by omega)]
        have hh1 : p ≤ (p + q) / 2 := by omega
        have hh2 : (p + q) / 2 < q := by omega
        generalize (p + q) / 2 = hm at hh1 hh2
        refine ⟨fun w' => Ev w1.drew w', Ch.refl _ _, fIdxLdB g1.drew m rfl (by omega) (fun _ h => h) (fIdxLdB g1.drew hm rfl (by omega) (fun _ h => h) (gCmp (ho _) (ho _) fun w2 h2' => ⟨h2', ?_⟩))⟩
        rw [cmpN_lt, i64_id (n := (hm : Int) + 1) (by omega) (by omega)]
        refine gIf_nb (fun hc => ⟨⟨hm + 1, q, by omega, rfl, by omega, by omega, hp3, fun k k1 k2 => ?_, hr, g1.drew.ev h2'⟩, by dsimp only; omega⟩) (fun hc => ⟨⟨p, hm, rfl, rfl, hp1, hh1, by omega, hl, fun k k1 k2 => ?_, g1.drew.ev h2'⟩, by dsimp only; omega⟩)
        · by_cases hk : k = hm
          · subst hk; exact hc
          · exact wk3.tr _ _ _ (s1 k hm k1 (by omega) (by omega)) hc
        · by_cases hk : k = hm
          · subst hk; exact hc
          · exact lt3_of' hc (s1 hm k (by omega) (by omega) k2)
      · have hpq : p = q := by omega
        subst hpq
        refine ⟨fun k w' => ∃ r : Nat, k = (r : Int) ∧ p ≤ r ∧ r ≤ m ∧ Fr w0 w' (fIt e v n (down f m r) :: G), fun k _ => k.toNat, ⟨m, rfl, hp3, Nat.le_refl _, by rw [down_start]; exact g1⟩, ?_⟩
        rintro _ k w3 ⟨r, rfl, hr1, hr2, g3⟩
        refine gIf_dec (fun hgt => ?_) (fun hle => ?_)
        · have hdn : Ok1 (down f m r) := ho.perm (down_perm f (a := a) (by omega) hr2)
          rw [i64_id (n := (r : Int) - 1) (by omega) (by omega)]
          refine gSwap g3 hdn r (r - 1) rfl (by omega) (by omega) (by omega) fun w4 g4 => ⟨⟨r - 1, by omega, by omega, by omega, ?_⟩, by dsimp only; omega⟩
          rw [down_step f m r (by omega) hr2] at g4; exact g4
        · have hrp : r = p := by omega
          subst hrp
          exact ⟨rfl, _, down_perm f hp1 hp3, down_srt' wk3 s1 hp1 hp3 hl hr, g3⟩
    · rw [mid_eq a b rfl rfl (by omega)]
      have hmid : ∃ mid : Nat, mid = (a + b) / 2 := ⟨_, rfl⟩
      obtain ⟨mid, hmid⟩ := hmid
      have hm1 : a ≤ mid := by omega
      have hm2 : mid ≤ b := by omega
      have hm3 : 2 * mid ≤ a + b := by omega
      have hm4 : a + b ≤ 2 * mid + 1 := by omega
      rw [← hmid]
      clear hmid
      rw [i64_id (n := (mid : Int) + m) (by omega) (by omega), i64_id (n := (mid : Int) + m - 1) (by omega) (by omega)]
      refine ⟨fun s r w' => ∃ s0 r0 : Nat, s = (s0 : Int) ∧ r = (r0 : Int) ∧ a ≤ s0 ∧ s0 ≤ r0 ∧ r0 ≤ m ∧ r0 ≤ mid ∧ mid + m ≤ s0 + b ∧ (s0 = a ∨ s0 + b = mid + m) ∧ (r0 = m ∨ r0 = mid) ∧ Fr w0 w' (fIt e v n f :: G), ?_, ?_⟩
      · refine gIf_dec (fun hgt => ?_) (fun hle => ?_)
        · exact ⟨mid + m - b, mid, by rw [i64_id (by omega) (by omega)]; omega, rfl, by omega, by omega, by omega, Nat.le_refl _, by omega, .inr (by omega), .inr rfl, hv⟩
        · exact ⟨a, m, rfl, rfl, Nat.le_refl _, by omega, Nat.le_refl _, by omega, by omega, .inl rfl, .inl rfl, hv⟩
      rintro _ s r w11 ⟨s0, r0, rfl, rfl, c1, c2, c3, c4, c5, c6, c7, g11⟩
      have up1 : ∀ x y, a ≤ x → x < y → y < m → lt3 (f y) (f x) = false := s1
      refine ⟨fun i j w' => ∃ p q : Nat, i = (p : Int) ∧ j = (q : Int) ∧ s0 ≤ p ∧ p ≤ q ∧ q ≤ r0 ∧ (∀ c, s0 ≤ c → c < p → lt3 (f (mid + m - 1 - c)) (f c) = false) ∧ (∀ c, q ≤ c → c < r0 → lt3 (f (mid + m - 1 - c)) (f c) = true) ∧ Fr w0 w' (fIt e v n f :: G), fun i j _ => (j - i).toNat, ?_, ?_⟩
      · exact ⟨s0, r0, rfl, rfl, Nat.le_refl _, c2, Nat.le_refl _, fun c _ _ => by omega, fun c _ _ => by omega, g11⟩
      rintro _ i j w12 ⟨p, q, rfl, rfl, hp1, hp2, hp3, hl, hr, g12⟩
      refine gIf_dec (fun hlt => ?_) (fun hge => ?_)
      · rw [mid_eq p q rfl rfl (by omega)]
        have hh1 : p ≤ (p + q) / 2 := by omega
        have hh2 : (p + q) / 2 < q := by omega
        generalize (p + q) / 2 = hm at hh1 hh2
        rw [i64_id (n := (mid : Int) + m - 1 - hm) (by omega) (by omega)]
        refine ⟨fun w' => Ev w12.drew w', Ch.refl _ _, fIdxLdB g12.drew (mid + m - 1 - hm) (by omega) (by omega) (fun _ h => h) (fIdxLdB g12.drew hm rfl (by omega) (fun _ h => h) (gCmp (ho _) (ho _) fun w2 h2' => ⟨h2', ?_⟩))⟩
        rw [cmpN_lt, i64_id (n := (hm : Int) + 1) (by omega) (by omega)]
        refine gIf_nb (fun hc => ⟨⟨hm + 1, q, by omega, rfl, by omega, by omega, hp3, fun k k1 k2 => ?_, hr, g12.drew.ev h2'⟩, by dsimp only; omega⟩) (fun hc => ⟨⟨p, hm, rfl, rfl, hp1, hh1, by omega, hl, fun k k1 k2 => ?_, g12.drew.ev h2'⟩, by dsimp only; omega⟩)
        · by_cases hk : k = hm
          · subst hk; exact hc
          · exact wk3.tr _ _ _ (s1 k hm (by omega) (by omega) (by omega)) (wk3.tr _ _ _ hc (s2 _ _ (by omega) (by omega) (by omega)))
        · by_cases hk : k = hm
          · subst hk; exact hc
          · have e1 := s1 hm k (by omega) (by omega) (by omega)
            have e2 := s2 (mid + m - 1 - k) (mid + m - 1 - hm) (by omega) (by omega) (by omega)
            exact lt3_of (lt3_of' hc e1) e2
      · have hpq : p = q := by omega
        subst hpq
        rw [i64_id (n := (mid : Int) + m - p) (by omega) (by omega)]
        have hend : ((mid : Int) + m - p) = ((mid + m - p : Nat) : Int) := by omega
        rw [hend]
        obtain ⟨q1, q2, q3, q4, q5⟩ := merge_parts (mid := mid) (s := p) wk3 s1 s2 hm1 hm2 (by omega) (by omega) (by omega) (by omega) (fun c d1 d2 d3 => hl c (by omega) d2) (fun d1 d2 => hr p (Nat.le_refl _) (by omega))
        have hrp : PermOn a b f (rot p m (mid + m - p) f) := (rot_perm f (by omega) (by omega)).mono (by omega) (by omega)
        have hro : Ok1 (rot p m (mid + m - p) f) := ho.perm hrp
        refine ⟨fun w' => Fr w0 w' (fIt e v n (rot p m (mid + m - p) f) :: G), ?_, ?_⟩
        · refine gIf_dec (fun ha => gIf_dec (fun hb => ?_) (fun hb => ?_)) (fun ha => ?_)
          · exact gCall_u (rotate_any g12 ho p m (mid + m - p) byV (by omega) (by omega) (by omega) hn) fun w14 g14 => g14
          · have : mid + m - p = m := by omega
            rw [this, rot_id2]; exact g12
          · have : p = m := by omega
            subst this; rw [rot_id1]; exact g12
        intro _ w15 g15
        generalize rot p m (mid + m - p) f = F at *
        refine ⟨fun w' => ∃ g, PermOn a mid F g ∧ Srt lt3 a mid g ∧ Ok1 g ∧ Fr w0 w' (fIt e v n g :: G), ?_, ?_⟩
        · refine gIf_dec (fun ha => gIf_dec (fun hb => ?_) (fun hb => ?_)) (fun ha => ?_)
          · exact gCall_u (symMerge_any N a p mid (by omega) g15 hro (by omega) (by omega) (by omega) hn q1 q2) fun w16 ⟨g, x1, x2, x3⟩ => ⟨g, x1, x2, hro.perm x1, x3⟩
          · have : p = mid := by omega
            subst this; exact ⟨F, PermOn.refl _ _ _, q1, hro, g15⟩
          · have : p = a := by omega
            subst this; exact ⟨F, PermOn.refl _ _ _, q2, hro, g15⟩
        rintro _ w17 ⟨g, x1, x2, x3, g17⟩
        have y1 : Srt lt3 mid (mid + m - p) g := q3.out x1 (.inr (Nat.le_refl _))
        have y2 : Srt lt3 (mid + m - p) b g := q4.out x1 (.inr (by omega))
        have hp0 : PermOn a b f g := hrp.trans (x1.mono (Nat.le_refl _) hm2)
        have fin : ∀ w' h, PermOn mid b g h → Srt lt3 mid b h → Fr w0 w' (fIt e v n h :: G) → ∃ h, PermOn a b f h ∧ Srt lt3 a b h ∧ Fr w0 w' (fIt e v n h :: G) := fun w' h z1 z2 z3 => ⟨h, hp0.trans (z1.mono hm1 (Nat.le_refl _)), merge_join q5 x1 x2 z1 z2, z3⟩
        refine gIf_dec (fun ha => gIf_dec (fun hb => ?_) (fun hb => ?_)) (fun ha => ?_)
        · exact gCall_u (symMerge_any N mid (mid + m - p) b (by omega) g17 x3 (by omega) (by omega) h3 hn y1 y2) fun w18 ⟨h, z1, z2, z3⟩ => ⟨rfl, fin _ h z1 z2 z3⟩
        · have : mid + m - p = b := by omega
          rw [this] at y1
          exact ⟨rfl, fin _ g (PermOn.refl _ _ _) y1 g17⟩
        · have : mid + m - p = mid := by omega
          rw [this] at y2
          exact ⟨rfl, fin _ g (PermOn.refl _ _ _) y2 g17⟩
theorem dvd_step {s a c : Nat} (ha : s ∣ a) (hc : s ∣ c) (h : c < a) : c + s ≤ a := by
  have := Nat.le_of_dvd (by omega) (Nat.dvd_sub ha hc); omega
theorem stable_any {f : Nat → E3} (hv : Fr w0 w (fIt e v n f :: G)) (ho : Ok1 f) (hn : n ≤ 100000000000) :
    Calls P n_slices_stableCmpFunc_api_Entry #[v, .int .i64 n, byV] w (Sorted3 w0 G e v n 0 n f) := by
  refine of_slices_stableCmpFunc_api_Entry ⟨fun a b w' => ∃ (p : Nat) (g : Nat → E3), a = (p : Int) ∧ b = ((p + 20 : Nat) : Int) ∧ p ≤ n ∧ 20 ∣ p ∧ (∀ c, 20 ∣ c → c + 20 ≤ p → Srt lt3 c (c + 20) g) ∧ Ok1 g ∧ PermOn 0 n f g ∧ Fr w0 w' (fIt e v n g :: G), fun a _ _ => (n - a).toNat, ?_, ?_⟩
  · exact ⟨0, f, rfl, rfl, Nat.zero_le _, ⟨0, rfl⟩, fun c _ h => by omega, ho, PermOn.refl _ _ _, hv⟩
  rintro _ a b w1 ⟨p, g, rfl, rfl, hp, hd, hs, hg, hpm, g1⟩
  refine gIf_dec (fun hle => ?_) (fun hgt => ?_)
  · refine gCall_u (insertion_any g1 hg p (p + 20) (by omega) (by omega) (by omega)) fun w2 ⟨h, x1, x2, g2⟩ => ?_
    refine ⟨⟨p + 20, h, rfl, by rw [i64_id (by omega) (by omega)]; omega, by omega, Nat.dvd_add hd ⟨1, rfl⟩, fun c c1 c2 => ?_, hg.perm x1, hpm.trans (x1.mono (Nat.zero_le _) (by omega)), g2⟩, by dsimp only; omega⟩
    by_cases hc : c = p
    · subst hc; exact x2
    · have := dvd_step hd c1 (by omega)
      exact (hs c c1 this).out x1 (.inl this)
  refine gCall_u (insertion_any g1 hg p n hp (Nat.le_refl _) (by omega)) fun w3 ⟨h, x1, x2, g3⟩ => ?_
  have hh : Ok1 h := hg.perm x1
  have hpm2 : PermOn 0 n f h := hpm.trans (x1.mono (Nat.zero_le _) (Nat.le_refl _))
  have hb : ∀ c, 20 ∣ c → Srt lt3 c (min (c + 20) n) h := fun c c1 => by
    by_cases hc : c < p
    · have := dvd_step hd c1 hc
      exact ((hs c c1 this).out x1 (.inl this)).sub (Nat.le_refl _) (by omega)
    · by_cases hc2 : c = p
      · subst hc2; exact x2.sub (Nat.le_refl _) (by omega)
      · have := dvd_step c1 hd (by omega)
        intro i j i1 i2 i3; omega
  clear x1 x2 g1 hs hg
  refine ⟨fun bs w' => ∃ (s : Nat) (g : Nat → E3), bs = (s : Int) ∧ 20 ≤ s ∧ s ≤ 2 * n + 20 ∧ (∀ c, s ∣ c → Srt lt3 c (min (c + s) n) g) ∧ Ok1 g ∧ PermOn 0 n f g ∧ Fr w0 w' (fIt e v n g :: G), fun bs _ => (n - bs).toNat, ⟨20, h, rfl, Nat.le_refl _, by omega, hb, hh, hpm2, g3⟩, ?_⟩
  clear hb hh hpm2 g3
  rintro _ bs w4 ⟨s, g, rfl, hs20, hs2, hb, hg, hpm, g4⟩
  refine gIf_dec (fun hlt => ?_) (fun hge => ?_)
  · rw [i64_id (n := 2 * (s : Int)) (by omega) (by omega), i64_id (n := (s : Int) * 2) (by omega) (by omega)]
    have h2s : s ∣ 2 * s := ⟨2, by omega⟩
    refine ⟨fun a b w' => ∃ (p : Nat) (g : Nat → E3), a = (p : Int) ∧ b = ((p + 2 * s : Nat) : Int) ∧ p ≤ n ∧ 2 * s ∣ p ∧ (∀ c, 2 * s ∣ c → c + 2 * s ≤ p → Srt lt3 c (c + 2 * s) g) ∧ (∀ c, s ∣ c → p ≤ c → Srt lt3 c (min (c + s) n) g) ∧ Ok1 g ∧ PermOn 0 n f g ∧ Fr w0 w' (fIt e v n g :: G), fun a _ _ => (n - a).toNat, ?_, ?_⟩
    · exact ⟨0, g, rfl, by omega, Nat.zero_le _, ⟨0, rfl⟩, fun c _ h => by omega, fun c c1 _ => hb c c1, hg, hpm, g4⟩
    rintro _ a b w5 ⟨p, k, rfl, rfl, hp, hd, hdone, htodo, hk, hpm2, g5⟩
    have hsp : s ∣ p := Nat.dvd_trans h2s hd
    have t1 := htodo p hsp (Nat.le_refl _)
    have t2 := htodo (p + s) (Nat.dvd_add hsp (Nat.dvd_refl _)) (by omega)
    rw [i64_id (n := (p : Int) + s) (by omega) (by omega), show ((p : Int) + s) = ((p + s : Nat) : Int) by omega]
    refine gIf_dec (fun hle => ?_) (fun hgt => ?_)
    · refine gCall_u (symMerge_any _ p (p + s) (p + 2 * s) (Nat.le_refl _) g5 hk (by omega) (by omega) (by omega) (by omega) (t1.sub (Nat.le_refl _) (by omega)) (t2.sub (Nat.le_refl _) (by omega))) fun w6 ⟨h, x1, x2, g6⟩ => ?_
      refine ⟨⟨p + 2 * s, h, rfl, by rw [i64_id (by omega) (by omega)]; omega, by omega, Nat.dvd_add hd (Nat.dvd_refl _), fun c c1 c2 => ?_, fun c c1 c2 => (htodo c c1 (by omega)).out x1 (.inr c2), hk.perm x1, hpm2.trans (x1.mono (Nat.zero_le _) (by omega)), g6⟩, by dsimp only; omega⟩
      by_cases hc : c = p
      · subst hc; exact x2
      · have := dvd_step hd c1 (by omega)
        exact (hdone c c1 this).out x1 (.inl this)
    · have step : ∀ w' h, PermOn p n k h → Srt lt3 p n h → Fr w0 w' (fIt e v n h :: G) → (∃ (s' : Nat) (g : Nat → E3), (s : Int) * 2 = (s' : Int) ∧ 20 ≤ s' ∧ s' ≤ 2 * n + 20 ∧ (∀ c, s' ∣ c → Srt lt3 c (min (c + s') n) g) ∧ Ok1 g ∧ PermOn 0 n f g ∧ Fr w0 w' (fIt e v n g :: G)) ∧ ((n : Int) - (s : Int) * 2).toNat < ((n : Int) - (s : Int)).toNat := fun w' h x1 x2 x3 => by
        refine ⟨⟨2 * s, h, by omega, by omega, by omega, fun c c1 => ?_, hk.perm x1, hpm2.trans (x1.mono (Nat.zero_le _) (Nat.le_refl _)), x3⟩, by omega⟩
        by_cases hc : c < p
        · have := dvd_step hd c1 hc
          exact ((hdone c c1 this).out x1 (.inl this)).sub (Nat.le_refl _) (by omega)
        · by_cases hc2 : c = p
          · subst hc2; exact x2.sub (Nat.le_refl _) (by omega)
          · have := dvd_step c1 hd (by omega)
            intro i j i1 i2 i3; omega
      refine gIf_dec (fun hmn => ?_) (fun hmn => ?_)
      · exact gCall_u (symMerge_any _ p (p + s) n (Nat.le_refl _) g5 hk (by omega) (by omega) (Nat.le_refl _) (by omega) (t1.sub (Nat.le_refl _) (by omega)) (t2.sub (Nat.le_refl _) (by omega))) fun w7 ⟨h, x1, x2, g7⟩ => step _ h x1 x2 g7
      · exact step _ k (PermOn.refl _ _ _) (t1.sub (Nat.le_refl _) (by omega)) g5
  · have := hb 0 ⟨0, rfl⟩
    exact ⟨rfl, g, hpm, this.sub (Nat.le_refl _) (by omega), g4⟩
/-- slices.SortStableFunc: the same entries, by rising names. -/
theorem SortStable_any {us : List E3} (hv : Fr w0 w (rIt e 2 v us.length (cells3 us) :: G)) (ho : ∀ u ∈ us, u.2.1.oneCell' = true) (hn : us.length ≤ 100000000000) :
    Calls P n_slices_SortStableFunc_api_Entry_api_Entry #[v, byV] w (fun e' w' => e' = .returned (.tuple #[]) ∧ ∃ us' : List E3, us'.Perm us ∧ us'.Pairwise (fun x y => nlt y.1 x.1 = false) ∧ Fr w0 w' (rIt e 2 v us'.length (cells3 us') :: G)) := by
  refine of_slices_SortStableFunc_api_Entry_api_Entry (gLen_slv (hv.row 0 rfl) ?_)
  have hl := lst_of us
  obtain ⟨f, hf⟩ : ∃ f : Nat → E3, f = fun i => us.getD i default := ⟨_, rfl⟩
  rw [← hf] at hl
  have hok : Ok1 f := fun k => by
    rw [hf]; dsimp only
    by_cases hk : k < us.length
    · rw [List.getD_eq_getElem?_getD, List.getElem?_eq_getElem hk]; exact ho _ (List.getElem_mem hk)
    · rw [List.getD_eq_getElem?_getD, List.getElem?_eq_none (by omega)]; rfl
  have hv' : Fr w0 w (fIt e v us.length f :: G) := by unfold fIt; rw [← hl]; exact hv
  refine gCall_u (stable_any hv' hok hn) fun w1 ⟨g, x1, x2, g1⟩ => ⟨rfl, lst us.length g, ?_, ?_, ?_⟩
  · have := x1.perm
    exact this.trans (by rw [show (List.range us.length).map f = lst us.length f from rfl, ← hl])
  · unfold lst
    rw [List.pairwise_map]
    refine List.Pairwise.imp_of_mem ?_ (List.pairwise_lt_range (n := us.length))
    intro i j hi hj hij
    exact x2 i j (Nat.zero_le _) hij (List.mem_range.1 hj)
  · rw [lst_len]; exact g1
end
end Go.Proofs.YtiimlfgjnapgjaaGreatDoorV

/- Strings: parts of them, Index, Contains, Count at one byte, Split. -/
namespace Go.Proofs.YtiimlfgjnapgjaaGreatDoorV
open Go Go.RowKit
def mkS (l : List UInt8) : ByteArray := ⟨l.toArray⟩
theorem mkS_data (l : List UInt8) : (mkS l).data.toList = l := by simp [mkS]
theorem mkS_self (s : ByteArray) : mkS s.data.toList = s := by obtain ⟨⟨l⟩⟩ := s; rfl
theorem mkS_size (l : List UInt8) : (mkS l).size = l.length := by show l.toArray.size = _; simp
theorem tl_mk (l : List UInt8) : (mkS l).toList = l := by rw [ByteArray.toList_eq]; simp [mkS]
theorem mkS_ext (l : List UInt8) (a b : Nat) : (mkS l).extract a b = mkS ((l.drop a).take (b - a)) := by
  have h : ((mkS l).extract a b).data.toList = (l.drop a).take (b - a) := by
    rw [ByteArray.data_extract, Array.toList_extract]
    simp [mkS, List.extract_eq_take_drop]
  rw [← h, mkS_self]
section
variable {P : Program} {w : World}
theorem gSliceS_mk {t : TypeId} {l : List UInt8} {lo hi : Option Value} {a b : Nat} {K : ByteArray → Prop} (hlo : (lo = none ∧ a = 0) ∨ (∃ k, lo = some (.int k a))) (hhi : (hi = none ∧ b = l.length) ∨ (∃ k, hi = some (.int k b))) (hl : a ≤ b) (hh : b ≤ l.length)
    (hk : K (mkS ((l.drop a).take (b - a)))) (ht : strB P t = true := by kernel_rfl) : gSliceS P t (.string (mkS l)) lo hi none K := by
  have hu := strB_ok ht
  refine ⟨mkS ((l.drop a).take (b - a)), fun w => ?_, hk⟩
  have hb : (Instr.sliceBounds false (mkS l).size (mkS l).size lo hi none).run P w = .ok (a, b, (mkS l).size) w := by
    rw [mkS_size]
    simp only [Instr.sliceBounds, Sem.run_bind, Sem.run_pure, Result.andThen_ok]
    rcases hhi with ⟨rfl, rfl⟩ | ⟨k, rfl⟩ <;> rcases hlo with ⟨rfl, rfl⟩ | ⟨k', rfl⟩ <;>
      simp [Instr.sliceBound, asIntOf, hl, hh]
  simp only [Instr.sliceAt, Sem.run_bind, run_underlying hu, Result.andThen_ok, Instr.slice, hb, Sem.run_pure, Option.isSome_none, Bool.false_eq_true, if_false]
  rw [mkS_ext]; rfl
end
/-- A slice of strings. -/
def Ss (w : World) (v : Value) (ss : List ByteArray) : Prop := Sl w 1 v ss.length (ss.map .string)
theorem Ss.ev {w w' : World} {v : Value} {ss : List ByteArray} (h : Ss w v ss) (he : Ev w w') : Ss w' v ss := Sl.ev h he
section
variable {w : World}
theorem eq_single {l : List UInt8} {c : UInt8} (h : (mkS [c]).toList == (mkS l).toList) : l = [c] := by
  rw [tl_mk, tl_mk] at h; exact (beq_iff_eq.1 h).symm
theorem Index1_any (l : List UInt8) (c : UInt8) : Calls P n_strings_Index #[.string (mkS l), .string (mkS [c])] w (fun e w' => e = .returned (.int .i64 (Lib.indexByte l c)) ∧ w' = w) := by
  have hc : (mkS [c]).data.toList = [c] := mkS_data _
  have hcs : (mkS [c]).size = 1 := rfl
  have hone : rd (sOf (mkS [c])) 0 = (c.toNat : Int) := by simp [rd, sOf, mkS]
  have hback : (c.toNat : Int).toNat.toUInt8 = c := by simp
  refine of_strings_Index (gCall_i0 (n := Lib.indexByte l c) (of_internal_stringslite_Index ?_) ⟨rfl, rfl⟩)
  refine ⟨fun _ => False, ⟨fun b w' => w' = w ∧ b = ((mkS [c]).toList == (mkS l).toList), gIf_neqq (fun _ => ⟨rfl, rfl⟩) (fun h => by rw [hcs] at h; simp at h), ?_⟩, ?_⟩
  · rintro _ b w1 ⟨rfl, rfl⟩
    refine gIf_b (fun hb => ?_) (fun _ => ?_)
    · have := eq_single hb
      subst this
      exact ⟨by simp [Lib.indexByte], rfl⟩
    · rw [hcs]
      refine gIf_eq (fun _ => gIndex_s (j := 0) rfl (by rw [hcs]; decide) ?_) (fun h => (h rfl).elim)
      rw [hone]
      refine gCall_i0 (n := Lib.indexByte l c) (of_internal_stringslite_IndexByte (gExt_i (by kernel_rfl) (Lib.run_indexByteString _ _ w1) ?_ (by kernel_rfl))) ⟨rfl, rfl⟩
      rw [hback, mkS_data]; exact ⟨rfl, rfl⟩
  · intro _ w1 h
    exact h.elim
end
end Go.Proofs.YtiimlfgjnapgjaaGreatDoorV

/- Which names may be: the program's Right and the reference's. -/
namespace Go.Proofs.YtiimlfgjnapgjaaGreatDoorV
open Go Go.RowKit
theorem partsU_no {l : List UInt8} (h : Lib.indexByte l 47 = -1) : partsU l = [l] ∧ Lib.countByte l 47 = 0 := by
  induction l with
  | nil => exact ⟨rfl, rfl⟩
  | cons c r ih =>
    unfold Lib.indexByte at h
    split at h
    · simp at h
    · rename_i hc
      have hc' : c ≠ 47 := by simpa using hc
      split at h
      · rename_i hr
        obtain ⟨h1, h2⟩ := ih (by simpa using hr)
        refine ⟨?_, ?_⟩
        · unfold partsU; rw [if_neg hc', h1]
        · unfold Lib.countByte at *; rw [List.count_cons, h2]; simp [hc']
      · have := Lib.indexByte_ge r 47; omega
theorem partsU_at : ∀ {l : List UInt8} {i : Nat}, Lib.indexByte l 47 = (i : Int) → i < l.length ∧ partsU l = l.take i :: partsU (l.drop (i + 1)) ∧ Lib.countByte l 47 = Lib.countByte (l.drop (i + 1)) 47 + 1
  | [], i, h => by simp [Lib.indexByte] at h
  | c :: r, i, h => by
    unfold Lib.indexByte at h
    split at h
    · rename_i hc
      have hc' : c = 47 := by simpa using hc
      obtain rfl : i = 0 := by omega
      subst hc'
      exact ⟨by simp, by simp [partsU], by simp [Lib.countByte]⟩
    · rename_i hc
      have hc' : c ≠ 47 := by simpa using hc
      split at h
      · omega
      · have hge := Lib.indexByte_ge r 47
        rename_i hn
        have hn' : Lib.indexByte r 47 ≠ -1 := by simpa using hn
        obtain ⟨j, hj⟩ : ∃ j : Nat, Lib.indexByte r 47 = (j : Int) := ⟨(Lib.indexByte r 47).toNat, by omega⟩
        obtain rfl : i = j + 1 := by omega
        obtain ⟨h1, h2, h3⟩ := partsU_at hj
        refine ⟨by simp; omega, ?_, ?_⟩
        · rw [partsU, if_neg hc', h2]; simp
        · unfold Lib.countByte at *
          rw [List.drop_succ_cons, List.count_cons, h3]; simp [hc']
theorem partsU_len : ∀ (n : Nat) {l : List UInt8}, l.length ≤ n → (partsU l).length = Lib.countByte l 47 + 1
  | n, l, hn => by
    by_cases h : Lib.indexByte l 47 = -1
    · obtain ⟨h1, h2⟩ := partsU_no h
      rw [h1, h2]; rfl
    · have hge := Lib.indexByte_ge l 47
      obtain ⟨i, hi⟩ : ∃ i : Nat, Lib.indexByte l 47 = (i : Int) := ⟨(Lib.indexByte l 47).toNat, by omega⟩
      obtain ⟨h1, h2, h3⟩ := partsU_at hi
      cases n with
      | zero => omega
      | succ n =>
        rw [h2, h3, List.length_cons, partsU_len n (by rw [List.length_drop]; omega)]
theorem count_le (l : List UInt8) : Lib.countByte l 47 ≤ l.length := by unfold Lib.countByte; exact List.count_le_length
theorem contains_idx {l : List UInt8} {c : UInt8} : decide (Lib.indexByte l c ≥ 0) = l.contains c := by
  induction l with
  | nil => rfl
  | cons b r ih =>
    unfold Lib.indexByte
    rw [List.contains_cons]
    by_cases h : b = c
    · subst h; simp
    · have h2 : ¬ c = b := fun e => h e.symm
      have h3 := Lib.indexByte_ge r c
      have h4 : (b == c) = false := by simpa using h
      have h5 : (c == b) = false := by simpa using h2
      rw [if_neg (by rw [h4]; decide), h5, Bool.false_or, ← ih]
      by_cases h6 : Lib.indexByte r c = -1
      · rw [h6]; simp
      · rw [if_neg (by simpa using h6)]
        by_cases h7 : Lib.indexByte r c ≥ 0
        · rw [decide_eq_true h7, decide_eq_true (by omega)]
        · omega
section
variable {w0 w w' : World} {F : List It}
theorem Contains1_any (l : List UInt8) (c : UInt8) : Calls P n_strings_Contains #[.string (mkS l), .string (mkS [c])] w (fun e w' => e = .returned (.bool (l.contains c)) ∧ w' = w) :=
  of_strings_Contains (gCall_i0 (Index1_any l c) ⟨by rw [contains_idx], rfl⟩)
theorem Count1_any (l : List UInt8) (c : UInt8) : Calls P n_strings_Count #[.string (mkS l), .string (mkS [c])] w (fun e w' => e = .returned (.int .i64 (Lib.countByte l c)) ∧ w' = w) := by
  have hcs : (mkS [c]).size = 1 := rfl
  have hone : rd (sOf (mkS [c])) 0 = (c.toNat : Int) := by simp [rd, sOf, mkS]
  have hback : (c.toNat : Int).toNat.toUInt8 = c := by simp
  refine of_strings_Count ?_
  rw [hcs]
  refine gIf_eq (fun h => by simp at h) (fun _ => gIf_eq (fun _ => gIndex_s (j := 0) rfl (by rw [hcs]; decide) ?_) (fun h => (h rfl).elim))
  rw [hone]
  refine gExt_i (by kernel_rfl) (Lib.run_countString _ _ w) ?_ (by kernel_rfl)
  rw [hback, mkS_data]; exact ⟨rfl, rfl⟩
def strsU (l : List UInt8) : List ByteArray := (partsU l).map mkS
theorem made1 (z : Value) (n : Nat) (h : z.cells = #[z]) : (madeCells z.cells (n * 1)).toList = List.replicate n z := by rw [h, Nat.mul_one, toList_madeCells_one]
/-- strings.Split at "/". -/
theorem nSplit_any {l : List UInt8} (hl : l.length ≤ 1000000) : Calls P n_strings_Split #[.string (mkS l), .string (mkS [47])] w (fun e w' => ∃ v, e = .returned v ∧ Ev w w' ∧ Ss w' v (strsU l)) := by
  have hcs : (mkS [47]).size = 1 := rfl
  have hcl := count_le l
  have hpl := partsU_len _ (Nat.le_refl l.length)
  obtain ⟨n, hn⟩ : ∃ n, n = Lib.countByte l 47 + 1 := ⟨_, rfl⟩
  refine of_strings_Split (gCall_v (Q := fun v w' => Ev w w' ∧ Ss w' v (strsU l)) (of_strings_genSplit ?_) fun v w' hq => ⟨v, rfl, hq⟩)
  refine gIf_eq (fun h => by simp at h) (fun _ => gIf_b (fun h => by rw [tl_mk] at h; simp at h) (fun _ => ?_))
  refine ⟨fun k w' => k = (n : Int) ∧ w' = w, gIf_t (gCall_i0 (Count1_any l 47) ⟨by rw [i64_id (by omega) (by omega)]; omega, rfl⟩), ?_⟩
  rintro _ k w1 ⟨rfl, rfl⟩
  have hmin : (if (i64 (((mkS l).size : Int) + 1)) < (n : Int) then (i64 (((mkS l).size : Int) + 1)) else (n : Int)) = (n : Int) := by
    rw [mkS_size, i64_id (by omega) (by omega), if_neg (by omega)]
  rw [hmin, hcs, i64_id (n := (n : Int) - 1) (by omega) (by omega)]
  refine fMakeR 16 (.string ⟨#[]⟩) (sz := 1) (Fr.start w1) (by omega) (by unfold maxLen; omega) (fun v w2 f2 => ?_) (by kernel_rfl)
  rw [made1 _ _ rfl] at f2
  -- the end of the walk: the rest is the last part
  have fin : ∀ {rest : List UInt8} {done : List (List UInt8)} {w' : World}, partsU l = done ++ [rest] → Fr w1 w' [rIt (elOf P t_sl_string) 1 v n (done.map (fun p => Value.string (mkS p)) ++ List.replicate (n - done.length) (Value.string ⟨#[]⟩))] → done.length + 1 = n →
      gIdx P t_sl_string v (.int .i64 (done.length : Int)) fun t61 => gStore P t_string (.pointer (some t61)) (.string (mkS rest)) w' fun w7 => gSlice P t_sl_string v none (some (.int .i64 (i64 ((done.length : Int) + 1)))) none fun t65 => retOk shV (fun v w' => (Ev w1 w' ∧ Ss w' v (strsU l))) (.returned t65) w7 := fun {rest done w'} hp g hd => by
    refine gIdx_r g.1 rfl (by omega) fun ad hs => fStoreR1 g 0 rfl hs (by omega) rfl rfl fun w7 g7 => ?_
    have hset : (done.map (fun p => Value.string (mkS p)) ++ List.replicate (n - done.length) (Value.string ⟨#[]⟩)).set done.length (.string (mkS rest)) = (strsU l).map .string := by
      rw [show n - done.length = 0 + 1 by omega, List.replicate_succ, List.set_append_right _ _ (by simp), List.length_map, Nat.sub_self, List.set_cons_zero]
      unfold strsU; rw [hp]; simp
    rw [hset] at g7
    have hs7 := g7.row 0 rfl
    obtain ⟨a, c, rfl, hnc⟩ := hs7.shape
    rw [i64_id (n := (done.length : Int) + 1) (by omega) (by omega)]
    refine gSlice_any (l := 0) (h := n) (sz := 1) (.inl ⟨rfl, rfl⟩) (.inr ⟨.i64, by rw [show ((done.length : Int) + 1) = ((n : Nat) : Int) by omega]⟩) (Nat.zero_le _) hnc ?_ (by kernel_rfl)
    refine ⟨_, rfl, g7.old, ?_⟩
    have := hs7.sub 0 n (Nat.zero_le _) (Nat.le_refl _)
    have hnl : (strsU l).length = n := by unfold strsU; rw [List.length_map, hpl, hn]
    unfold Ss
    rw [hnl]
    rw [Nat.sub_zero, Nat.zero_mul, List.drop_zero, List.take_of_length_le (by rw [List.length_map, hnl]; omega)] at this
    exact this
  refine ⟨fun s i w' => ∃ (rest : List UInt8) (done : List (List UInt8)), s = mkS rest ∧ i = (done.length : Int) ∧ partsU l = done ++ partsU rest ∧ done.length + Lib.countByte rest 47 + 1 = n ∧ rest.length ≤ l.length ∧
    Fr w1 w' [rIt (elOf P t_sl_string) 1 v n (done.map (fun p => Value.string (mkS p)) ++ List.replicate (n - done.length) (Value.string ⟨#[]⟩))], fun _ i _ => (n - i).toNat, ?_, ?_⟩
  · exact ⟨l, [], rfl, rfl, rfl, by simp; omega, Nat.le_refl _, f2⟩
  rintro _ s i w5 ⟨rest, done, rfl, rfl, hp, hd, hrl, g5⟩
  refine gIf_dec (fun hlt => gCall_i0 (Index1_any rest 47) (gIf_dec (fun hneg => ?_) (fun hpos => ?_))) (fun hge => ?_)
  · have := Lib.indexByte_ge rest 47
    obtain ⟨h1, h2⟩ := partsU_no (l := rest) (by omega)
    omega
  · obtain ⟨m, hm⟩ : ∃ m : Nat, Lib.indexByte rest 47 = (m : Int) := ⟨(Lib.indexByte rest 47).toNat, by omega⟩
    obtain ⟨h1, h2, h3⟩ := partsU_at hm
    rw [hm, i64_id (n := (m : Int) + 0) (by omega) (by omega)]
    refine gSliceS_mk (a := 0) (b := m) (.inl ⟨rfl, rfl⟩) (.inr ⟨.i64, by rw [Int.add_zero]⟩) (Nat.zero_le _) (by omega) ?_
    rw [List.drop_zero, Nat.sub_zero]
    refine gIdx_r g5.1 rfl (by omega) fun ad hs => fStoreR1 g5 0 rfl hs (by omega) rfl rfl fun w8 g8 => ?_
    rw [i64_id (n := (m : Int) + ((1 : Nat) : Int)) (by omega) (by omega), i64_id (n := (done.length : Int) + 1) (by omega) (by omega)]
    refine gSliceS_mk (a := m + 1) (b := rest.length) (.inr ⟨.i64, rfl⟩) (.inl ⟨rfl, rfl⟩) (by omega) (Nat.le_refl _) ?_
    rw [List.take_of_length_le (by rw [List.length_drop]; omega)]
    refine ⟨⟨rest.drop (m + 1), done ++ [rest.take m], rfl, by simp, by rw [hp, h2]; simp, by simp; omega, by rw [List.length_drop]; omega, ?_⟩, by dsimp only; omega⟩
    have hset : (done.map (fun p => Value.string (mkS p)) ++ List.replicate (n - done.length) (Value.string ⟨#[]⟩)).set done.length (.string (mkS (rest.take m))) = (done ++ [rest.take m]).map (fun p => Value.string (mkS p)) ++ List.replicate (n - (done ++ [rest.take m]).length) (Value.string ⟨#[]⟩) := by
      rw [show n - done.length = (n - done.length - 1) + 1 by omega, List.replicate_succ, List.set_append_right _ _ (by simp), List.length_map, Nat.sub_self, List.set_cons_zero]
      simp [Nat.sub_sub]
    rw [hset] at g8
    exact g8
  · have hc0 : Lib.countByte rest 47 = 0 := by omega
    have hno : Lib.indexByte rest 47 = -1 := by
      refine Decidable.byContradiction fun hne => ?_
      have := Lib.indexByte_ge rest 47
      obtain ⟨m, hm⟩ : ∃ m : Nat, Lib.indexByte rest 47 = (m : Int) := ⟨(Lib.indexByte rest 47).toNat, by omega⟩
      have := (partsU_at hm).2.2; omega
    obtain ⟨h1, _⟩ := partsU_no hno
    rw [h1] at hp
    exact fin hp g5 (by omega)
theorem eq_tl {a b : List UInt8} : ((mkS a).toList == (mkS b).toList) = (a == b) := by rw [tl_mk, tl_mk]
theorem Right1_any (p : List UInt8) : Calls P n_names_Right_1 #[.string (mkS p)] w (fun e w' => e = .returned (.bool (badU p)) ∧ w' = w) := by
  refine of_names_Right_1 ?_
  have e0 : ((mkS p).toList == (ByteArray.mk #[]).toList) = (p == []) := eq_tl (b := [])
  have e1 : ((mkS p).toList == (ByteArray.mk #[46]).toList) = (p == [46]) := eq_tl (b := [46])
  have e2 : ((mkS p).toList == (ByteArray.mk #[46, 46]).toList) = (p == [46, 46]) := eq_tl (b := [46, 46])
  rw [e0, e1, e2]
  refine gIf_nb (fun h0 => gIf_nb (fun h1 => ⟨by unfold badU; rw [h0, h1]; rfl, rfl⟩) (fun h1 => ⟨by unfold badU; rw [h0, h1]; rfl, rfl⟩)) (fun h0 => ⟨by unfold badU; rw [h0]; rfl, rfl⟩)
theorem IndexBad_any {v : Value} {ps : List (List UInt8)} (hv : Ss w v (ps.map mkS)) (hl : ps.length ≤ 1000000000) : Calls P n_slices_ContainsFunc_string_string #[v, .func (.func n_names_Right_1) #[] #[]] w (fun e w' => e = .returned (.bool (ps.any badU)) ∧ w' = w) := by
  have hvl : Sl w 1 v ps.length (ps.map (fun p => Value.string (mkS p))) := by
    have := hv; unfold Ss at this; rw [List.length_map, List.map_map] at this; exact this
  refine of_slices_ContainsFunc_string_string ?_
  have hI : Calls P n_slices_IndexFunc_string_string #[v, .func (.func n_names_Right_1) #[] #[]] w (fun e w' => ∃ r : Int, e = .returned (.int .i64 r) ∧ decide (r ≥ 0) = ps.any badU ∧ w' = w) := by
    refine of_slices_IndexFunc_string_string (gLen_slv hvl ⟨fun i w' => ∃ j : Nat, i = (j : Int) ∧ j ≤ ps.length ∧ ps.any badU = (ps.drop j).any badU ∧ w' = w, fun i _ => (ps.length - i).toNat, ⟨0, rfl, Nat.zero_le _, rfl, rfl⟩, ?_⟩)
    rintro _ i w1 ⟨j, rfl, hj, hany, rfl⟩
    refine gIf_dec (fun hlt => ?_) (fun hge => ?_)
    · have hlt' : j < ps.length := by omega
      rw [List.drop_eq_getElem_cons hlt', List.any_cons] at hany
      refine gIdx_sz hvl hlt' fun ad hc _ => ?_
      have hc0 := hc 0 (.string (mkS ps[j])) (by omega) (by simp [hlt'])
      rw [Addr.add_zero'] at hc0
      refine gLoad_s hc0 (gCallV_of rfl (by kernel_rfl) (Right1_any ps[j]) ?_)
      rintro _ _ ⟨rfl, rfl⟩
      refine ⟨_, rfl, gIf_b (fun h => ⟨(j : Int), rfl, ?_, rfl⟩) (fun h => ⟨⟨j + 1, by rw [i64_id (by omega) (by omega)]; omega, by omega, ?_, rfl⟩, by dsimp only; rw [i64_id (by omega) (by omega)]; omega⟩)⟩
      · rw [hany, h, decide_eq_true (by omega)]; rfl
      · rw [hany, h]; rfl
    · refine ⟨-1, rfl, ?_, rfl⟩
      rw [hany, List.drop_of_length_le (by omega)]; rfl
  refine gCall_of hI ?_
  rintro _ _ ⟨r, rfl, hr, rfl⟩
  exact ⟨r, rfl, by rw [hr], rfl⟩
theorem Right_any (s : ByteArray) : Calls P n_names_Right #[.string s] w (fun e w' => e = .returned (.bool (rightN s)) ∧ Ev w w') := by
  obtain ⟨l, rfl⟩ : ∃ l, s = mkS l := ⟨s.data.toList, (mkS_self s).symm⟩
  unfold rightN rightU
  rw [mkS_data]
  refine of_names_Right ?_
  rw [mkS_size]
  refine gIf_ndec (fun hle => gCall_b0 (Contains1_any l 0) (gIf_b (fun hc => ?_) (fun hc => ?_))) (fun hgt => ?_)
  · refine ⟨?_, Ch.refl _ w⟩
    unfold okU; rw [hc]; simp
  · refine gCall_of (nSplit_any (by omega)) ?_
    rintro _ w2 ⟨v, rfl, h2, hv⟩
    refine ⟨v, rfl, gCall_b0 (IndexBad_any (ps := partsU l) hv ?_) ⟨?_, h2⟩⟩
    · rw [partsU_len _ (Nat.le_refl l.length)]; have := count_le l; omega
    · unfold okU; rw [hc, decide_eq_true (by omega)]; rfl
  · exact ⟨by rw [decide_eq_false (by omega)]; rfl, Ch.refl _ w⟩
/-! ### The reference -/
end
end Go.Proofs.YtiimlfgjnapgjaaGreatDoorV

/- Entries: copies, how much, Sort; Spoil. -/
namespace Go.Proofs.YtiimlfgjnapgjaaGreatDoorV
open Go Go.RowKit
noncomputable abbrev eE : TypeId := elOf P t_sl_api_Entry
/-- Entries in memory of their own. -/
noncomputable def ownF (v : Value) (us : List E3) : List It := rIt eE 2 v us.length (cells3 us) :: us.reverse.map fun u => oIt .u8 eB u.2.1 u.2.2
theorem erMap_len {us : List E3} {l : List En} (h : us.map er = l) : us.length = l.length := by rw [← h, List.length_map]
section
variable {w0 w w' : World} {F : List It}
theorem Es.own {v : Value} {us : List E3} (f : Fr w0 w (ownF v us)) : Es w v us :=
  ⟨f.row 0 rfl, fun u hu => by
    have hm : oIt .u8 eB u.2.1 u.2.2 ∈ ownF v us := List.mem_cons_of_mem _ (List.mem_map.2 ⟨u, List.mem_reverse.2 hu, rfl⟩)
    have : ON .u8 eB w 0 u.2.1 u.2.2 := (f.mem hm).1
    exact this.nm⟩
theorem Es.shape {v : Value} {us : List E3} (h : Es w v us) : ∃ a c, v = .slice a us.length c ∧ us.length ≤ c := h.1.shape
theorem Es.nil (w : World) : Es w (.slice none 0 0) [] := ⟨Sl.of_ownS (World.ownsRow_nil w 0 eE 2), fun _ h => by cases h⟩
theorem Sl.of_st2 {ad : Addr} {s : ByteArray} {d : Value} (h : St w ad [.string s, d]) : Sl w 2 (.slice (some ad) 1 1) 1 [.string s, d] :=
  ⟨some ad, 1, rfl, Nat.le_refl _, rfl, fun ad' ha j u hj => by injection ha with ha; subst ha; exact St.cell h hj, fun h => by cases h⟩
/-- An element of entries: its two cells. -/
theorem gIdx_E {i : Int} {ki : IntKind} {v : Value} {us : List E3} {j : Nat} {u : E3} {K : Addr → Prop} (h : Es w v us) (hij : i = (j : Int)) (hu : us[j]? = some u) (hk : ∀ ad, w.cell? (ad.add 0) = some (.string u.1) → w.cell? (ad.add 1) = some u.2.1 → K ad) : gIdx P t_sl_api_Entry v (.int ki i) K := by
  subst hij
  exact gIdx_sz h.1 (List.getElem?_eq_some_iff.1 hu).1 (fun ad hc _ => let ⟨h1, h2⟩ := h.cell hu hc; hk ad h1 h2)
theorem gLoad_E {ad : Addr} {s : ByteArray} {d : Value} {K : ByteArray → Value → Prop} (h0 : w.cell? (ad.add 0) = some (.string s)) (h1 : w.cell? (ad.add 1) = some d) (hk : K s d) : gLoad P t_api_Entry (.part (.agg [.str, .val])) (.pointer (some ad)) w K :=
  gLoad_agg [.string s, d] (fun j u hj => by
    rcases j with _ | _ | j
    · simp at hj; subst hj; exact h0
    · simp at hj; subst hj; exact h1
    · simp at hj) hk rfl (by kernel_rfl)
def Small (us : List E3) : Prop := us.length ≤ 100000000 ∧ ∀ u ∈ us, u.2.2.length ≤ 1000000000000 ∧ u.1.size ≤ 1000000000000
theorem Es.oc {v : Value} {us : List E3} (h : Es w v us) : ∀ u ∈ us, u.2.1.oneCell' = true := fun u hu => (h.2 u hu).oc
theorem own_any {v : Value} {us : List E3} (hv : Es w v us) (hs : Small us) : Calls P n_names_own #[v] w (fun e w' => ∃ v' us', e = .returned v' ∧ us'.map er = us.map er ∧ Fr w w' (ownF v' us')) := by
  have hus := hs.1
  refine of_names_own (gLen_slv hv.1 ⟨fun out i w' => ∃ (k : Nat) (os : List E3), i = (k : Int) ∧ k ≤ us.length ∧ os.map er = (us.take k).map er ∧ Fr w w' (ownF out os), fun _ i _ => (us.length - i).toNat, ⟨0, [], rfl, Nat.zero_le _, rfl, (Fr.start w).nilR eE 2⟩, ?_⟩)
  rintro _ out i w1 ⟨k, os, rfl, hk, hos, f1⟩
  refine gIf_dec (fun hlt => ?_) (fun hge => ?_)
  · have hlt' : k < us.length := by omega
    have hu : us[k]? = some us[k] := List.getElem?_eq_getElem hlt'
    have hmem : us[k] ∈ us := List.getElem_mem hlt'
    have htk : us.take (k + 1) = us.take k ++ [us[k]] := List.take_succ_eq_append_getElem hlt'
    generalize us[k] = u at hu hmem htk
    have hosl : os.length = k := by have := congrArg List.length hos; simp at this; omega
    have hnu := hv.2 u hmem
    refine gIdx_E (hv.ev f1.old) rfl hu fun ad h0 h1 => gLoad_E h0 h1 (fAlloc (z := .agg #[.string ⟨#[]⟩, .slice none 0 0]) f1 (by kernel_rfl) fun x5 w2 f2 => ?_)
    refine fStoreA f2 0 rfl (fun w3 f3 => ?_) rfl (fun x hx => by simp at hx; rcases hx with rfl | rfl; rfl; exact hnu.oc)
    refine ⟨fun w' => Ev w w' ∧ w'.cell? (x5.add 0) = some (.string u.1) ∧ w'.cell? (x5.add 1) = some u.2.1, ⟨f3.drew.old, f3.drew.cell 0 0 rfl rfl, f3.drew.cell 0 1 rfl rfl⟩, gLoadB_s (fun w' hw => hw.2.1) (gLoadB_v (fun w' hw => hw.2.2) ?_)⟩
    refine fApp0 f3.drew (hnu.ev f3.drew.old) (by have := (hs.2 u hmem).1; omega) fun t17 w4 f4 => ⟨⟨f4.old, f4.cell 1 0 rfl rfl, f4.cell 1 1 rfl rfl⟩, ?_⟩
    have hn := f4.nm 0 rfl
    refine ⟨hn.one, fLit_sz 2 [[.string u.1, t17]] f4 rfl rfl (fun v hv => by simp at hv; subst hv; rfl) (fun ad w5 f5 => ⟨⟨f5.old, f5.cell 2 0 rfl rfl, f5.cell 2 1 rfl rfl⟩, ?_⟩) (by decide) (by kernel_rfl) (by decide +kernel)⟩
    refine fAppR 40 (m := 1) f5 3 rfl (Sl.of_st2 (f5.get 0 rfl)) (fun x hx => ?_) (by omega) (by unfold maxLen; omega) (fun v' w6 f6 => ⟨⟨f6.old, f6.cell 2 0 rfl rfl, f6.cell 2 1 rfl rfl⟩, ?_⟩) (by kernel_rfl)
    · simp at hx; rcases hx with rfl | rfl
      · rfl
      · exact hn.oc
    · have f7 := f6.picksN 4 [3, 1] (by decide) (by decide)
      have e1 : ownF v' (os ++ [(u.1, t17, u.2.2)]) = rIt eE 2 v' (os.length + 1) (cells3 os ++ [.string u.1, t17]) :: oIt .u8 eB t17 u.2.2 :: os.reverse.map fun u => oIt .u8 eB u.2.1 u.2.2 := by
        unfold ownF; rw [cells3_app, List.length_append, List.reverse_append]; rfl
      refine ⟨⟨k + 1, os ++ [(u.1, t17, u.2.2)], by rw [i64_id (by omega) (by omega)]; omega, by omega, ?_, by rw [e1]; exact f7⟩, by dsimp only; rw [i64_id (by omega) (by omega)]; omega⟩
      rw [htk, List.map_append, List.map_append, hos]; rfl
  · exact ⟨out, os, rfl, by rw [hos, List.take_of_length_le (by omega)], f1⟩
theorem much_any {v : Value} {us : List E3} (hv : Es w v us) (hs : Small us) : Calls P n_names_much #[v] w (fun e w' => e = .returned (.bool (much (us.map er))) ∧ Ev w w') := by
  have hus := hs.1
  refine of_names_much (gLen_slv hv.1 ⟨fun d c i w' => ∃ k : Nat, i = (k : Int) ∧ k ≤ us.length ∧ d = sumD ((us.take k).map er) ∧ c = sumN ((us.take k).map er) ∧ d ≤ 1048576 ∧ c ≤ 1048576 ∧ Ev w w', fun _ _ i _ => (us.length - i).toNat, ⟨0, rfl, Nat.zero_le _, rfl, rfl, by decide, by decide, Ch.refl _ w⟩, ?_⟩)
  rintro _ d c i w1 ⟨k, rfl, hk, hd, hc, hd1, hc1, he⟩
  refine gIf_dec (fun hlt => ?_) (fun hge => ?_)
  · have hlt' : k < us.length := by omega
    have hu : us[k]? = some us[k] := List.getElem?_eq_getElem hlt'
    have hmem : us[k] ∈ us := List.getElem_mem hlt'
    have htk : us.take (k + 1) = us.take k ++ [us[k]] := List.take_succ_eq_append_getElem hlt'
    have hall : us = us.take (k + 1) ++ us.drop (k + 1) := (List.take_append_drop _ _).symm
    generalize us[k] = u at hu hmem htk
    have hsd : sumD ((us.take (k + 1)).map er) = d + (u.2.2.length : Int) := by rw [htk, List.map_append, sumD_app, hd]; simp [sumD, er]
    have hsn : sumN ((us.take (k + 1)).map er) = c + (u.1.size : Int) := by rw [htk, List.map_append, sumN_app, hc]; simp [sumN, er]
    have hd0 : 0 ≤ d := by rw [hd]; exact sumD_nn _
    have hc0 : 0 ≤ c := by rw [hc]; exact sumN_nn _
    have hbig := hs.2 u hmem
    have hnu := hv.2 u hmem
    have over : (d + (u.2.2.length : Int) > 1048576 ∨ c + (u.1.size : Int) > 1048576) → much (us.map er) = true := fun ho => by
      have h1 : sumD (us.map er) = d + (u.2.2.length : Int) + sumD ((us.drop (k + 1)).map er) := by
        rw [← hsd, ← sumD_app, ← List.map_append, List.take_append_drop]
      have h2 : sumN (us.map er) = c + (u.1.size : Int) + sumN ((us.drop (k + 1)).map er) := by
        rw [← hsn, ← sumN_app, ← List.map_append, List.take_append_drop]
      have h3 := sumD_nn ((us.drop (k + 1)).map er)
      have h4 := sumN_nn ((us.drop (k + 1)).map er)
      unfold much
      rcases ho with ho | ho
      · rw [decide_eq_true (show 1048576 < sumD (us.map er) by omega)]; simp
      · rw [decide_eq_true (show 1048576 < sumN (us.map er) by omega)]; simp
    refine gIdx_E (hv.ev he) rfl hu fun ad h0 h1 => gLoad_E h0 h1 (fAlloc (z := .agg #[.string ⟨#[]⟩, .slice none 0 0]) (Fr.start w1) (by kernel_rfl) fun x5 w2 f2 => ?_)
    refine fStoreA f2 0 rfl (fun w3 f3 => ?_) rfl (fun x hx => by simp at hx; rcases hx with rfl | rfl; rfl; exact hnu.oc)
    refine gLoad_v (f3.cell 0 1 rfl rfl) (gLen_nm (hnu.ev (he.trans f3.old)) (gLoad_s (f3.cell 0 0 rfl rfl) ?_))
    rw [i64_id (n := d + (u.2.2.length : Int)) (by omega) (by omega), i64_id (n := c + (u.1.size : Int)) (by omega) (by omega)]
    refine gIf_ndec (fun h1 => gIf_dec (fun h2 => ?_) (fun h2 => ?_)) (fun h1 => ?_)
    · exact ⟨by rw [over (.inr h2)], he.trans f3.old⟩
    · exact ⟨⟨k + 1, by rw [i64_id (by omega) (by omega)]; omega, by omega, hsd.symm, hsn.symm, by omega, by omega, he.trans f3.old⟩, by dsimp only; rw [i64_id (by omega) (by omega)]; omega⟩
    · exact ⟨by rw [over (.inl h1)], he.trans f3.old⟩
  · refine gLen_slv (hv.ev he).1 ⟨?_, he⟩
    rw [List.take_of_length_le (by omega)] at hd hc
    unfold much
    rw [← hd, ← hc, decide_eq_false (show ¬ 1048576 < d by omega), decide_eq_false (show ¬ 1048576 < c by omega), Bool.or_false, Bool.or_false, List.length_map]
    by_cases h : 4096 < us.length
    · rw [decide_eq_true h, decide_eq_true (by omega)]
    · rw [decide_eq_false h, decide_eq_false (by omega)]
theorem Clone_any {v : Value} {us : List E3} (hv : Es w v us) (hl : us.length ≤ 1000000000) : Calls P n_slices_Clone_api_Entry_api_Entry #[v] w (fun e w' => ∃ v', e = .returned v' ∧ Fr w w' [rIt eE 2 v' us.length (cells3 us)]) := by
  obtain ⟨a, c, rfl, hc⟩ := hv.shape
  refine of_slices_Clone_api_Entry_api_Entry (gEq_snil (gIf_b (fun hn => ?_) (fun hn => ?_)))
  · have : a = none := Option.isNone_iff_eq_none.1 hn
    subst this
    obtain ⟨a', c', e1, _, _, _, h4⟩ := hv.1
    injection e1 with e1 _ _
    have h0 := h4 e1.symm
    have : us = [] := List.eq_nil_of_length_eq_zero h0
    subst this
    exact ⟨_, rfl, (Fr.start w).nilR eE 2⟩
  · refine fLitR0 (sz := 2) (Fr.start w) rfl (fun t5 w1 f1 => ?_) (by kernel_rfl)
    refine fAppR 40 f1 0 rfl (hv.1.ev f1.old) (one3 hv.oc) (by omega) (by unfold maxLen; omega) (fun v' w2 f2 => ⟨v', rfl, ?_⟩) (by kernel_rfl)
    rw [Nat.zero_add, List.nil_append] at f2; exact f2
theorem Sort1_any (s : ByteArray) (d : Value) (hd : d.oneCell' = true) : Calls P n_names_Sort_1 #[.agg #[.string s, d]] w (fun e w' => e = .returned (.bool (!rightN s)) ∧ Ev w w') :=
  of_names_Sort_1 (fBox (Fr.start w) fun x1 w1 f1 => gLoad_s (f1.cell 0 0 rfl rfl) (gCall_b (Right_any s) fun w2 h2 => ⟨rfl, f1.old.trans h2⟩))
theorem ContainsWrong_any {v : Value} {us : List E3} (hv : Es w v us) (hl : us.length ≤ 1000000000) : Calls P n_slices_ContainsFunc_api_Entry_api_Entry #[v, .func (.func n_names_Sort_1) #[] #[]] w (fun e w' => e = .returned (.bool ((us.map er).any fun x => !rightN x.1)) ∧ Ev w w') := by
  refine of_slices_ContainsFunc_api_Entry_api_Entry ?_
  have hI : Calls P n_slices_IndexFunc_api_Entry_api_Entry #[v, .func (.func n_names_Sort_1) #[] #[]] w (fun e w' => ∃ r : Int, e = .returned (.int .i64 r) ∧ decide (r ≥ 0) = ((us.map er).any fun x => !rightN x.1) ∧ Ev w w') := by
    refine of_slices_IndexFunc_api_Entry_api_Entry (gLen_slv hv.1 ⟨fun i w' => ∃ j : Nat, i = (j : Int) ∧ j ≤ us.length ∧ ((us.map er).any fun x => !rightN x.1) = (((us.drop j).map er).any fun x => !rightN x.1) ∧ Ev w w', fun i _ => (us.length - i).toNat, ⟨0, rfl, Nat.zero_le _, rfl, Ch.refl _ w⟩, ?_⟩)
    rintro _ i w1 ⟨j, rfl, hj, hany, he⟩
    refine gIf_dec (fun hlt => ?_) (fun hge => ?_)
    · have hlt' : j < us.length := by omega
      rw [List.drop_eq_getElem_cons hlt', List.map_cons, List.any_cons] at hany
      have hu : us[j]? = some us[j] := List.getElem?_eq_getElem hlt'
      have hmem : us[j] ∈ us := List.getElem_mem hlt'
      generalize us[j] = u at hu hmem hany
      refine gIdx_E (hv.ev he) rfl hu fun ad h0 h1 => gLoad_E h0 h1 (gCallV_of rfl (by kernel_rfl) (Sort1_any u.1 u.2.1 (hv.oc u hmem)) ?_)
      rintro _ w2 ⟨rfl, h2⟩
      refine ⟨_, rfl, gIf_b (fun h => ⟨(j : Int), rfl, ?_, he.trans h2⟩) (fun h => ⟨⟨j + 1, by rw [i64_id (by omega) (by omega)]; omega, by omega, ?_, he.trans h2⟩, by dsimp only; rw [i64_id (by omega) (by omega)]; omega⟩)⟩
      · rw [hany, decide_eq_true (by omega)]; show true = (!rightN u.1 || _); rw [h]; rfl
      · rw [hany]; show (!rightN u.1 || _) = _; rw [h]; rfl
    · refine ⟨-1, rfl, ?_, he⟩
      rw [hany, List.drop_of_length_le (by omega)]; rfl
  refine gCall_of hI ?_
  rintro _ w2 ⟨r, rfl, hr, h2⟩
  exact ⟨r, rfl, by rw [hr], h2⟩
end
end Go.Proofs.YtiimlfgjnapgjaaGreatDoorV
