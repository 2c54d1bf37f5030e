/- Find, Put, Drop: the program's and the reference's. -/
import Derived.Test.YtdknadlkadoloaaDoorVNamesF
import Derived.Test.YtdknadlkadoloaaDoorVNodes8
namespace Go.Proofs.YtdknadlkadoloaaDoorV
open Go Go.RowKit
section
variable {w0 w w' : World} {F : List It}
theorem upw_lt {us : List E3} (hu : Upw (us.map er)) {i j : Nat} {x y : E3} (hx : us[i]? = some x) (hy : us[j]? = some y) (hij : i < j) : nlt y.1 x.1 = false := by
  have h1 := (List.getElem?_eq_some_iff.1 hx)
  have h2 := (List.getElem?_eq_some_iff.1 hy)
  obtain ⟨h1, e1⟩ := h1
  obtain ⟨h2, e2⟩ := h2
  have := List.pairwise_iff_getElem.1 hu i j (by simpa using h1) (by simpa using h2) hij
  simp only [List.getElem_map, er] at this
  rw [← e1, ← e2]; exact this
theorem BinarySearch_any {v d : Value} {us : List E3} {s : ByteArray} (hv : Es w v us) (hu : Upw (us.map er)) (hl : us.length ≤ 1000000000) (hd : d.oneCell' = true) :
    Calls P n_slices_BinarySearchFunc_api_Entry_api_Entry_api_Entry #[v, .agg #[.string s, d], byV] w (fun e w' => e = .returned (.tuple #[.int .i64 (atN (us.map er) s), .bool (hasN (us.map er) s)]) ∧ Ev w w') := by
  refine of_slices_BinarySearchFunc_api_Entry_api_Entry_api_Entry (fBox (Fr.start w) fun t4 w1 f1 => gLen_slv hv.1 ?_)
  refine ⟨fun i j w' => ∃ p q : Nat, i = (p : Int) ∧ j = (q : Int) ∧ p ≤ q ∧ q ≤ us.length ∧ (∀ k x, k < p → us[k]? = some x → nlt x.1 s = true) ∧ (∀ k x, q ≤ k → us[k]? = some x → nlt x.1 s = false) ∧ Fr w w' [sIt t4 [.string s, d]], fun i j _ => (j - i).toNat, ⟨0, us.length, rfl, rfl, Nat.zero_le _, Nat.le_refl _, fun _ _ h => by omega, fun k x hk hx => by
    have := (List.getElem?_eq_some_iff.1 hx).1; omega, f1⟩, ?_⟩
  rintro _ i j w2 ⟨p, q, rfl, rfl, hpq, hq, hlo, hhi, f2⟩
  have hv2 := hv.ev f2.old
  have hcell : ∀ {w' : World}, Ev w2.drew w' → ∀ (z : Nat) (u : Value), [Value.string s, d][z]? = some u → w'.cell? (t4.add z) = some u := fun he z u hz => Ch.cell he (f2.drew.cell 0 z rfl hz) fun h => h
  have hload : ∀ {u : E3} {ad : Addr} {w' : World}, w2.cell? (ad.add 0) = some (.string u.1) → w2.cell? (ad.add 1) = some u.2.1 → Ev w2.drew w' → ∀ (z : Nat) (y : Value), [Value.string u.1, u.2.1][z]? = some y → w'.cell? (ad.add z) = some y := fun {u ad w'} h0 h1 hw z y hz => by
    rcases z with _ | _ | z
    · simp at hz; subst hz; exact Ch.cell hw h0 fun h => h
    · simp at hz; subst hz; exact Ch.cell hw h1 fun h => h
    · simp at hz
  refine gIf_dec (fun hlt => ?_) (fun hge => ?_)
  · rw [mid_eq p q rfl rfl (by omega)]
    have hh1 : p ≤ (p + q) / 2 := by omega
    have hh2 : (p + q) / 2 < q := by omega
    generalize (p + q) / 2 = m at hh1 hh2
    have hux := List.getElem?_eq_getElem (show m < us.length by omega)
    have hmem : us[m] ∈ us := List.getElem_mem (show m < us.length by omega)
    generalize us[m] = u at hux hmem
    refine ⟨fun w' => Ev w2.drew w', Ch.refl _ _, gIdx_E hv2 rfl hux fun ad h0 h1 => gLoadB_agg [.string u.1, u.2.1] (fun w' hw => hload h0 h1 hw) (gLoadB_agg [.string s, d] (fun w' hw => hcell hw) (gCmp (hv.oc u hmem) hd fun w3 h3 => ⟨h3, ?_⟩))⟩
    rw [cmpN_lt, i64_id (n := (m : Int) + 1) (by omega) (by omega)]
    refine gIf_b (fun hc => ⟨⟨m + 1, q, by omega, rfl, by omega, hq, fun k x hk hx => ?_, hhi, f2.drew.ev h3⟩, by dsimp only; omega⟩) (fun hc => ⟨⟨p, m, rfl, rfl, hh1, by omega, hlo, fun k x hk hx => ?_, f2.drew.ev h3⟩, by dsimp only; omega⟩)
    · by_cases e : k = m
      · subst e; rw [hux] at hx; injection hx with hx; subst hx; exact hc
      · have h4 := upw_lt hu hx hux (by omega)
        cases h5 : nlt x.1 s with
        | true => rfl
        | false => rw [nle_tr h5 h4] at hc; cases hc
    · by_cases e : k = m
      · subst e; rw [hux] at hx; injection hx with hx; subst hx; exact hc
      · exact nle_tr hc (upw_lt hu hux hx (by omega))
  · have hpq : p = q := by omega
    subst hpq
    have hat : atN (us.map er) s = p := atN_eq (by rw [List.length_map]; exact hq) (fun k x hk hx => by
      rw [List.getElem?_map, Option.map_eq_some_iff] at hx
      obtain ⟨y, hy, rfl⟩ := hx
      exact hlo k y hk hy) (fun x hx => by
      rw [List.getElem?_map, Option.map_eq_some_iff] at hx
      obtain ⟨y, hy, rfl⟩ := hx
      exact hhi p y (Nat.le_refl _) hy)
    unfold hasN
    rw [hat]
    refine ⟨fun w' => Ev w2.drew w', Ch.refl _ _, gIf_dec (fun hlt => ?_) (fun hge2 => ?_)⟩
    · have hux := List.getElem?_eq_getElem (show p < us.length by omega)
      have hmem : us[p] ∈ us := List.getElem_mem (show p < us.length by omega)
      rw [List.getElem?_map, hux]
      generalize us[p] = u at hux hmem
      refine gIdx_E hv2 rfl hux fun ad h0 h1 => gLoadB_agg [.string u.1, u.2.1] (fun w' hw => hload h0 h1 hw) (gLoadB_agg [.string s, d] (fun w' hw => hcell hw) (gCmp (hv.oc u hmem) hd fun w3 h3 => ⟨h3, ?_, (f2.drew.ev h3).old⟩))
      have : (cmpN u.1 s == 0) = decide (u.1 = s) := ncmp_eq u.1 s
      rw [this]; rfl
    · rw [List.getElem?_eq_none (by rw [List.length_map]; omega)]
      exact ⟨rfl, f2.drew.old⟩
theorem Find_any {v : Value} {us : List E3} (s : ByteArray) (hv : Es w v us) (hu : Upw (us.map er)) (hl : us.length ≤ 1000000000) : Calls P n_names_Find #[v, .string s] w (fun e w' => e = .returned (.int .i64 (findN (us.map er) s)) ∧ Ev w w') := by
  refine of_names_Find (gCall_of (BinarySearch_any hv hu hl rfl) ?_)
  rintro _ w1 ⟨rfl, h1⟩
  refine ⟨_, _, rfl, ?_⟩
  unfold findN
  refine gIf_nb (fun h => ?_) (fun h => ?_)
  · rw [h]; exact ⟨rfl, h1⟩
  · rw [h]; exact ⟨rfl, h1⟩
theorem refFind_any {v : Value} {us : List E3} (s : ByteArray) (hv : Es w v us) (hl : us.length ≤ 1000000000) : Calls P n_valiseref28_Find #[v, .string s] w (fun e w' => e = .returned (.int .i64 (findN (us.map er) s)) ∧ w' = w) := by
  refine of_valiseref28_Find (gCall_i0 (refAt_any s hv hl) (gLen_slv hv.1 ?_))
  have hle := atN_le (us.map er) s
  rw [List.length_map] at hle
  refine gIf_dec (fun hlt => ?_) (fun hge => ?_)
  · have hux := List.getElem?_eq_getElem (show atN (us.map er) s < us.length by omega)
    have hh : hasN (us.map er) s = decide ((us[atN (us.map er) s]'(by omega)).1 = s) := by unfold hasN; rw [List.getElem?_map, hux]; rfl
    generalize us[atN (us.map er) s] = u at hux hh
    refine gIdx_E hv rfl hux fun ad h0 _ => gLoad_s h0 ?_
    rw [tl_eqb]
    refine gIf_dec (fun h => ⟨?_, rfl⟩) (fun h => ⟨?_, rfl⟩)
    · unfold findN; rw [hh, decide_eq_true h]; rfl
    · unfold findN; rw [hh, decide_eq_false h]; rfl
  · have hh : hasN (us.map er) s = false := by unfold hasN; rw [List.getElem?_eq_none (by rw [List.length_map]; omega)]
    refine ⟨?_, rfl⟩
    unfold findN; rw [hh]; rfl
theorem gExt_b {f : FuncId} {args : Array Value} {ee : Array Value → Sem Value} {b : Bool} {K : Bool → World → Prop} (he : (P.funcs[f]?).bind Extern.find = some ee) (hr : (ee args).run P w = .ok (.bool b) w) (hk : K b w) (h : isExt P f = true) : gExt P f shB args w K :=
  ⟨b, w, run_ext h he hr, hk⟩
theorem noOverlap {ad1 ad2 : Addr} {n1 c1 n2 c2 : Nat} {cc1 cc2 : Array Value} {e1 e2 : TypeId} {ps rs : Array TypeId} (hp : ps[0]? = some t_sl_api_Entry) (h1 : w.heap[ad1.block]? = some (.cells cc1 e1 (0, 0))) (h2 : w.heap[ad2.block]? = some (.cells cc2 e2 (0, 0))) (hne : ad1.block ≠ ad2.block) :
    (Extern.SlicesOverlaps.overlaps ps rs #[.slice (some ad1) n1 c1, .slice (some ad2) n2 c2]).run P w = .ok (.bool false) w := by
  have hu : P.underlying t_sl_api_Entry = some (.slice t_api_Entry) := by kernel_rfl
  have hi : ∃ i, P.info? t_api_Entry = some i := by
    cases h : P.info? t_api_Entry with
    | none => exact absurd (show (P.info? t_api_Entry).isSome = true by kernel_rfl) (by rw [h]; decide)
    | some i => exact ⟨i, rfl⟩
  obtain ⟨i, hi⟩ := hi
  have hb : (ad1.block != ad2.block) = true := by simpa using hne
  have hb2 : (ad1.block == ad2.block) = false := by simpa using hne
  conv => lhs; arg 2; whnf
  rw [hp]
  simp only [Sem.run_bind, run_underlying hu, Result.andThen_ok, sizeOf, typeInfo, run_program, hi, Sem.run_pure]
  split
  · rfl
  · simp [hb, hb2, World.frozen?, h1, h2, noView, viewAt, World.shape?, mayBeOne, stringish]
theorem Insert_any {v : Value} {us : List E3} {ad : Addr} {s : ByteArray} {d : Value} {xs : List Int} (f : Fr w0 w (rIt eE 2 v us.length (cells3 us) :: sIt ad [.string s, d] :: F)) (ho : ∀ u ∈ us, u.2.1.oneCell' = true) (hd : d.oneCell' = true) (i : Nat) (hi : i ≤ us.length) (hl : us.length ≤ 1000000000) :
    Calls P n_slices_Insert_api_Entry_api_Entry #[v, .int .i64 i, .slice (some ad) 1 1] w (fun e w' => ∃ v', e = .returned v' ∧ Fr w0 w' (rIt eE 2 v' (us.take i ++ (s, d, xs) :: us.drop i).length (cells3 (us.take i ++ (s, d, xs) :: us.drop i)) :: F)) := by
  have hsl := f.row 0 rfl
  have hlit := Sl.of_st2 (f.get 1 rfl)
  have ox : ∀ x ∈ [Value.string s, d], x.oneCell' = true := fun x hx => by
    simp at hx; rcases hx with rfl | rfl
    · rfl
    · exact hd
  have e1 : ∀ (A B : List E3), cells3 A ++ [Value.string s, d] ++ cells3 B = cells3 (A ++ (s, d, xs) :: B) := fun A B => by rw [cells3_app, cells3_cons]; simp
  have e2 : (us.take i ++ (s, d, xs) :: us.drop i).length = us.length + 1 := by simp; omega
  rw [← e1, e2]
  refine of_slices_Insert_api_Entry_api_Entry (gSl_from hsl i rfl hi (gLen_slv hlit (gIf_eq (fun h => by simp at h) (fun _ => gLen_slv hsl (gIf_eq (fun heq => ?_) (fun hne => ?_))))))
  · obtain rfl : i = us.length := by omega
    refine fAppR 40 (m := 1) f 0 rfl hlit ox (by omega) (by unfold maxLen; omega) (fun v' w1 f1 => ⟨v', rfl, ?_⟩) (by kernel_rfl)
    rw [List.take_length, List.drop_length, show cells3 [] = [] from rfl, List.append_nil]
    exact f1.picksN 2 [0] (by decide) (by decide)
  · have hi' : i < us.length := by omega
    rcases row_cases f.1 with ⟨_, h0⟩ | ⟨g, c, rfl⟩
    · omega
    obtain ⟨cur, hg, hn, hm, hs, htk, hcl⟩ := row_block f.1
    have hsub : ∀ j, subV 2 (rowV g us.length c) 0 j = rowV g j c := fun j => by rw [subV_row, Nat.zero_mul]; split <;> rfl
    have hsubm : ∀ j m, subV 2 (rowV g m c) 0 j = rowV g j c := fun j m => by rw [subV_row, Nat.zero_mul]; split <;> rfl
    refine gCap_sl ?_
    rw [i64_id (n := ((us.length : Nat) : Int) + ((1 : Nat) : Int)) (by omega) (by omega)]
    refine gIf_dec (fun hgt => ?_) (fun hle => ?_)
    · -- no room
      refine gSl_to hsl i rfl hi ?_
      rw [hsub, i64_id (n := ((us.length : Nat) : Int) + ((1 : Nat) : Int) - i) (by omega) (by omega), show ((us.length : Nat) : Int) + ((1 : Nat) : Int) - i = ((us.length + 1 - i : Nat) : Int) by omega]
      have hpre : Sl w 2 (rowV g i c) i (cells3 (us.take i)) := by
        have := (hsl.split i hi).1
        rw [hsub, List.length_take, Nat.min_eq_left hi] at this; exact this
      refine fAppZ (z := .agg #[.string ⟨#[]⟩, .slice none 0 0]) 40 f hpre (by omega) (by omega) (by omega) (fun g' c' w2 hc' f2 => ?_) (by kernel_rfl) (by kernel_rfl)
      have hin : i + (us.length + 1 - i) = us.length + 1 := by omega
      rw [hin] at f2 hc' ⊢
      have hZ : (Builtin.zeroCells (Value.agg #[.string ⟨#[]⟩, .slice none 0 0]).cells (us.length + 1 - i)).toList.length = (us.length + 1 - i) * 2 := by rw [Array.length_toList, size_zeroCells]; rfl
      generalize (Builtin.zeroCells (Value.agg #[.string ⟨#[]⟩, .slice none 0 0]).cells (us.length + 1 - i)).toList = Z at f2 hZ
      have hA : (cells3 (us.take i)).length = i * 2 := by rw [cells3_len, List.length_take, Nat.min_eq_left hi]
      have hfr : ∀ (j : Nat) {K : Value → Prop}, j ≤ us.length + 1 → K (subV 2 (rowV g' (us.length + 1) c') j (us.length + 1)) → gSlice P t_sl_api_Entry (rowV g' (us.length + 1) c') (some (.int .i64 (j : Int))) none none K := fun j K hj hk =>
        gSlice_any (l := j) (h := us.length + 1) (.inr ⟨.i64, rfl⟩) (.inl ⟨rfl, rfl⟩) hj hc' hk (by kernel_rfl)
      refine hfr i (by omega) (fCopyR 40 f2 (by omega) (Nat.le_refl _) (Sl.of_st2 (f2.get 2 rfl)) (fun u hu => ox u (List.mem_of_mem_take hu)) (fun w3 q hq f3 => ?_) (by kernel_rfl))
      have hq1 : q = 1 := by omega
      subst hq1
      have h3 : (cells3 (us.take i) ++ Z).take (i * 2) ++ [Value.string s, d].take (1 * 2) ++ (cells3 (us.take i) ++ Z).drop ((i + 1) * 2) = cells3 (us.take i) ++ [Value.string s, d] ++ Z.drop 2 := by
        have a1 : (cells3 (us.take i) ++ Z).take (i * 2) = cells3 (us.take i) := by rw [← hA, List.take_left]
        have a2 : (cells3 (us.take i) ++ Z).drop ((i + 1) * 2) = Z.drop 2 := by rw [show (i + 1) * 2 = (cells3 (us.take i)).length + 2 by rw [hA]; omega, ← List.drop_drop, List.drop_left]
        rw [a1, a2]; rfl
      rw [h3] at f3
      refine ⟨fun _ => True, trivial, ?_⟩
      rw [i64_id (n := (i : Int) + ((1 : Nat) : Int)) (by omega) (by omega), show (i : Int) + ((1 : Nat) : Int) = ((i + 1 : Nat) : Int) by omega]
      have hold : Sl w3.drew 2 (rowV g us.length c) us.length (cells3 us) := f3.row 1 rfl
      refine hfr (i + 1) (by omega) (gSl_from hold i rfl hi (fCopyR 40 f3.drew (by omega) (Nat.le_refl _) (hold.split i hi).2 (fun u hu => one3 (us := us.drop i) (fun x hx => ho x (List.mem_of_mem_drop hx)) u (List.mem_of_mem_take hu)) (fun w4 q hq f4 => ⟨trivial, rowV g' (us.length + 1) c', rfl, ?_⟩) (by kernel_rfl)))
      rw [List.length_drop] at hq
      have hq2 : q = us.length - i := by omega
      subst hq2
      have hfin : (cells3 (us.take i) ++ [Value.string s, d] ++ Z.drop 2).take ((i + 1) * 2) ++ (cells3 (us.drop i)).take ((us.length - i) * 2) ++ (cells3 (us.take i) ++ [Value.string s, d] ++ Z.drop 2).drop ((i + 1 + (us.length - i)) * 2) = cells3 (us.take i) ++ [Value.string s, d] ++ cells3 (us.drop i) := by
        have l1 : (cells3 (us.take i) ++ [Value.string s, d]).length = (i + 1) * 2 := by rw [List.length_append, hA]; simp; omega
        have b1 : (cells3 (us.take i) ++ [Value.string s, d] ++ Z.drop 2).take ((i + 1) * 2) = cells3 (us.take i) ++ [Value.string s, d] := by rw [← l1, List.take_left]
        have b2 : (cells3 (us.drop i)).take ((us.length - i) * 2) = cells3 (us.drop i) := List.take_of_length_le (by rw [cells3_len, List.length_drop]; omega)
        have b3 : (cells3 (us.take i) ++ [Value.string s, d] ++ Z.drop 2).drop ((i + 1 + (us.length - i)) * 2) = [] := List.drop_of_length_le (by rw [List.length_append, l1, List.length_drop, hZ]; omega)
        rw [b1, b2, b3, List.append_nil]
      rw [hfin] at f4
      exact f4.picksN 3 [0] (by decide) (by decide)
    · -- room behind it
      have hroom : us.length + 1 ≤ c := by omega
      refine gSlice_any (l := 0) (h := us.length + 1) (sz := 2) (.inl ⟨rfl, rfl⟩) (.inr ⟨.i64, rfl⟩) (Nat.zero_le _) hroom ?_ (by kernel_rfl)
      rw [hsub]
      obtain ⟨zs, hzl, f1⟩ := fWiden f (us.length + 1) (by omega) hroom
      have hzl2 : zs.length = 2 := by rw [hzl]; omega
      have hfr : ∀ (j : Nat) {K : Value → Prop}, j ≤ us.length + 1 → K (subV 2 (rowV g (us.length + 1) c) j (us.length + 1)) → gSlice P t_sl_api_Entry (rowV g (us.length + 1) c) (some (.int .i64 (j : Int))) none none K := fun j K hj hk =>
        gSlice_any (l := j) (h := us.length + 1) (.inr ⟨.i64, rfl⟩) (.inl ⟨rfl, rfl⟩) hj hroom hk (by kernel_rfl)
      rw [i64_id (n := (i : Int) + ((1 : Nat) : Int)) (by omega) (by omega), show (i : Int) + ((1 : Nat) : Int) = ((i + 1 : Nat) : Int) by omega]
      refine hfr (i + 1) (by omega) ?_
      have hst : St w ad [.string s, d] := f.get 1 rfl
      obtain ⟨_, cl, el, hlc, _⟩ := hst
      have hgl : ad.block ≠ g := fun e => f.2.2.1 (sIt ad [.string s, d]) (by simp) g rfl (by show g = ad.block; exact e.symm)
      have hov : ∀ {ps rs : Array TypeId}, ps[0]? = some t_sl_api_Entry → (Extern.SlicesOverlaps.overlaps ps rs #[.slice (some ad) 1 1, subV 2 (rowV g (us.length + 1) c) (i + 1) (us.length + 1)]).run P w = .ok (.bool false) w := fun {ps rs} hp => by
        have : ∃ o : Addr, o.block = g ∧ subV 2 (rowV g (us.length + 1) c) (i + 1) (us.length + 1) = .slice (some o) (us.length + 1 - (i + 1)) (c - (i + 1)) := by
          rw [subV_row]; split
          · exact ⟨_, rfl, rfl⟩
          · exact ⟨_, rfl, rfl⟩
        obtain ⟨o, ho1, ho2⟩ := this
        rw [ho2]
        exact noOverlap hp hlc (by rw [ho1]; exact hg) (by rw [ho1]; exact hgl)
      refine gExt_b (ee := Extern.SlicesOverlaps.overlaps #[t_sl_api_Entry, t_sl_api_Entry] #[t_bool]) (by kernel_rfl) (hov rfl) ?_ (by kernel_rfl)
      refine gIf_nf ⟨fun _ => True, trivial, hfr (i + 1) (by omega) (hfr i (by omega) ?_)⟩
      have hsr : Sl w.drew 2 (subV 2 (rowV g (us.length + 1) c) i (us.length + 1)) (us.length + 1 - i) (cells3 (us.drop i) ++ zs) := by
        have hw : Sl w 2 (rowV g (us.length + 1) c) (us.length + 1) (cells3 us ++ zs) := f1.row 0 rfl
        have := hw.sub i (us.length + 1) (by omega) (Nat.le_refl _)
        rw [List.drop_append_of_le_length (by rw [cells3_len]; omega), cells3_drop, List.take_of_length_le (by rw [List.length_append, cells3_len, List.length_drop, hzl2]; omega)] at this
        exact this
      have hqm : min (us.length + 1 - i) (us.length + 1 - (i + 1)) = us.length - i := by omega
      refine fCopyR 40 f1.drew (by omega) (Nat.le_refl _) hsr (fun u hu => ?_) (fun w6 q hq f6 => ⟨trivial, ?_⟩) (by kernel_rfl)
      · rw [hqm, List.take_append_of_le_length (by rw [cells3_len, List.length_drop]; omega)] at hu
        exact one3 (us := us.drop i) (fun x hx => ho x (List.mem_of_mem_drop hx)) u (List.mem_of_mem_take hu)
      rw [hqm] at hq
      subst hq
      have h6 : (cells3 us ++ zs).take ((i + 1) * 2) ++ (cells3 (us.drop i) ++ zs).take ((us.length - i) * 2) ++ (cells3 us ++ zs).drop ((i + 1 + (us.length - i)) * 2) = cells3 (us.take (i + 1)) ++ cells3 (us.drop i) := by
        have b1 : (cells3 us ++ zs).take ((i + 1) * 2) = cells3 (us.take (i + 1)) := by rw [List.take_append_of_le_length (by rw [cells3_len]; omega), cells3_take]
        have b2 : (cells3 (us.drop i) ++ zs).take ((us.length - i) * 2) = cells3 (us.drop i) := by
          rw [List.take_append_of_le_length (by rw [cells3_len, List.length_drop]; omega)]
          exact List.take_of_length_le (by rw [cells3_len, List.length_drop]; omega)
        have b3 : (cells3 us ++ zs).drop ((i + 1 + (us.length - i)) * 2) = [] := List.drop_of_length_le (by rw [List.length_append, cells3_len, hzl2]; omega)
        rw [b1, b2, b3, List.append_nil]
      rw [h6] at f6
      refine hfr i (by omega) (fCopyR 40 f6 (by omega) (Nat.le_refl _) (Sl.of_st2 (f6.get 1 rfl)) (fun u hu => ox u (List.mem_of_mem_take hu)) (fun w7 q hq f7 => ⟨rowV g (us.length + 1) c, rfl, ?_⟩) (by kernel_rfl))
      have hq1 : q = 1 := by omega
      subst hq1
      have h7 : (cells3 (us.take (i + 1)) ++ cells3 (us.drop i)).take (i * 2) ++ [Value.string s, d].take (1 * 2) ++ (cells3 (us.take (i + 1)) ++ cells3 (us.drop i)).drop ((i + 1) * 2) = cells3 (us.take i) ++ [Value.string s, d] ++ cells3 (us.drop i) := by
        have hl1 : (cells3 (us.take (i + 1))).length = (i + 1) * 2 := by rw [cells3_len, List.length_take, Nat.min_eq_left (by omega)]
        rw [List.take_append_of_le_length (by omega), cells3_take, List.take_take, Nat.min_eq_left (by omega), ← hl1, List.drop_left]; rfl
      rw [h7] at f7
      exact f7.picksN 2 [0] (by decide) (by decide)
theorem Delete_any {v : Value} {us : List E3} (f : Fr w0 w (rIt eE 2 v us.length (cells3 us) :: F)) (ho : ∀ u ∈ us, u.2.1.oneCell' = true) (i : Nat) (hi : i < us.length) (hl : us.length ≤ 1000000000) :
    Calls P n_slices_Delete_api_Entry_api_Entry #[v, .int .i64 i, .int .i64 ((i + 1 : Nat) : Int)] w (fun e w' => ∃ v', e = .returned v' ∧ Fr w0 w' (rIt eE 2 v' (us.take i ++ us.drop (i + 1)).length (cells3 (us.take i ++ us.drop (i + 1))) :: F)) := by
  rcases row_cases f.1 with ⟨_, h0⟩ | ⟨g, c, rfl⟩
  · omega
  obtain ⟨cur, hg, hn, hm, hs, htk, hcl⟩ := row_block f.1
  have hsl := f.row 0 rfl
  have hsub : ∀ j, subV 2 (rowV g us.length c) 0 j = rowV g j c := fun j => by rw [subV_row, Nat.zero_mul]; split <;> rfl
  have hlen : (us.take i ++ us.drop (i + 1)).length = us.length - 1 := by simp; omega
  rw [hlen]
  refine of_slices_Delete_api_Entry_api_Entry (gLen_slv hsl (gSl3 (sz := 2) (by omega) (by omega) hn (fun _ => gIf_eq (fun h => by omega) (fun _ => gLen_slv hsl ⟨fun _ => True, trivial, gSl_to hsl i rfl (by omega) (gSl_from hsl (i + 1) rfl (by omega) ?_)⟩)) (by kernel_rfl)))
  rw [hsub]
  have hsp := (hsl.split (i + 1) (by omega)).2
  have fp := fPrefix f.drew i (by omega)
  rw [cells3_take] at fp
  refine fAppFits 40 fp hsp (one3 fun x hx => ho x (List.mem_of_mem_drop hx)) (by rw [List.length_drop]; omega) (fun w1 f1 => ⟨trivial, ?_⟩) (by kernel_rfl)
  have hnl : i + (us.drop (i + 1)).length = us.length - 1 := by rw [List.length_drop]; omega
  rw [hnl] at f1 ⊢
  rw [← cells3_app] at f1
  have hsl1 : Sl w1 2 (rowV g (us.length - 1) c) (us.length - 1) (cells3 (us.take i ++ us.drop (i + 1))) := f1.row 0 rfl
  refine gLen_slv hsl1 (gSlice_any (l := us.length - 1) (h := us.length) (sz := 2) (.inr ⟨.i64, rfl⟩) (.inr ⟨.i64, rfl⟩) (by omega) (by omega) ?_ (by kernel_rfl))
  rw [subV_row, if_neg (by omega)]
  refine fClear (m := us.length - (us.length - 1)) 40 f1 (by omega) (by omega) (fun z ii h1 h2 u hu => ?_) (fun u w2 f2 => ⟨_, rfl, f2⟩) (by kernel_rfl)
  have hz : (P.info? (elOf P t_sl_api_Entry)).bind (·.zero) = some (.agg #[.string ⟨#[]⟩, .slice none 0 0]) := by kernel_rfl
  rw [h1] at hz
  simp only [Option.bind_some] at hz
  rw [h2] at hz; injection hz with hz; subst hz
  simp [Value.cells] at hu
  rcases hu with rfl | rfl <;> rfl
end
end Go.Proofs.YtdknadlkadoloaaDoorV
