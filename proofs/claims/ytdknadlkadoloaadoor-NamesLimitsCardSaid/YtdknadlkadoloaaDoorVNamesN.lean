/- The law NamesLimits. -/
import Derived.Test.YtdknadlkadoloaaDoorVNamesM
namespace Go.Proofs.YtdknadlkadoloaaDoorV
open Go Go.RowKit
/-- The i-th long name. -/
def longB (i : Nat) : List Int := ((97 + i % 16 : Nat) : Int) :: ((97 + i / 16 : Nat) : Int) :: List.replicate 4094 97
def longE (i : Nat) : En := (bsOf (longB i), [])
theorem longB_in {i : Nat} (h : i < 256) : inR .u8 (longB i) := fun x hx => by
  unfold longB at hx
  rcases List.mem_cons.1 hx with rfl | hx
  · exact u8i (by omega)
  · rcases List.mem_cons.1 hx with rfl | hx
    · exact u8i (by omega)
    · rw [List.eq_of_mem_replicate hx]; exact u8i (by decide)
theorem longB_len (i : Nat) : (longB i).length = 4096 := by unfold longB; rw [List.length_cons, List.length_cons, List.length_replicate]
theorem bsOf_data (xs : List Int) : (bsOf xs).data.toList = xs.map fun x => UInt8.ofNat x.toNat := rfl
theorem u8_ne {n m : Nat} (hn : n < 256) (hm : m < 256) (h : n ≠ m) : UInt8.ofNat n ≠ UInt8.ofNat m := fun e => by
  have := congrArg UInt8.toNat e
  rw [UInt8.toNat_ofNat', UInt8.toNat_ofNat', Nat.mod_eq_of_lt hn, Nat.mod_eq_of_lt hm] at this
  exact h this
theorem longB_ne {i : Nat} (h : i < 256) {c : Nat} (hc : c < 97) : UInt8.ofNat c ∉ (bsOf (longB i)).data.toList := fun hm => by
  rw [bsOf_data] at hm
  obtain ⟨x, hx, he⟩ := List.mem_map.1 hm
  have hxr : 97 ≤ x ∧ x < 256 := by
    unfold longB at hx
    rcases List.mem_cons.1 hx with rfl | hx
    · omega
    · rcases List.mem_cons.1 hx with rfl | hx
      · omega
      · rw [List.eq_of_mem_replicate hx]; decide
  exact u8_ne (by omega) (by omega) (show x.toNat ≠ c by omega) he
theorem long_right {i : Nat} (h : i < 256) : rightN (bsOf (longB i)) = true := by
  have hl : (bsOf (longB i)).data.toList.length = 4096 := by rw [bsOf_data, List.length_map, longB_len]
  have h0 : (0 : UInt8) ∉ (bsOf (longB i)).data.toList := longB_ne h (c := 0) (by omega)
  have h47 : (47 : UInt8) ∉ (bsOf (longB i)).data.toList := longB_ne h (c := 47) (by omega)
  unfold rightN rightU okU
  rw [partsU_end _ h47, hl, decide_eq_true (by omega), List.contains_eq_mem, decide_eq_false h0, List.any_cons, List.any_nil]
  have hb : badU (bsOf (longB i)).data.toList = false := by
    generalize (bsOf (longB i)).data.toList = l at hl
    match l, hl with
    | [], h => cases h
    | [a], h => cases h
    | [a, b], h => cases h
    | a :: b :: c :: r, _ => simp [badU]
  rw [hb]; rfl
theorem long_inj {i j : Nat} (hi : i < 256) (hj : j < 256) (h : bsOf (longB i) = bsOf (longB j)) : i = j := by
  have := bsOf_inj (longB_in hi) (longB_in hj) (by rw [h])
  unfold longB at this
  injection this with h1 h2
  injection h2 with h2 _
  omega
def longL (n : Nat) : List En := (List.range n).map longE
theorem longL_nodup {n : Nat} (hn : n ≤ 256) : ((longL n).map (·.1)).Nodup := by
  unfold longL
  rw [List.map_map, List.nodup_iff_pairwise_ne, List.pairwise_map]
  refine List.Pairwise.imp_of_mem ?_ (List.pairwise_lt_range (n := n))
  intro i j hi hj hij e
  have := long_inj (Nat.lt_of_lt_of_le (List.mem_range.1 hi) hn) (Nat.lt_of_lt_of_le (List.mem_range.1 hj) hn) e
  omega
theorem sumD_nil (l : List En) (h : ∀ x ∈ l, x.2 = []) : sumD l = 0 := by
  induction l with
  | nil => rfl
  | cons x l ih => rw [sumD_cons, ih fun y hy => h y (by simp [hy]), h x (by simp)]; rfl
theorem sumN_const (c : Nat) (l : List En) (h : ∀ x ∈ l, x.1.size = c) : sumN l = c * l.length := by
  induction l with
  | nil => simp [sumN]
  | cons x l ih =>
    rw [sumN_cons, ih fun y hy => h y (by simp [hy]), h x (by simp), List.length_cons, Int.natCast_add, Int.mul_add]; simp; omega
theorem longL_sums (n : Nat) : sumD (longL n) = 0 ∧ sumN (longL n) = 4096 * n := by
  refine ⟨sumD_nil _ fun x hx => ?_, ?_⟩
  · obtain ⟨i, _, rfl⟩ := List.mem_map.1 hx; rfl
  · rw [sumN_const 4096 _ fun x hx => by obtain ⟨i, _, rfl⟩ := List.mem_map.1 hx; show (bsOf (longB i)).size = _; rw [bsOf_size, longB_len]]
    unfold longL; simp
theorem longL_right {n : Nat} (hn : n ≤ 256) : ((longL n).any fun x => !rightN x.1) = false := by
  rw [Bool.eq_false_iff, ne_eq, List.any_eq_true]
  rintro ⟨x, hx, hb⟩
  obtain ⟨i, hi, rfl⟩ := List.mem_map.1 hx
  have : rightN (longE i).1 = true := long_right (Nat.lt_of_lt_of_le (List.mem_range.1 hi) hn)
  rw [this] at hb; cases hb
theorem longL_len (n : Nat) : (longL n).length = n := by simp [longL]
theorem long_ok {n : Nat} (hn : n ≤ 256) : (sortE (longL n)).2 = 0 := by
  obtain ⟨h1, h2⟩ := longL_sums n
  have hm : much (longL n) = false := not_much (by rw [longL_len]; omega) (by omega) (by omega)
  unfold sortE
  rw [if_neg (by rw [longL_right hn]; decide), if_neg (show ¬¬ ((longL n).map (·.1)).Nodup from fun h => h (longL_nodup hn)), if_neg (by rw [hm]; decide)]
theorem long_over {z : ByteArray} (hz : z.size = 1) (hzr : rightN z = true) : (sortE (longL 256 ++ ([(z, [])] : List En))).2 = 5 := by
  obtain ⟨h1, h2⟩ := longL_sums 256
  have hm : much (longL 256 ++ ([(z, [])] : List En)) = true := by
    unfold much
    rw [sumN_app, h2]
    have : sumN ([(z, [])] : List En) = 1 := by simp [sumN, hz]
    rw [this, decide_eq_true (show (1048576 : Int) < 4096 * (256 : Nat) + 1 by decide)]; simp
  have hn : ((longL 256 ++ ([(z, [])] : List En)).map (·.1)).Nodup := by
    rw [List.map_append]
    show (_ ++ [z]).Nodup
    refine nodup_snoc.2 ⟨longL_nodup (Nat.le_refl _), fun hh => ?_⟩
    obtain ⟨x, hx, he⟩ := List.mem_map.1 hh
    obtain ⟨i, _, rfl⟩ := List.mem_map.1 hx
    have : (bsOf (longB i)).size = z.size := by rw [← he]; rfl
    rw [bsOf_size, longB_len, hz] at this; omega
  unfold sortE
  rw [if_neg (by rw [List.any_append, longL_right (Nat.le_refl _)]; simp [hzr]), if_neg (show ¬¬ ((longL 256 ++ ([(z, [])] : List En)).map (·.1)).Nodup from fun h => h hn), if_pos hm]
theorem short_sort {A B : List Int} {m : Nat} (hA : A.length = 524288) (hB : B.length = 524288 + m) (hm : m ≤ 1) : (sortE [(sB [97], A), (sB [98], B)]).2 = if 0 < m then 5 else 0 := by
  have ha : rightN (sB [97]) = true := by decide +kernel
  have hb : rightN (sB [98]) = true := by decide +kernel
  have hne : sB [97] ≠ sB [98] := by decide +kernel
  have hsa : (sB [97]).size = 1 := rfl
  have hsb : (sB [98]).size = 1 := rfl
  have hD : sumD [(sB [97], A), (sB [98], B)] = 1048576 + m := by rw [sumD_cons, sumD_cons]; simp only [hA, hB, sumD, List.map_nil, List.sum_nil]; omega
  have hN : sumN [(sB [97], A), (sB [98], B)] = 2 := by rw [sumN_cons, sumN_cons]; simp only [hsa, hsb, sumN, List.map_nil, List.sum_nil]; omega
  have hr : ([(sB [97], A), (sB [98], B)].any fun x => !rightN x.1) = false := by
    rw [List.any_cons, List.any_cons, List.any_nil]; dsimp only; rw [ha, hb]; rfl
  have hnd : ([(sB [97], A), (sB [98], B)].map (·.1)).Nodup := by
    show [sB [97], sB [98]].Nodup
    rw [List.nodup_cons]
    exact ⟨by simpa using hne, by simp⟩
  unfold sortE
  rw [if_neg (by rw [hr]; decide), if_neg (show ¬¬ ([(sB [97], A), (sB [98], B)].map (·.1)).Nodup from fun h => h hnd)]
  by_cases hm0 : 0 < m
  · have hmu : much [(sB [97], A), (sB [98], B)] = true := by unfold much; rw [hD, decide_eq_true (show (1048576 : Int) < 1048576 + m by omega)]; simp
    rw [if_pos hmu, if_pos hm0]
  · have hmu : much [(sB [97], A), (sB [98], B)] = false := not_much (by simp) (by rw [hD]; omega) (by rw [hN]; decide)
    rw [if_neg (by rw [hmu]; decide), if_neg hm0]
section
variable {w0 w w' : World} {F : List It}
/-- make of bytes. -/
theorem fMakeB {n : Nat} {i : Int} {K : Value → World → Prop} (f : Fr w0 w F) (hi : i = (n : Int)) (hn : n ≤ 10000000) (hk : ∀ v w', Fr w0 w' (oIt .u8 eB v (List.replicate n 0) :: F) → K v w') : gMake P t_sl_uint8 (.int .i64 i) (.int .i64 i) w K := by
  subst hi
  exact gMake_n (by omega) (by omega) fun v w' he ho => hk v w' (f.newO he ho)
/-- A byte is another one. -/
theorem fSetB {i : Int} {j : Nat} {v : Value} {xs : List Int} {x : Int} {K : World → Prop} (f : Fr w0 w (oIt .u8 eB v xs :: F)) (hij : i = (j : Int)) (hj : j < xs.length) (hx : 0 ≤ x ∧ x < 256) (hk : ∀ w', Fr w0 w' (oIt .u8 eB v (xs.set j x) :: F) → K w') :
    gIdx P t_sl_uint8 v (.int .i64 i) fun ad => gStore P t_uint8 (.pointer (some ad)) (.int .u8 x) w K := by
  subst hij
  refine gIdx_on (f.on 0 rfl) (by omega) (by omega) fun ad hs _ => gStore_on (f.on 0 rfl) hs (by omega) (by omega) (u8i hx) fun w' hc _ ho => hk w' ?_
  have := f.upd (jt := oIt .u8 eB v (xs.set j x)) 0 rfl hc (fun k _ hh => .inl hh) (ho.low (Nat.zero_le _)) fun k hk => .inl hk
  exact this
theorem fill97 (j : Nat) (h : j < 4096) : (List.replicate j (97 : Int) ++ List.replicate (4096 - j) 0).set j 97 = List.replicate (j + 1) 97 ++ List.replicate (4096 - (j + 1)) 0 := by
  rw [show 4096 - j = (4096 - (j + 1)) + 1 by omega, List.replicate_succ, List.set_append_right _ _ (by rw [List.length_replicate]; exact Nat.le_refl _), List.length_replicate, Nat.sub_self, List.set_cons_zero, List.replicate_succ', List.append_assoc]; rfl
theorem rep_two (a b : Int) : ((List.replicate 4096 (97 : Int)).set 0 a).set 1 b = a :: b :: List.replicate 4094 97 := by
  rw [show (4096 : Nat) = 4094 + 1 + 1 from rfl, List.replicate_succ, List.replicate_succ, List.set_cons_zero, List.set_cons_succ, List.set_cons_zero]
/-- The long list's entries in memory. -/
def lonE (i : Nat) : E3 := (bsOf (longB i), .slice none 0 0, [])
def lonL (n : Nat) : List E3 := (List.range n).map lonE
theorem lonL_er (n : Nat) : (lonL n).map er = longL n := by unfold lonL longL; rw [List.map_map]; rfl
theorem lonL_len (n : Nat) : (lonL n).length = n := by simp [lonL]
theorem lonL_succ (n : Nat) : lonL (n + 1) = lonL n ++ [lonE n] := by unfold lonL; rw [List.range_succ, List.map_append]; rfl
theorem lonL_mem {n : Nat} {u : E3} (h : u ∈ lonL n) : u.2.1 = .slice none 0 0 ∧ u.2.2 = [] ∧ u.1.size = 4096 := by
  obtain ⟨i, _, rfl⟩ := List.mem_map.1 h
  exact ⟨rfl, rfl, by show (bsOf (longB i)).size = _; rw [bsOf_size, longB_len]⟩
theorem lonL_Es {w : World} {v : Value} {n : Nat} (h : Sl w 2 v n (cells3 (lonL n))) : Es w v (lonL n) :=
  ⟨by rw [lonL_len]; exact h, fun u hu => by obtain ⟨h1, h2, _⟩ := lonL_mem hu; rw [h1, h2]; exact Nm.nil .u8 w⟩
theorem lonL_small {n : Nat} (hn : n ≤ 300) : Small (lonL n) := ⟨by rw [lonL_len]; omega, fun u hu => by obtain ⟨_, h2, h3⟩ := lonL_mem hu; rw [h2, h3]; simp⟩
set_option maxRecDepth 20000 in
theorem NamesLimits_law {n : Int} {b : Bool} (hn : IntKind.i64.min ≤ n ∧ n ≤ IntKind.i64.max) : Calls P n_valiselaw28_NamesLimits #[.int .i64 n, .bool b] w (Holds w) := by
  obtain ⟨X, hX, hX3⟩ : ∃ X : Int, i64 ((i64 (Int.tmod (u64 n) 3)) - 1) = X ∧ (X = -1 ∨ X = 0 ∨ X = 1) := by
    have h1 : 0 ≤ u64 n := by rw [u64_def]; omega
    have h2 : Int.tmod (u64 n) 3 = (u64 n) % 3 := Int.tmod_eq_emod_of_nonneg h1
    refine ⟨_, rfl, ?_⟩
    rw [h2, i64_id (n := u64 n % 3) (by omega) (by omega), i64_id (by omega) (by omega)]; omega
  refine of_valiselaw28_NamesLimits ?_
  rw [hX]
  clear hX
  refine ⟨fun l w' => ∃ us, Es w' l us ∧ Ev w w' ∧ Small us ∧ (sortE (us.map er)).2 = if b = true ∧ X = 0 then 5 else 0, ?_, ?_⟩
  · cases b with
    | true =>
      refine gIf_t ⟨fun l i w' => ∃ k : Nat, i = (k : Int) ∧ k ≤ 256 ∧ Fr w w' [rIt eE 2 l k (cells3 (lonL k))], fun _ i _ => (256 - i).toNat, ⟨0, rfl, by omega, (Fr.start w).nilR eE 2⟩, ?_⟩
      rintro _ l i w1 ⟨k, rfl, hk, f1⟩
      refine gIf_dec (fun hlt => ?_) (fun hge => ?_)
      · have hlt' : k < 256 := by omega
        refine fMakeB (n := 4096) f1 rfl (by omega) fun t23 w2 f2 => gLen_nm (f2.nm 0 rfl) ?_
        rw [List.length_replicate]
        refine ⟨fun q w' => ∃ j : Nat, q = (j : Int) ∧ j ≤ 4096 ∧ Fr w w' (oIt .u8 eB t23 (List.replicate j 97 ++ List.replicate (4096 - j) 0) :: [rIt eE 2 l k (cells3 (lonL k))]), fun q _ => (4096 - q).toNat, ⟨0, rfl, by omega, f2⟩, ?_⟩
        rintro _ q w3 ⟨j, rfl, hj, f3⟩
        refine gIf_dec (fun hl2 => ?_) (fun hg2 => ?_)
        · have hj' : j < 4096 := by omega
          refine fSetB f3 rfl (by rw [List.length_append, List.length_replicate, List.length_replicate]; omega) (by decide) fun w4 f4 => ?_
          rw [fill97 j hj'] at f4
          exact ⟨⟨j + 1, by rw [i64_id (by omega) (by omega)]; omega, by omega, f4⟩, by dsimp only; rw [i64_id (by omega) (by omega)]; omega⟩
        · have hj4 : j = 4096 := by omega
          subst hj4
          rw [Nat.sub_self, List.replicate_zero, List.append_nil] at f3
          have m1 : u8 (i64 (97 + (Int.tmod (k : Int) 16))) = ((97 + k % 16 : Nat) : Int) := by
            rw [Int.tmod_eq_emod_of_nonneg (by omega), i64_id (by omega) (by omega), u8_def]; omega
          have m2 : u8 (i64 (97 + (i64 (Int.tdiv (k : Int) 16)))) = ((97 + k / 16 : Nat) : Int) := by
            rw [Int.tdiv_eq_ediv_of_nonneg (by omega), i64_id (n := (k : Int) / 16) (by omega) (by omega), i64_id (by omega) (by omega), u8_def]; omega
          rw [m1, m2]
          refine fSetB (j := 0) f3 rfl (by rw [List.length_replicate]; omega) (by omega) fun w5 f5 => fSetB (j := 1) f5 rfl (by rw [List.length_set, List.length_replicate]; omega) (by omega) fun w6 f6 => ?_
          rw [rep_two] at f6
          have hb : Nm .u8 w6 t23 (longB k) := f6.nm 0 rfl
          refine gConv_bs hb (fLit_sz 2 [[.string (bsOf (longB k)), .slice none 0 0]] f6 rfl rfl (fun v hv => by simp at hv; subst hv; rfl) (fun ad w8 f8 => ?_) (by decide) (by kernel_rfl) (by decide +kernel))
          refine fAppR 40 (m := 1) f8 2 rfl (Sl.of_st2 (f8.get 0 rfl)) (fun y hy => by simp at hy; rcases hy with rfl | rfl <;> rfl) (by omega) (by unfold maxLen; omega) (fun t50 w9 f9 => ?_) (by kernel_rfl)
          refine ⟨⟨k + 1, by rw [i64_id (by omega) (by omega)]; omega, by omega, ?_⟩, by dsimp only; rw [i64_id (by omega) (by omega)]; omega⟩
          rw [lonL_succ, cells3_app]
          exact f9.picksN 3 [2] (by decide) (by decide)
      · have hk2 : k = 256 := by omega
        subst hk2
        have cut : ∀ {v : Value} {us : List E3} {w' : World} {Kc : Value → Prop}, Es w' v us → lonL 256 = us.take 256 → 255 ≤ us.length → (∀ v', Es w' v' (lonL 255) → Kc v') → gSlice P t_sl_api_Entry v none (some (.int .i64 255)) none Kc := fun {v us w' Kc} hE ht hul hk => by
          refine gSl_to hE.1 255 rfl hul (hk _ (lonL_Es ?_))
          have := (hE.1.split 255 hul).1
          have e1 : us.take 255 = lonL 255 := by
            have h1 : (us.take 256).take 255 = us.take 255 := by rw [List.take_take]; rfl
            rw [← h1, ← ht, lonL_succ, List.take_append_of_le_length (by rw [lonL_len]; omega), List.take_of_length_le (by rw [lonL_len]; omega)]
          rw [e1, lonL_len] at this
          exact this
        have hE1 : Es w1 l (lonL 256) := lonL_Es (f1.row 0 rfl)
        refine gIf_eq (fun h0 => ?_) (fun hne => ?_)
        · subst h0
          refine fLit_sz 2 [[.string (sB [122]), .slice none 0 0]] f1 rfl rfl (fun v hv => by simp at hv; subst hv; rfl) (fun ad w10 f10 => ?_) (by decide) (by kernel_rfl) (by decide +kernel)
          refine fAppR 40 (m := 1) f10 1 rfl (Sl.of_st2 (f10.get 0 rfl)) (fun y hy => by simp at hy; rcases hy with rfl | rfl <;> rfl) (by omega) (by unfold maxLen; omega) (fun t56 w11 f11 => ?_) (by kernel_rfl)
          refine gIf_dec (fun h => by omega) (fun _ => ?_)
          have e1 : (lonL 256 ++ [(sB [122], Value.slice none 0 0, [])]).length = 256 + 1 := by rw [List.length_append, lonL_len]; rfl
          refine ⟨lonL 256 ++ [(sB [122], .slice none 0 0, [])], ⟨?_, fun u hu => ?_⟩, f11.old, ⟨by rw [e1]; omega, fun u hu => ?_⟩, ?_⟩
          · rw [e1, cells3_app]; exact f11.row 1 rfl
          · rcases List.mem_append.1 hu with hu | hu
            · obtain ⟨h1, h2, _⟩ := lonL_mem hu; rw [h1, h2]; exact Nm.nil .u8 _
            · rw [List.mem_singleton.1 hu]; exact Nm.nil .u8 _
          · rcases List.mem_append.1 hu with hu | hu
            · exact (lonL_small (n := 256) (by omega)).2 u hu
            · rw [List.mem_singleton.1 hu]; decide
          · rw [List.map_append, lonL_er, if_pos ⟨rfl, rfl⟩]
            exact long_over (z := sB [122]) rfl (by decide +kernel)
        · have hX0 : ¬ (true = true ∧ X = 0) := fun h => hne h.2
          refine gIf_dec (fun hneg => ?_) (fun hpos => ?_)
          · refine cut hE1 (by rw [List.take_of_length_le (by rw [lonL_len]; exact Nat.le_refl _)]) (by rw [lonL_len]; omega) fun v' hv' => ⟨lonL 255, hv', f1.old, lonL_small (by omega), ?_⟩
            rw [lonL_er, if_neg hX0]; exact long_ok (by omega)
          · exact ⟨lonL 256, hE1, f1.old, lonL_small (by omega), by rw [lonL_er, if_neg hX0]; exact long_ok (by omega)⟩
    | false =>
      obtain ⟨m, hm, hm1, hmx⟩ : ∃ m : Nat, (if (0 : Int) > X then 0 else X) = (m : Int) ∧ m ≤ 1 ∧ (X > 0 ↔ 0 < m) := by
        rcases hX3 with h | h | h
        · exact ⟨0, by rw [h]; rfl, by omega, by omega⟩
        · exact ⟨0, by rw [h]; rfl, by omega, by omega⟩
        · exact ⟨1, by rw [h]; rfl, by omega, by omega⟩
      have hsz : i64 (524288 + (m : Int)) = ((524288 + m : Nat) : Int) := by rw [i64_id (by omega) (by omega)]; omega
      rw [hm, hsz]
      -- what stands behind both makes
      have tail : ∀ {w13 : World} {t61 t66 : Value} {A B : List Int}, A.length = 524288 → B.length = 524288 + m → Ev w w13 → Nm .u8 w13 t61 A → Nm .u8 w13 t66 B →
          gLit P t_sl_api_Entry 2 #[(0, .agg #[.string (sB [97]), t61]), (1, .agg #[.string (sB [98]), t66])] w13 fun t68 w14 => True ∧ gIf (decide (X > 0)) (gCall P n_names_Sort (.tup [.one .val, .one (.int .i64)]) #[t68] w14 fun (t73_1 : Value) (t73_2 : Int) ww15 => gCall P n_valiselaw28_awake shB #[] ww15 fun (t76 : Bool) ww16 => gIf t76 (Holds w (.returned (.bool (t73_2 == 5))) ww16) (Holds w (.returned (.bool false)) ww16))
            (∃ us, Es w14 t68 us ∧ Ev w w14 ∧ Small us ∧ (sortE (us.map er)).2 = if false = true ∧ X = 0 then 5 else 0) := fun {w13 t61 t66 A B} hA hB hev hnA hnB => by
        refine fLit_sz 2 [[.string (sB [97]), t61], [.string (sB [98]), t66]] (Fr.start w13) rfl rfl (fun v hv => by simp at hv; rcases hv with rfl | rfl <;> rfl) (fun ad w14 f14 => ⟨trivial, ?_⟩) (by decide) (by kernel_rfl) (by decide +kernel)
        have hE : Es w14 (.slice (some ad) 2 2) [(sB [97], t61, A), (sB [98], t66, B)] :=
          ⟨⟨some ad, 2, rfl, Nat.le_refl _, rfl, fun ad' ha j u hj => by injection ha with ha; subst ha; exact St.cell (f14.get 0 rfl) hj, fun h => by cases h⟩, fun u hu => by
            simp only [List.mem_cons, List.not_mem_nil, or_false] at hu
            rcases hu with rfl | rfl
            · exact hnA.ev f14.old
            · exact hnB.ev f14.old⟩
        have hS : Small [(sB [97], t61, A), (sB [98], t66, B)] := ⟨by simp, fun u hu => by
          simp only [List.mem_cons, List.not_mem_nil, or_false] at hu
          rcases hu with rfl | rfl
          · exact ⟨by dsimp only; omega, by show 1 ≤ _; omega⟩
          · exact ⟨by dsimp only; omega, by show 1 ≤ _; omega⟩⟩
        have hk := hev.trans f14.old
        have hss : (sortE (List.map er [(sB [97], t61, A), (sB [98], t66, B)])).2 = if 0 < m then 5 else 0 := short_sort hA hB hm1
        refine gIf_dec (fun hpos => ?_) (fun hneg => ⟨_, hE, hk, hS, ?_⟩)
        · refine gCall_of (Sort_any hE hS) ?_
          intro e15 w15 hr15
          obtain ⟨t73, u73, rfl, _, _, h15⟩ := SortR.own hr15
          rw [hss, if_pos (hmx.1 hpos)]
          exact ⟨_, _, rfl, gCall_b awake_any fun w16 h16 => gIf_t ⟨rfl, hk.trans (h15.trans h16)⟩⟩
        · rw [hss, if_neg (fun h => hneg (hmx.2 h)), if_neg (fun h => by cases h.1)]
      refine gIf_f ⟨fun _ => True, trivial, ?_, ?_⟩
      · refine fMakeB (n := 524288) (Fr.start w).drew rfl (by omega) fun t61 w12 f12 => ⟨trivial, (f12.nm 0 rfl).one, fMakeB (n := 524288 + m) f12 rfl (by omega) fun t66 w13 f13 => ⟨trivial, (f13.nm 0 rfl).one, ?_⟩⟩
        exact tail List.length_replicate List.length_replicate f13.old (f13.nm 1 rfl) (f13.nm 0 rfl)
      · refine fMakeB (n := 524288 + m) (Fr.start w).drew rfl (by omega) fun t66 w12 f12 => ⟨trivial, (f12.nm 0 rfl).one, fMakeB (n := 524288) f12 rfl (by omega) fun t61 w13 f13 => ⟨trivial, (f13.nm 0 rfl).one, ?_⟩⟩
        exact tail List.length_replicate List.length_replicate f13.old (f13.nm 0 rfl) (f13.nm 1 rfl)
  rintro _ l w22 ⟨us, hE, he, hs, hr⟩
  refine gCall_of (Sort_any hE hs) ?_
  intro e23 w23 hr23
  obtain ⟨t83, u83, rfl, _, _, h23⟩ := SortR.own hr23
  rw [hr]
  refine ⟨_, _, rfl, gCall_b awake_any fun w24 h24 => gIf_t ?_⟩
  have hfin : Ev w w24 := he.trans (h23.trans h24)
  cases b with
  | true =>
    refine gIf_t (gEq_bool ?_)
    by_cases h0 : X = 0
    · subst h0
      rw [if_pos ⟨rfl, rfl⟩]
      exact gIf_t (gIf_neqq (fun _ => ⟨rfl, hfin⟩) (fun h => by cases h))
    · rw [if_neg (fun h => h0 h.2), show (X == 0) = false by simpa using h0]
      exact gIf_t (gIf_neqq (fun h => (h rfl).elim) (fun _ => ⟨rfl, hfin⟩))
  | false =>
    refine gIf_f (gEq_bool ?_)
    rw [if_neg (fun h => by cases h.1)]
    exact gIf_t (gIf_neqq (fun h => (h rfl).elim) (fun _ => ⟨rfl, hfin⟩))
end
end Go.Proofs.YtdknadlkadoloaaDoorV
