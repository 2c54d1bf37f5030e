/- Which names may be: the program's Right and the reference's. -/
import Derived.Test.YtdknadlkadoloaaDoorVStrA
import Derived.Test.YtdknadlkadoloaaDoorVNamesA
namespace Go.Proofs.YtdknadlkadoloaaDoorV
open Go Go.RowKit
theorem partsU_ne : ∀ l : List UInt8, partsU l ≠ []
  | [] => by simp [partsU]
  | c :: r => by
    unfold partsU; split
    · simp
    · split <;> simp
theorem partsU_no {l : List UInt8} (h : Lib.indexByte l 47 = -1) : partsU l = [l] ∧ Lib.countByte l 47 = 0 := by
  induction l with
  | nil => exact ⟨rfl, rfl⟩
  | cons c r ih =>
    unfold Lib.indexByte at h
    split at h
    · simp at h
    · rename_i hc
      have hc' : c ≠ 47 := by simpa using hc
      split at h
      · rename_i hr
        obtain ⟨h1, h2⟩ := ih (by simpa using hr)
        refine ⟨?_, ?_⟩
        · unfold partsU; rw [if_neg hc', h1]
        · unfold Lib.countByte at *; rw [List.count_cons, h2]; simp [hc']
      · have := Lib.indexByte_ge r 47; omega
theorem partsU_at : ∀ {l : List UInt8} {i : Nat}, Lib.indexByte l 47 = (i : Int) → i < l.length ∧ partsU l = l.take i :: partsU (l.drop (i + 1)) ∧ Lib.countByte l 47 = Lib.countByte (l.drop (i + 1)) 47 + 1
  | [], i, h => by simp [Lib.indexByte] at h
  | c :: r, i, h => by
    unfold Lib.indexByte at h
    split at h
    · rename_i hc
      have hc' : c = 47 := by simpa using hc
      obtain rfl : i = 0 := by omega
      subst hc'
      exact ⟨by simp, by simp [partsU], by simp [Lib.countByte]⟩
    · rename_i hc
      have hc' : c ≠ 47 := by simpa using hc
      split at h
      · omega
      · have hge := Lib.indexByte_ge r 47
        rename_i hn
        have hn' : Lib.indexByte r 47 ≠ -1 := by simpa using hn
        obtain ⟨j, hj⟩ : ∃ j : Nat, Lib.indexByte r 47 = (j : Int) := ⟨(Lib.indexByte r 47).toNat, by omega⟩
        obtain rfl : i = j + 1 := by omega
        obtain ⟨h1, h2, h3⟩ := partsU_at hj
        refine ⟨by simp; omega, ?_, ?_⟩
        · rw [partsU, if_neg hc', h2]; simp
        · unfold Lib.countByte at *
          rw [List.drop_succ_cons, List.count_cons, h3]; simp [hc']
theorem partsU_len : ∀ (n : Nat) {l : List UInt8}, l.length ≤ n → (partsU l).length = Lib.countByte l 47 + 1
  | n, l, hn => by
    by_cases h : Lib.indexByte l 47 = -1
    · obtain ⟨h1, h2⟩ := partsU_no h
      rw [h1, h2]; rfl
    · have hge := Lib.indexByte_ge l 47
      obtain ⟨i, hi⟩ : ∃ i : Nat, Lib.indexByte l 47 = (i : Int) := ⟨(Lib.indexByte l 47).toNat, by omega⟩
      obtain ⟨h1, h2, h3⟩ := partsU_at hi
      cases n with
      | zero => omega
      | succ n =>
        rw [h2, h3, List.length_cons, partsU_len n (by rw [List.length_drop]; omega)]
theorem count_le (l : List UInt8) : Lib.countByte l 47 ≤ l.length := by unfold Lib.countByte; exact List.count_le_length
theorem contains_idx {l : List UInt8} {c : UInt8} : decide (Lib.indexByte l c ≥ 0) = l.contains c := by
  induction l with
  | nil => rfl
  | cons b r ih =>
    unfold Lib.indexByte
    rw [List.contains_cons]
    by_cases h : b = c
    · subst h; simp
    · have h2 : ¬ c = b := fun e => h e.symm
      have h3 := Lib.indexByte_ge r c
      have h4 : (b == c) = false := by simpa using h
      have h5 : (c == b) = false := by simpa using h2
      rw [if_neg (by rw [h4]; decide), h5, Bool.false_or, ← ih]
      by_cases h6 : Lib.indexByte r c = -1
      · rw [h6]; simp
      · rw [if_neg (by simpa using h6)]
        by_cases h7 : Lib.indexByte r c ≥ 0
        · rw [decide_eq_true h7, decide_eq_true (by omega)]
        · omega
section
variable {w0 w w' : World} {F : List It}
theorem Contains1_any (l : List UInt8) (c : UInt8) : Calls P n_strings_Contains #[.string (mkS l), .string (mkS [c])] w (fun e w' => e = .returned (.bool (l.contains c)) ∧ w' = w) :=
  of_strings_Contains (gCall_i0 (Index1_any l c) ⟨by rw [contains_idx], rfl⟩)
theorem Count1_any (l : List UInt8) (c : UInt8) : Calls P n_strings_Count #[.string (mkS l), .string (mkS [c])] w (fun e w' => e = .returned (.int .i64 (Lib.countByte l c)) ∧ w' = w) := by
  have hcs : (mkS [c]).size = 1 := rfl
  have hone : rd (sOf (mkS [c])) 0 = (c.toNat : Int) := by simp [rd, sOf, mkS]
  have hback : (c.toNat : Int).toNat.toUInt8 = c := by simp
  refine of_strings_Count ?_
  rw [hcs]
  refine gIf_eq (fun h => by simp at h) (fun _ => gIf_eq (fun _ => gIndex_s (j := 0) rfl (by rw [hcs]; decide) ?_) (fun h => (h rfl).elim))
  rw [hone]
  refine gExt_i (by kernel_rfl) (Lib.run_countString _ _ w) ?_ (by kernel_rfl)
  rw [hback, mkS_data]; exact ⟨rfl, rfl⟩
def strsU (l : List UInt8) : List ByteArray := (partsU l).map mkS
theorem made1 (z : Value) (n : Nat) (h : z.cells = #[z]) : (madeCells z.cells (n * 1)).toList = List.replicate n z := by rw [h, Nat.mul_one, toList_madeCells_one]
/-- strings.Split at "/". -/
theorem Split_any {l : List UInt8} (hl : l.length ≤ 1000000) : Calls P n_strings_Split #[.string (mkS l), .string (mkS [47])] w (fun e w' => ∃ v, e = .returned v ∧ Ev w w' ∧ Ss w' v (strsU l)) := by
  have hcs : (mkS [47]).size = 1 := rfl
  have hcl := count_le l
  have hpl := partsU_len _ (Nat.le_refl l.length)
  obtain ⟨n, hn⟩ : ∃ n, n = Lib.countByte l 47 + 1 := ⟨_, rfl⟩
  refine of_strings_Split (gCall_v (Q := fun v w' => Ev w w' ∧ Ss w' v (strsU l)) (of_strings_genSplit ?_) fun v w' hq => ⟨v, rfl, hq⟩)
  refine gIf_eq (fun h => by simp at h) (fun _ => gIf_b (fun h => by rw [tl_mk] at h; simp at h) (fun _ => ?_))
  refine ⟨fun k w' => k = (n : Int) ∧ w' = w, gIf_t (gCall_i0 (Count1_any l 47) ⟨by rw [i64_id (by omega) (by omega)]; omega, rfl⟩), ?_⟩
  rintro _ k w1 ⟨rfl, rfl⟩
  have hmin : (if (i64 (((mkS l).size : Int) + 1)) < (n : Int) then (i64 (((mkS l).size : Int) + 1)) else (n : Int)) = (n : Int) := by
    rw [mkS_size, i64_id (by omega) (by omega), if_neg (by omega)]
  rw [hmin, hcs, i64_id (n := (n : Int) - 1) (by omega) (by omega)]
  refine fMakeR 16 (.string ⟨#[]⟩) (sz := 1) (Fr.start w1) (by omega) (by unfold maxLen; omega) (fun v w2 f2 => ?_) (by kernel_rfl)
  rw [made1 _ _ rfl] at f2
  -- the end of the walk: the rest is the last part
  have fin : ∀ {rest : List UInt8} {done : List (List UInt8)} {w' : World}, partsU l = done ++ [rest] → Fr w1 w' [rIt (elOf P t_sl_string) 1 v n (done.map (fun p => Value.string (mkS p)) ++ List.replicate (n - done.length) (Value.string ⟨#[]⟩))] → done.length + 1 = n →
      gIdx P t_sl_string v (.int .i64 (done.length : Int)) fun t61 => gStore P t_string (.pointer (some t61)) (.string (mkS rest)) w' fun w7 => gSlice P t_sl_string v none (some (.int .i64 (i64 ((done.length : Int) + 1)))) none fun t65 => retOk shV (fun v w' => (Ev w1 w' ∧ Ss w' v (strsU l))) (.returned t65) w7 := fun {rest done w'} hp g hd => by
    refine gIdx_r g.1 rfl (by omega) fun ad hs => fStoreR1 g 0 rfl hs (by omega) rfl rfl fun w7 g7 => ?_
    have hset : (done.map (fun p => Value.string (mkS p)) ++ List.replicate (n - done.length) (Value.string ⟨#[]⟩)).set done.length (.string (mkS rest)) = (strsU l).map .string := by
      rw [show n - done.length = 0 + 1 by omega, List.replicate_succ, List.set_append_right _ _ (by simp), List.length_map, Nat.sub_self, List.set_cons_zero]
      unfold strsU; rw [hp]; simp
    rw [hset] at g7
    have hs7 := g7.row 0 rfl
    obtain ⟨a, c, rfl, hnc⟩ := hs7.shape
    rw [i64_id (n := (done.length : Int) + 1) (by omega) (by omega)]
    refine gSlice_any (l := 0) (h := n) (sz := 1) (.inl ⟨rfl, rfl⟩) (.inr ⟨.i64, by rw [show ((done.length : Int) + 1) = ((n : Nat) : Int) by omega]⟩) (Nat.zero_le _) hnc ?_ (by kernel_rfl)
    refine ⟨_, rfl, g7.old, ?_⟩
    have := hs7.sub 0 n (Nat.zero_le _) (Nat.le_refl _)
    have hnl : (strsU l).length = n := by unfold strsU; rw [List.length_map, hpl, hn]
    unfold Ss
    rw [hnl]
    rw [Nat.sub_zero, Nat.zero_mul, List.drop_zero, List.take_of_length_le (by rw [List.length_map, hnl]; omega)] at this
    exact this
  refine ⟨fun s i w' => ∃ (rest : List UInt8) (done : List (List UInt8)), s = mkS rest ∧ i = (done.length : Int) ∧ partsU l = done ++ partsU rest ∧ done.length + Lib.countByte rest 47 + 1 = n ∧ rest.length ≤ l.length ∧
    Fr w1 w' [rIt (elOf P t_sl_string) 1 v n (done.map (fun p => Value.string (mkS p)) ++ List.replicate (n - done.length) (Value.string ⟨#[]⟩))], fun _ i _ => (n - i).toNat, ?_, ?_⟩
  · exact ⟨l, [], rfl, rfl, rfl, by simp; omega, Nat.le_refl _, f2⟩
  rintro _ s i w5 ⟨rest, done, rfl, rfl, hp, hd, hrl, g5⟩
  refine gIf_dec (fun hlt => gCall_i0 (Index1_any rest 47) (gIf_dec (fun hneg => ?_) (fun hpos => ?_))) (fun hge => ?_)
  · have := Lib.indexByte_ge rest 47
    obtain ⟨h1, h2⟩ := partsU_no (l := rest) (by omega)
    omega
  · obtain ⟨m, hm⟩ : ∃ m : Nat, Lib.indexByte rest 47 = (m : Int) := ⟨(Lib.indexByte rest 47).toNat, by omega⟩
    obtain ⟨h1, h2, h3⟩ := partsU_at hm
    rw [hm, i64_id (n := (m : Int) + 0) (by omega) (by omega)]
    refine gSliceS_mk (a := 0) (b := m) (.inl ⟨rfl, rfl⟩) (.inr ⟨.i64, by rw [Int.add_zero]⟩) (Nat.zero_le _) (by omega) ?_
    rw [List.drop_zero, Nat.sub_zero]
    refine gIdx_r g5.1 rfl (by omega) fun ad hs => fStoreR1 g5 0 rfl hs (by omega) rfl rfl fun w8 g8 => ?_
    rw [i64_id (n := (m : Int) + ((1 : Nat) : Int)) (by omega) (by omega), i64_id (n := (done.length : Int) + 1) (by omega) (by omega)]
    refine gSliceS_mk (a := m + 1) (b := rest.length) (.inr ⟨.i64, rfl⟩) (.inl ⟨rfl, rfl⟩) (by omega) (Nat.le_refl _) ?_
    rw [List.take_of_length_le (by rw [List.length_drop]; omega)]
    refine ⟨⟨rest.drop (m + 1), done ++ [rest.take m], rfl, by simp, by rw [hp, h2]; simp, by simp; omega, by rw [List.length_drop]; omega, ?_⟩, by dsimp only; omega⟩
    have hset : (done.map (fun p => Value.string (mkS p)) ++ List.replicate (n - done.length) (Value.string ⟨#[]⟩)).set done.length (.string (mkS (rest.take m))) = (done ++ [rest.take m]).map (fun p => Value.string (mkS p)) ++ List.replicate (n - (done ++ [rest.take m]).length) (Value.string ⟨#[]⟩) := by
      rw [show n - done.length = (n - done.length - 1) + 1 by omega, List.replicate_succ, List.set_append_right _ _ (by simp), List.length_map, Nat.sub_self, List.set_cons_zero]
      simp [Nat.sub_sub]
    rw [hset] at g8
    exact g8
  · have hc0 : Lib.countByte rest 47 = 0 := by omega
    have hno : Lib.indexByte rest 47 = -1 := by
      refine Decidable.byContradiction fun hne => ?_
      have := Lib.indexByte_ge rest 47
      obtain ⟨m, hm⟩ : ∃ m : Nat, Lib.indexByte rest 47 = (m : Int) := ⟨(Lib.indexByte rest 47).toNat, by omega⟩
      have := (partsU_at hm).2.2; omega
    obtain ⟨h1, _⟩ := partsU_no hno
    rw [h1] at hp
    exact fin hp g5 (by omega)
theorem eq_tl {a b : List UInt8} : ((mkS a).toList == (mkS b).toList) = (a == b) := by rw [tl_mk, tl_mk]
theorem Right1_any (p : List UInt8) : Calls P n_names_Right_1 #[.string (mkS p)] w (fun e w' => e = .returned (.bool (badU p)) ∧ w' = w) := by
  refine of_names_Right_1 ?_
  have e0 : ((mkS p).toList == (ByteArray.mk #[]).toList) = (p == []) := eq_tl (b := [])
  have e1 : ((mkS p).toList == (ByteArray.mk #[46]).toList) = (p == [46]) := eq_tl (b := [46])
  have e2 : ((mkS p).toList == (ByteArray.mk #[46, 46]).toList) = (p == [46, 46]) := eq_tl (b := [46, 46])
  rw [e0, e1, e2]
  refine gIf_nb (fun h0 => gIf_nb (fun h1 => ⟨by unfold badU; rw [h0, h1]; rfl, rfl⟩) (fun h1 => ⟨by unfold badU; rw [h0, h1]; rfl, rfl⟩)) (fun h0 => ⟨by unfold badU; rw [h0]; rfl, rfl⟩)
theorem IndexBad_any {v : Value} {ps : List (List UInt8)} (hv : Ss w v (ps.map mkS)) (hl : ps.length ≤ 1000000000) : Calls P n_slices_ContainsFunc_string_string #[v, .func (.func n_names_Right_1) #[] #[]] w (fun e w' => e = .returned (.bool (ps.any badU)) ∧ w' = w) := by
  have hvl : Sl w 1 v ps.length (ps.map (fun p => Value.string (mkS p))) := by
    have := hv; unfold Ss at this; rw [List.length_map, List.map_map] at this; exact this
  refine of_slices_ContainsFunc_string_string ?_
  have hI : Calls P n_slices_IndexFunc_string_string #[v, .func (.func n_names_Right_1) #[] #[]] w (fun e w' => ∃ r : Int, e = .returned (.int .i64 r) ∧ decide (r ≥ 0) = ps.any badU ∧ w' = w) := by
    refine of_slices_IndexFunc_string_string (gLen_slv hvl ⟨fun i w' => ∃ j : Nat, i = (j : Int) ∧ j ≤ ps.length ∧ ps.any badU = (ps.drop j).any badU ∧ w' = w, fun i _ => (ps.length - i).toNat, ⟨0, rfl, Nat.zero_le _, rfl, rfl⟩, ?_⟩)
    rintro _ i w1 ⟨j, rfl, hj, hany, rfl⟩
    refine gIf_dec (fun hlt => ?_) (fun hge => ?_)
    · have hlt' : j < ps.length := by omega
      rw [List.drop_eq_getElem_cons hlt', List.any_cons] at hany
      refine gIdx_sz hvl hlt' fun ad hc _ => ?_
      have hc0 := hc 0 (.string (mkS ps[j])) (by omega) (by simp [hlt'])
      rw [Addr.add_zero'] at hc0
      refine gLoad_s hc0 (gCallV_of rfl (by kernel_rfl) (Right1_any ps[j]) ?_)
      rintro _ _ ⟨rfl, rfl⟩
      refine ⟨_, rfl, gIf_b (fun h => ⟨(j : Int), rfl, ?_, rfl⟩) (fun h => ⟨⟨j + 1, by rw [i64_id (by omega) (by omega)]; omega, by omega, ?_, rfl⟩, by dsimp only; rw [i64_id (by omega) (by omega)]; omega⟩)⟩
      · rw [hany, h, decide_eq_true (by omega)]; rfl
      · rw [hany, h]; rfl
    · refine ⟨-1, rfl, ?_, rfl⟩
      rw [hany, List.drop_of_length_le (by omega)]; rfl
  refine gCall_of hI ?_
  rintro _ _ ⟨r, rfl, hr, rfl⟩
  exact ⟨r, rfl, by rw [hr], rfl⟩
theorem Right_any (s : ByteArray) : Calls P n_names_Right #[.string s] w (fun e w' => e = .returned (.bool (rightN s)) ∧ Ev w w') := by
  obtain ⟨l, rfl⟩ : ∃ l, s = mkS l := ⟨s.data.toList, (mkS_self s).symm⟩
  unfold rightN rightU
  rw [mkS_data]
  refine of_names_Right ?_
  rw [mkS_size]
  refine gIf_ndec (fun hle => gCall_b0 (Contains1_any l 0) (gIf_b (fun hc => ?_) (fun hc => ?_))) (fun hgt => ?_)
  · refine ⟨?_, Ch.refl _ w⟩
    unfold okU; rw [hc]; simp
  · refine gCall_of (Split_any (by omega)) ?_
    rintro _ w2 ⟨v, rfl, h2, hv⟩
    refine ⟨v, rfl, gCall_b0 (IndexBad_any (ps := partsU l) hv ?_) ⟨?_, h2⟩⟩
    · rw [partsU_len _ (Nat.le_refl l.length)]; have := count_le l; omega
    · unfold okU; rw [hc, decide_eq_true (by omega)]; rfl
  · exact ⟨by rw [decide_eq_false (by omega)]; rfl, Ch.refl _ w⟩
/-! ### The reference -/
theorem partsU_app : ∀ (cur rest : List UInt8), (47 : UInt8) ∉ cur → partsU (cur ++ 47 :: rest) = cur :: partsU rest
  | [], rest, _ => by simp [partsU]
  | c :: cur, rest, h => by
    rw [List.mem_cons, not_or] at h
    rw [List.cons_append, partsU, if_neg (fun e => h.1 e.symm), partsU_app cur rest h.2]
theorem partsU_end : ∀ (cur : List UInt8), (47 : UInt8) ∉ cur → partsU cur = [cur]
  | [], _ => rfl
  | c :: cur, h => by
    rw [List.mem_cons, not_or] at h
    rw [partsU, if_neg (fun e => h.1 e.symm), partsU_end cur h.2]
/-- What is left to ask where cur, without '/', stands ahead of rest. -/
def okR (cur rest : List UInt8) : Bool := (!rest.contains 0) && !(partsU (cur ++ rest)).any badU
theorem refRight_any (s : ByteArray) (hsz : s.size ≤ 4611686018427387904) : Calls P n_valiseref28_Right #[.string s] w (fun e w' => e = .returned (.bool (rightN s)) ∧ w' = w) := by
  obtain ⟨l, rfl⟩ : ∃ l, s = mkS l := ⟨s.data.toList, (mkS_self s).symm⟩
  unfold rightN rightU
  rw [mkS_data]
  rw [mkS_size] at hsz
  refine of_valiseref28_Right ?_
  rw [mkS_size]
  have hok0 : okU l = okR [] l := rfl
  have hby : ∀ {j : Nat} (h : j < l.length), rd (sOf (mkS l)) (j : Int) = ((l[j].toNat : Nat) : Int) := fun {j} h => by
    have := sOf_rd (s := mkS l) (i := j) (by rw [mkS_data]; exact h)
    simpa [mkS_data] using this
  refine ⟨fun from' i w' => w' = w ∧ ((∃ cur rest pre : List UInt8, l = pre ++ cur ++ rest ∧ from' = (pre.length : Int) ∧ i = ((pre.length + cur.length : Nat) : Int) ∧ (47 : UInt8) ∉ cur ∧ okU l = okR cur rest) ∨ (i = ((l.length + 1 : Nat) : Int) ∧ okU l = true)), fun _ i _ => (l.length + 1 - i).toNat, ⟨rfl, .inl ⟨[], l, [], rfl, rfl, rfl, by simp, hok0⟩⟩, ?_⟩
  rintro _ from' i w1 ⟨rfl, hst⟩
  refine gIf_dec (fun hle => ?_) (fun hgt => ?_)
  · rcases hst with ⟨cur, rest, pre, hl, rfl, rfl, hno, hok⟩ | ⟨rfl, _⟩
    · have hlen : l.length = pre.length + cur.length + rest.length := by rw [hl, List.length_append, List.length_append]
      refine ⟨fun from2 w' => w' = w1 ∧ ((∃ cur' rest' pre' : List UInt8, l = pre' ++ cur' ++ rest' ∧ from2 = (pre'.length : Int) ∧ ((pre.length + cur.length + 1 : Nat) : Int) = ((pre'.length + cur'.length : Nat) : Int) ∧ (47 : UInt8) ∉ cur' ∧ okU l = okR cur' rest') ∨ (((pre.length + cur.length + 1 : Nat) : Int) = ((l.length + 1 : Nat) : Int) ∧ okU l = true)), ⟨fun w' => w' = w1 ∧ ∀ c r, rest = c :: r → c ≠ 0, ?_, ?_⟩, ?_⟩
      · refine gIf_dec (fun hlt => ?_) (fun hge => ?_)
        · have hlt' : pre.length + cur.length < l.length := by omega
          refine gIndex_s (j := pre.length + cur.length) rfl (by rw [mkS_size]; exact hlt') ?_
          rw [hby hlt']
          obtain ⟨c, r, rfl⟩ : ∃ c r, rest = c :: r := by cases rest with | nil => simp at hlen; omega | cons c r => exact ⟨c, r, rfl⟩
          have hc : l[pre.length + cur.length] = c := by
            have : l[pre.length + cur.length]? = some c := by rw [hl, List.getElem?_append_right (by simp)]; simp
            exact (List.getElem?_eq_some_iff.1 this).2
          rw [hc]
          refine gIf_eq (fun h0 => ⟨?_, rfl⟩) (fun h0 => ⟨rfl, fun c' r' e => ?_⟩)
          · have : c = 0 := UInt8.toNat_inj.1 (by simpa using h0)
            subst this
            rw [hok]; unfold okR; simp
          · injection e with e1 e2; subst e1
            intro h; subst h; exact h0 rfl
        · refine ⟨rfl, fun c r e => ?_⟩
          subst e; simp at hlen; omega
      · rintro _ w2 ⟨rfl, hnz⟩
        refine ⟨fun b w' => w' = w2 ∧ b = (match rest with | [] => true | c :: _ => c == 47), ?_, ?_⟩
        · refine gIf_neqq (fun hne => ?_) (fun heq => ?_)
          · have hlt' : pre.length + cur.length < l.length := by omega
            obtain ⟨c, r, rfl⟩ : ∃ c r, rest = c :: r := by cases rest with | nil => simp at hlen; omega | cons c r => exact ⟨c, r, rfl⟩
            have hc : l[pre.length + cur.length] = c := by
              have : l[pre.length + cur.length]? = some c := by rw [hl, List.getElem?_append_right (by simp)]; simp
              exact (List.getElem?_eq_some_iff.1 this).2
            refine gIndex_s (j := pre.length + cur.length) rfl (by rw [mkS_size]; exact hlt') ?_
            rw [hby hlt', hc]
            refine ⟨rfl, ?_⟩
            dsimp only
            by_cases h : c = 47
            · subst h; rfl
            · have h2 : ¬ ((c.toNat : Int) = 47) := fun e => h (UInt8.toNat_inj.1 (show c.toNat = 47 by omega))
              rw [show (c == 47) = false by simpa using h]; simpa using h2
          · cases rest with
            | nil => exact ⟨rfl, rfl⟩
            | cons c r => simp at hlen; omega
        · rintro _ b w3 ⟨rfl, rfl⟩
          have hsl : ((l.drop pre.length).take (pre.length + cur.length - pre.length)) = cur := by
            rw [hl, List.append_assoc, List.drop_left, Nat.add_sub_cancel_left, List.take_left]
          -- a part ends here
          have part : ∀ (hsep : (match rest with | [] => true | c :: _ => c == 47) = true), gSliceS P t_string (.string (mkS l)) (some (.int .i64 (pre.length : Int))) (some (.int .i64 ((pre.length + cur.length : Nat) : Int))) none fun t35 => gIf (!(t35.toList == (ByteArray.mk #[]).toList)) (gIf (!(t35.toList == (ByteArray.mk #[46]).toList)) (gIf (t35.toList == (ByteArray.mk #[46, 46]).toList) ((Ending.returned (.bool false) = Ending.returned (.bool (decide (l.length ≤ 4096) && okU l)) ∧ w3 = w3)) ((fun from2 w' => w' = w3 ∧ ((∃ cur' rest' pre' : List UInt8, l = pre' ++ cur' ++ rest' ∧ from2 = (pre'.length : Int) ∧ ((pre.length + cur.length + 1 : Nat) : Int) = ((pre'.length + cur'.length : Nat) : Int) ∧ (47 : UInt8) ∉ cur' ∧ okU l = okR cur' rest') ∨ (((pre.length + cur.length + 1 : Nat) : Int) = ((l.length + 1 : Nat) : Int) ∧ okU l = true))) (i64 (((pre.length + cur.length : Nat) : Int) + 1)) w3)) ((Ending.returned (.bool false) = Ending.returned (.bool (decide (l.length ≤ 4096) && okU l)) ∧ w3 = w3))) ((Ending.returned (.bool false) = Ending.returned (.bool (decide (l.length ≤ 4096) && okU l)) ∧ w3 = w3)) := fun hsep => by
            refine gSliceS_mk (.inr ⟨.i64, rfl⟩) (.inr ⟨.i64, rfl⟩) (by omega) (by omega) ?_
            rw [hsl]
            have e0 : ((mkS cur).toList == (ByteArray.mk #[]).toList) = (cur == []) := eq_tl (b := [])
            have e1 : ((mkS cur).toList == (ByteArray.mk #[46]).toList) = (cur == [46]) := eq_tl (b := [46])
            have e2 : ((mkS cur).toList == (ByteArray.mk #[46, 46]).toList) = (cur == [46, 46]) := eq_tl (b := [46, 46])
            rw [e0, e1, e2]
            have hpr : ∃ ps, partsU (cur ++ rest) = cur :: ps ∧ (∀ c r, rest = c :: r → ps = partsU r) ∧ (rest = [] → ps = []) := by
              cases rest with
              | nil => exact ⟨[], by rw [List.append_nil, partsU_end cur hno], (fun _ _ h => by cases h), fun _ => rfl⟩
              | cons c r =>
                have : c = 47 := by simpa using hsep
                subst this
                exact ⟨partsU r, partsU_app cur r hno, (fun _ _ h => by injection h with h1 h2; rw [h2]), fun h => by cases h⟩
            obtain ⟨ps, hp1, hp2, hp3⟩ := hpr
            have bad : badU cur = true → okU l = false := fun hb => by rw [hok]; unfold okR; rw [hp1, List.any_cons, hb]; simp
            refine gIf_nb (fun h0 => gIf_nb (fun h1 => gIf_b (fun h2 => ?_) (fun h2 => ?_)) (fun h1 => ?_)) (fun h0 => ?_)
            · rw [bad (by unfold badU; rw [h0, h1, h2]; rfl), Bool.and_false]; exact ⟨rfl, rfl⟩
            · have hgood : badU cur = false := by unfold badU; rw [h0, h1, h2]; rfl
              rw [i64_id (by omega) (by omega)]
              refine ⟨rfl, ?_⟩
              cases rest with
              | nil =>
                refine .inr ⟨by simp at hlen; omega, ?_⟩
                rw [hok]; unfold okR; rw [hp1, hp3 rfl, List.any_cons, hgood]; rfl
              | cons c r =>
                have hc47 : c = 47 := by simpa using hsep
                subst hc47
                refine .inl ⟨[], r, pre ++ cur ++ [47], by rw [hl]; simp, by simp; omega, by simp; omega, by simp, ?_⟩
                rw [hok]; unfold okR; rw [hp1, hp2 _ _ rfl, List.any_cons, hgood, List.contains_cons]; simp
            · rw [bad (by unfold badU; rw [h0, h1]; rfl), Bool.and_false]; exact ⟨rfl, rfl⟩
            · rw [bad (by unfold badU; rw [h0]; rfl), Bool.and_false]; exact ⟨rfl, rfl⟩
          refine gIf_b (fun hsep => part hsep) (fun hnsep => ?_)
          cases rest with
          | nil => cases hnsep
          | cons c r =>
            have hc47 : c ≠ 47 := by simpa using hnsep
            have hc0 : c ≠ 0 := hnz c r rfl
            refine ⟨rfl, .inl ⟨cur ++ [c], r, pre, by rw [hl]; simp, rfl, by simp; omega, ?_, ?_⟩⟩
            · rw [List.mem_append, not_or]; exact ⟨hno, by simpa using fun e => hc47 e.symm⟩
            · rw [hok]; unfold okR
              rw [List.contains_cons, show ((0 : UInt8) == c) = false by simpa using fun e => hc0 e.symm]; simp
      · rintro _ from2 w4 ⟨rfl, hst2⟩
        rw [i64_id (n := ((pre.length + cur.length : Nat) : Int) + 1) (by omega) (by omega)]
        exact ⟨⟨rfl, hst2⟩, by dsimp only; omega⟩
    · omega
  · rcases hst with ⟨cur, rest, pre, hl, rfl, rfl, hno, hok⟩ | ⟨rfl, hok⟩
    · have hlen : l.length = pre.length + cur.length + rest.length := by rw [hl, List.length_append, List.length_append]
      omega
    · refine ⟨?_, rfl⟩
      rw [hok, Bool.and_true]
      by_cases h : l.length ≤ 4096
      · rw [decide_eq_true h, decide_eq_true (by omega)]
      · rw [decide_eq_false h, decide_eq_false (by omega)]
end
end Go.Proofs.YtdknadlkadoloaaDoorV
