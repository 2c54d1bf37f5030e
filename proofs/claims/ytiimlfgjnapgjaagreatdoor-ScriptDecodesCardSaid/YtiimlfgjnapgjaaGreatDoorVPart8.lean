import Derived.Lib.Bytealg
import Derived.Test.YtiimlfgjnapgjaaGreatDoorVPart7
set_option linter.unusedVariables false
set_option linter.unusedSimpArgs false
/- Strings: parts of them, Index, Contains, Count at one byte, Split. -/
namespace Go.Proofs.YtiimlfgjnapgjaaGreatDoorV
open Go Go.RowKit
def mkS (l : List UInt8) : ByteArray := ⟨l.toArray⟩
theorem mkS_data (l : List UInt8) : (mkS l).data.toList = l := by simp [mkS]
theorem mkS_self (s : ByteArray) : mkS s.data.toList = s := by obtain ⟨⟨l⟩⟩ := s; rfl
theorem mkS_size (l : List UInt8) : (mkS l).size = l.length := by show l.toArray.size = _; simp
theorem tl_mk (l : List UInt8) : (mkS l).toList = l := by rw [ByteArray.toList_eq]; simp [mkS]
theorem mkS_ext (l : List UInt8) (a b : Nat) : (mkS l).extract a b = mkS ((l.drop a).take (b - a)) := by
  have h : ((mkS l).extract a b).data.toList = (l.drop a).take (b - a) := by
    rw [ByteArray.data_extract, Array.toList_extract]
    simp [mkS, List.extract_eq_take_drop]
  rw [← h, mkS_self]
section
variable {P : Program} {w : World}
theorem gSliceS_mk {t : TypeId} {l : List UInt8} {lo hi : Option Value} {a b : Nat} {K : ByteArray → Prop} (hlo : (lo = none ∧ a = 0) ∨ (∃ k, lo = some (.int k a))) (hhi : (hi = none ∧ b = l.length) ∨ (∃ k, hi = some (.int k b))) (hl : a ≤ b) (hh : b ≤ l.length)
    (hk : K (mkS ((l.drop a).take (b - a)))) (ht : strB P t = true := by kernel_rfl) : gSliceS P t (.string (mkS l)) lo hi none K := by
  have hu := strB_ok ht
  refine ⟨mkS ((l.drop a).take (b - a)), fun w => ?_, hk⟩
  have hb : (Instr.sliceBounds false (mkS l).size (mkS l).size lo hi none).run P w = .ok (a, b, (mkS l).size) w := by
    rw [mkS_size]
    simp only [Instr.sliceBounds, Sem.run_bind, Sem.run_pure, Result.andThen_ok]
    rcases hhi with ⟨rfl, rfl⟩ | ⟨k, rfl⟩ <;> rcases hlo with ⟨rfl, rfl⟩ | ⟨k', rfl⟩ <;>
      simp [Instr.sliceBound, asIntOf, hl, hh]
  simp only [Instr.sliceAt, Sem.run_bind, run_underlying hu, Result.andThen_ok, Instr.slice, hb, Sem.run_pure, Option.isSome_none, Bool.false_eq_true, if_false]
  rw [mkS_ext]; rfl
end
/-- A slice of strings. -/
def Ss (w : World) (v : Value) (ss : List ByteArray) : Prop := Sl w 1 v ss.length (ss.map .string)
theorem Ss.ev {w w' : World} {v : Value} {ss : List ByteArray} (h : Ss w v ss) (he : Ev w w') : Ss w' v ss := Sl.ev h he
section
variable {w : World}
theorem eq_single {l : List UInt8} {c : UInt8} (h : (mkS [c]).toList == (mkS l).toList) : l = [c] := by
  rw [tl_mk, tl_mk] at h; exact (beq_iff_eq.1 h).symm
theorem Index1_any (l : List UInt8) (c : UInt8) : Calls P n_strings_Index #[.string (mkS l), .string (mkS [c])] w (fun e w' => e = .returned (.int .i64 (Lib.indexByte l c)) ∧ w' = w) := by
  have hc : (mkS [c]).data.toList = [c] := mkS_data _
  have hcs : (mkS [c]).size = 1 := rfl
  have hone : rd (sOf (mkS [c])) 0 = (c.toNat : Int) := by simp [rd, sOf, mkS]
  have hback : (c.toNat : Int).toNat.toUInt8 = c := by simp
  refine of_strings_Index (gCall_i0 (n := Lib.indexByte l c) (of_internal_stringslite_Index ?_) ⟨rfl, rfl⟩)
  refine ⟨fun _ => False, ⟨fun b w' => w' = w ∧ b = ((mkS [c]).toList == (mkS l).toList), gIf_neqq (fun _ => ⟨rfl, rfl⟩) (fun h => by rw [hcs] at h; simp at h), ?_⟩, ?_⟩
  · rintro _ b w1 ⟨rfl, rfl⟩
    refine gIf_b (fun hb => ?_) (fun _ => ?_)
    · have := eq_single hb
      subst this
      exact ⟨by simp [Lib.indexByte], rfl⟩
    · rw [hcs]
      refine gIf_eq (fun _ => gIndex_s (j := 0) rfl (by rw [hcs]; decide) ?_) (fun h => (h rfl).elim)
      rw [hone]
      refine gCall_i0 (n := Lib.indexByte l c) (of_internal_stringslite_IndexByte (gExt_i (by kernel_rfl) (Lib.run_indexByteString _ _ w1) ?_ (by kernel_rfl))) ⟨rfl, rfl⟩
      rw [hback, mkS_data]; exact ⟨rfl, rfl⟩
  · intro _ w1 h
    exact h.elim
end
end Go.Proofs.YtiimlfgjnapgjaaGreatDoorV

/- Which names may be: the program's Right and the reference's. -/
namespace Go.Proofs.YtiimlfgjnapgjaaGreatDoorV
open Go Go.RowKit
theorem partsU_no {l : List UInt8} (h : Lib.indexByte l 47 = -1) : partsU l = [l] ∧ Lib.countByte l 47 = 0 := by
  induction l with
  | nil => exact ⟨rfl, rfl⟩
  | cons c r ih =>
    unfold Lib.indexByte at h
    split at h
    · simp at h
    · rename_i hc
      have hc' : c ≠ 47 := by simpa using hc
      split at h
      · rename_i hr
        obtain ⟨h1, h2⟩ := ih (by simpa using hr)
        refine ⟨?_, ?_⟩
        · unfold partsU; rw [if_neg hc', h1]
        · unfold Lib.countByte at *; rw [List.count_cons, h2]; simp [hc']
      · have := Lib.indexByte_ge r 47; omega
theorem partsU_at : ∀ {l : List UInt8} {i : Nat}, Lib.indexByte l 47 = (i : Int) → i < l.length ∧ partsU l = l.take i :: partsU (l.drop (i + 1)) ∧ Lib.countByte l 47 = Lib.countByte (l.drop (i + 1)) 47 + 1
  | [], i, h => by simp [Lib.indexByte] at h
  | c :: r, i, h => by
    unfold Lib.indexByte at h
    split at h
    · rename_i hc
      have hc' : c = 47 := by simpa using hc
      obtain rfl : i = 0 := by omega
      subst hc'
      exact ⟨by simp, by simp [partsU], by simp [Lib.countByte]⟩
    · rename_i hc
      have hc' : c ≠ 47 := by simpa using hc
      split at h
      · omega
      · have hge := Lib.indexByte_ge r 47
        rename_i hn
        have hn' : Lib.indexByte r 47 ≠ -1 := by simpa using hn
        obtain ⟨j, hj⟩ : ∃ j : Nat, Lib.indexByte r 47 = (j : Int) := ⟨(Lib.indexByte r 47).toNat, by omega⟩
        obtain rfl : i = j + 1 := by omega
        obtain ⟨h1, h2, h3⟩ := partsU_at hj
        refine ⟨by simp; omega, ?_, ?_⟩
        · rw [partsU, if_neg hc', h2]; simp
        · unfold Lib.countByte at *
          rw [List.drop_succ_cons, List.count_cons, h3]; simp [hc']
theorem partsU_len : ∀ (n : Nat) {l : List UInt8}, l.length ≤ n → (partsU l).length = Lib.countByte l 47 + 1
  | n, l, hn => by
    by_cases h : Lib.indexByte l 47 = -1
    · obtain ⟨h1, h2⟩ := partsU_no h
      rw [h1, h2]; rfl
    · have hge := Lib.indexByte_ge l 47
      obtain ⟨i, hi⟩ : ∃ i : Nat, Lib.indexByte l 47 = (i : Int) := ⟨(Lib.indexByte l 47).toNat, by omega⟩
      obtain ⟨h1, h2, h3⟩ := partsU_at hi
      cases n with
      | zero => omega
      | succ n =>
        rw [h2, h3, List.length_cons, partsU_len n (by rw [List.length_drop]; omega)]
theorem count_le (l : List UInt8) : Lib.countByte l 47 ≤ l.length := by unfold Lib.countByte; exact List.count_le_length
theorem contains_idx {l : List UInt8} {c : UInt8} : decide (Lib.indexByte l c ≥ 0) = l.contains c := by
  induction l with
  | nil => rfl
  | cons b r ih =>
    unfold Lib.indexByte
    rw [List.contains_cons]
    by_cases h : b = c
    · subst h; simp
    · have h2 : ¬ c = b := fun e => h e.symm
      have h3 := Lib.indexByte_ge r c
      have h4 : (b == c) = false := by simpa using h
      have h5 : (c == b) = false := by simpa using h2
      rw [if_neg (by rw [h4]; decide), h5, Bool.false_or, ← ih]
      by_cases h6 : Lib.indexByte r c = -1
      · rw [h6]; simp
      · rw [if_neg (by simpa using h6)]
        by_cases h7 : Lib.indexByte r c ≥ 0
        · rw [decide_eq_true h7, decide_eq_true (by omega)]
        · omega
section
variable {w0 w w' : World} {F : List It}
theorem Contains1_any (l : List UInt8) (c : UInt8) : Calls P n_strings_Contains #[.string (mkS l), .string (mkS [c])] w (fun e w' => e = .returned (.bool (l.contains c)) ∧ w' = w) :=
  of_strings_Contains (gCall_i0 (Index1_any l c) ⟨by rw [contains_idx], rfl⟩)
theorem Count1_any (l : List UInt8) (c : UInt8) : Calls P n_strings_Count #[.string (mkS l), .string (mkS [c])] w (fun e w' => e = .returned (.int .i64 (Lib.countByte l c)) ∧ w' = w) := by
  have hcs : (mkS [c]).size = 1 := rfl
  have hone : rd (sOf (mkS [c])) 0 = (c.toNat : Int) := by simp [rd, sOf, mkS]
  have hback : (c.toNat : Int).toNat.toUInt8 = c := by simp
  refine of_strings_Count ?_
  rw [hcs]
  refine gIf_eq (fun h => by simp at h) (fun _ => gIf_eq (fun _ => gIndex_s (j := 0) rfl (by rw [hcs]; decide) ?_) (fun h => (h rfl).elim))
  rw [hone]
  refine gExt_i (by kernel_rfl) (Lib.run_countString _ _ w) ?_ (by kernel_rfl)
  rw [hback, mkS_data]; exact ⟨rfl, rfl⟩
def strsU (l : List UInt8) : List ByteArray := (partsU l).map mkS
theorem made1 (z : Value) (n : Nat) (h : z.cells = #[z]) : (madeCells z.cells (n * 1)).toList = List.replicate n z := by rw [h, Nat.mul_one, toList_madeCells_one]
/-- strings.Split at "/". -/
theorem nSplit_any {l : List UInt8} (hl : l.length ≤ 1000000) : Calls P n_strings_Split #[.string (mkS l), .string (mkS [47])] w (fun e w' => ∃ v, e = .returned v ∧ Ev w w' ∧ Ss w' v (strsU l)) := by
  have hcs : (mkS [47]).size = 1 := rfl
  have hcl := count_le l
  have hpl := partsU_len _ (Nat.le_refl l.length)
  obtain ⟨n, hn⟩ : ∃ n, n = Lib.countByte l 47 + 1 := ⟨_, rfl⟩
  refine of_strings_Split (gCall_v (Q := fun v w' => Ev w w' ∧ Ss w' v (strsU l)) (of_strings_genSplit ?_) fun v w' hq => ⟨v, rfl, hq⟩)
  refine gIf_eq (fun h => by simp at h) (fun _ => gIf_b (fun h => by rw [tl_mk] at h; simp at h) (fun _ => ?_))
  refine ⟨fun k w' => k = (n : Int) ∧ w' = w, gIf_t (gCall_i0 (Count1_any l 47) ⟨by rw [i64_id (by omega) (by omega)]; omega, rfl⟩), ?_⟩
  rintro _ k w1 ⟨rfl, rfl⟩
  have hmin : (if (i64 (((mkS l).size : Int) + 1)) < (n : Int) then (i64 (((mkS l).size : Int) + 1)) else (n : Int)) = (n : Int) := by
    rw [mkS_size, i64_id (by omega) (by omega), if_neg (by omega)]
  rw [hmin, hcs, i64_id (n := (n : Int) - 1) (by omega) (by omega)]
  refine fMakeR 16 (.string ⟨#[]⟩) (sz := 1) (Fr.start w1) (by omega) (by unfold maxLen; omega) (fun v w2 f2 => ?_) (by kernel_rfl)
  rw [made1 _ _ rfl] at f2
  -- the end of the walk: the rest is the last part
  have fin : ∀ {rest : List UInt8} {done : List (List UInt8)} {w' : World}, partsU l = done ++ [rest] → Fr w1 w' [rIt (elOf P t_sl_string) 1 v n (done.map (fun p => Value.string (mkS p)) ++ List.replicate (n - done.length) (Value.string ⟨#[]⟩))] → done.length + 1 = n →
      gIdx P t_sl_string v (.int .i64 (done.length : Int)) fun t61 => gStore P t_string (.pointer (some t61)) (.string (mkS rest)) w' fun w7 => gSlice P t_sl_string v none (some (.int .i64 (i64 ((done.length : Int) + 1)))) none fun t65 => retOk shV (fun v w' => (Ev w1 w' ∧ Ss w' v (strsU l))) (.returned t65) w7 := fun {rest done w'} hp g hd => by
    refine gIdx_r g.1 rfl (by omega) fun ad hs => fStoreR1 g 0 rfl hs (by omega) rfl rfl fun w7 g7 => ?_
    have hset : (done.map (fun p => Value.string (mkS p)) ++ List.replicate (n - done.length) (Value.string ⟨#[]⟩)).set done.length (.string (mkS rest)) = (strsU l).map .string := by
      rw [show n - done.length = 0 + 1 by omega, List.replicate_succ, List.set_append_right _ _ (by simp), List.length_map, Nat.sub_self, List.set_cons_zero]
      unfold strsU; rw [hp]; simp
    rw [hset] at g7
    have hs7 := g7.row 0 rfl
    obtain ⟨a, c, rfl, hnc⟩ := hs7.shape
    rw [i64_id (n := (done.length : Int) + 1) (by omega) (by omega)]
    refine gSlice_any (l := 0) (h := n) (sz := 1) (.inl ⟨rfl, rfl⟩) (.inr ⟨.i64, by rw [show ((done.length : Int) + 1) = ((n : Nat) : Int) by omega]⟩) (Nat.zero_le _) hnc ?_ (by kernel_rfl)
    refine ⟨_, rfl, g7.old, ?_⟩
    have := hs7.sub 0 n (Nat.zero_le _) (Nat.le_refl _)
    have hnl : (strsU l).length = n := by unfold strsU; rw [List.length_map, hpl, hn]
    unfold Ss
    rw [hnl]
    rw [Nat.sub_zero, Nat.zero_mul, List.drop_zero, List.take_of_length_le (by rw [List.length_map, hnl]; omega)] at this
    exact this
  refine ⟨fun s i w' => ∃ (rest : List UInt8) (done : List (List UInt8)), s = mkS rest ∧ i = (done.length : Int) ∧ partsU l = done ++ partsU rest ∧ done.length + Lib.countByte rest 47 + 1 = n ∧ rest.length ≤ l.length ∧
    Fr w1 w' [rIt (elOf P t_sl_string) 1 v n (done.map (fun p => Value.string (mkS p)) ++ List.replicate (n - done.length) (Value.string ⟨#[]⟩))], fun _ i _ => (n - i).toNat, ?_, ?_⟩
  · exact ⟨l, [], rfl, rfl, rfl, by simp; omega, Nat.le_refl _, f2⟩
  rintro _ s i w5 ⟨rest, done, rfl, rfl, hp, hd, hrl, g5⟩
  refine gIf_dec (fun hlt => gCall_i0 (Index1_any rest 47) (gIf_dec (fun hneg => ?_) (fun hpos => ?_))) (fun hge => ?_)
  · have := Lib.indexByte_ge rest 47
    obtain ⟨h1, h2⟩ := partsU_no (l := rest) (by omega)
    omega
  · obtain ⟨m, hm⟩ : ∃ m : Nat, Lib.indexByte rest 47 = (m : Int) := ⟨(Lib.indexByte rest 47).toNat, by omega⟩
    obtain ⟨h1, h2, h3⟩ := partsU_at hm
    rw [hm, i64_id (n := (m : Int) + 0) (by omega) (by omega)]
    refine gSliceS_mk (a := 0) (b := m) (.inl ⟨rfl, rfl⟩) (.inr ⟨.i64, by rw [Int.add_zero]⟩) (Nat.zero_le _) (by omega) ?_
    rw [List.drop_zero, Nat.sub_zero]
    refine gIdx_r g5.1 rfl (by omega) fun ad hs => fStoreR1 g5 0 rfl hs (by omega) rfl rfl fun w8 g8 => ?_
    rw [i64_id (n := (m : Int) + ((1 : Nat) : Int)) (by omega) (by omega), i64_id (n := (done.length : Int) + 1) (by omega) (by omega)]
    refine gSliceS_mk (a := m + 1) (b := rest.length) (.inr ⟨.i64, rfl⟩) (.inl ⟨rfl, rfl⟩) (by omega) (Nat.le_refl _) ?_
    rw [List.take_of_length_le (by rw [List.length_drop]; omega)]
    refine ⟨⟨rest.drop (m + 1), done ++ [rest.take m], rfl, by simp, by rw [hp, h2]; simp, by simp; omega, by rw [List.length_drop]; omega, ?_⟩, by dsimp only; omega⟩
    have hset : (done.map (fun p => Value.string (mkS p)) ++ List.replicate (n - done.length) (Value.string ⟨#[]⟩)).set done.length (.string (mkS (rest.take m))) = (done ++ [rest.take m]).map (fun p => Value.string (mkS p)) ++ List.replicate (n - (done ++ [rest.take m]).length) (Value.string ⟨#[]⟩) := by
      rw [show n - done.length = (n - done.length - 1) + 1 by omega, List.replicate_succ, List.set_append_right _ _ (by simp), List.length_map, Nat.sub_self, List.set_cons_zero]
      simp [Nat.sub_sub]
    rw [hset] at g8
    exact g8
  · have hc0 : Lib.countByte rest 47 = 0 := by omega
    have hno : Lib.indexByte rest 47 = -1 := by
      refine Decidable.byContradiction fun hne => ?_
      have := Lib.indexByte_ge rest 47
      obtain ⟨m, hm⟩ : ∃ m : Nat, Lib.indexByte rest 47 = (m : Int) := ⟨(Lib.indexByte rest 47).toNat, by omega⟩
      have := (partsU_at hm).2.2; omega
    obtain ⟨h1, _⟩ := partsU_no hno
    rw [h1] at hp
    exact fin hp g5 (by omega)
theorem eq_tl {a b : List UInt8} : ((mkS a).toList == (mkS b).toList) = (a == b) := by rw [tl_mk, tl_mk]
theorem Right1_any (p : List UInt8) : Calls P n_names_Right_1 #[.string (mkS p)] w (fun e w' => e = .returned (.bool (badU p)) ∧ w' = w) := by
  refine of_names_Right_1 ?_
  have e0 : ((mkS p).toList == (ByteArray.mk #[]).toList) = (p == []) := eq_tl (b := [])
  have e1 : ((mkS p).toList == (ByteArray.mk #[46]).toList) = (p == [46]) := eq_tl (b := [46])
  have e2 : ((mkS p).toList == (ByteArray.mk #[46, 46]).toList) = (p == [46, 46]) := eq_tl (b := [46, 46])
  rw [e0, e1, e2]
  refine gIf_nb (fun h0 => gIf_nb (fun h1 => ⟨by unfold badU; rw [h0, h1]; rfl, rfl⟩) (fun h1 => ⟨by unfold badU; rw [h0, h1]; rfl, rfl⟩)) (fun h0 => ⟨by unfold badU; rw [h0]; rfl, rfl⟩)
theorem IndexBad_any {v : Value} {ps : List (List UInt8)} (hv : Ss w v (ps.map mkS)) (hl : ps.length ≤ 1000000000) : Calls P n_slices_ContainsFunc_string_string #[v, .func (.func n_names_Right_1) #[] #[]] w (fun e w' => e = .returned (.bool (ps.any badU)) ∧ w' = w) := by
  have hvl : Sl w 1 v ps.length (ps.map (fun p => Value.string (mkS p))) := by
    have := hv; unfold Ss at this; rw [List.length_map, List.map_map] at this; exact this
  refine of_slices_ContainsFunc_string_string ?_
  have hI : Calls P n_slices_IndexFunc_string_string #[v, .func (.func n_names_Right_1) #[] #[]] w (fun e w' => ∃ r : Int, e = .returned (.int .i64 r) ∧ decide (r ≥ 0) = ps.any badU ∧ w' = w) := by
    refine of_slices_IndexFunc_string_string (gLen_slv hvl ⟨fun i w' => ∃ j : Nat, i = (j : Int) ∧ j ≤ ps.length ∧ ps.any badU = (ps.drop j).any badU ∧ w' = w, fun i _ => (ps.length - i).toNat, ⟨0, rfl, Nat.zero_le _, rfl, rfl⟩, ?_⟩)
    rintro _ i w1 ⟨j, rfl, hj, hany, rfl⟩
    refine gIf_dec (fun hlt => ?_) (fun hge => ?_)
    · have hlt' : j < ps.length := by omega
      rw [List.drop_eq_getElem_cons hlt', List.any_cons] at hany
      refine gIdx_sz hvl hlt' fun ad hc _ => ?_
      have hc0 := hc 0 (.string (mkS ps[j])) (by omega) (by simp [hlt'])
      rw [Addr.add_zero'] at hc0
      refine gLoad_s hc0 (gCallV_of rfl (by kernel_rfl) (Right1_any ps[j]) ?_)
      rintro _ _ ⟨rfl, rfl⟩
      refine ⟨_, rfl, gIf_b (fun h => ⟨(j : Int), rfl, ?_, rfl⟩) (fun h => ⟨⟨j + 1, by rw [i64_id (by omega) (by omega)]; omega, by omega, ?_, rfl⟩, by dsimp only; rw [i64_id (by omega) (by omega)]; omega⟩)⟩
      · rw [hany, h, decide_eq_true (by omega)]; rfl
      · rw [hany, h]; rfl
    · refine ⟨-1, rfl, ?_, rfl⟩
      rw [hany, List.drop_of_length_le (by omega)]; rfl
  refine gCall_of hI ?_
  rintro _ _ ⟨r, rfl, hr, rfl⟩
  exact ⟨r, rfl, by rw [hr], rfl⟩
theorem Right_any (s : ByteArray) : Calls P n_names_Right #[.string s] w (fun e w' => e = .returned (.bool (rightN s)) ∧ Ev w w') := by
  obtain ⟨l, rfl⟩ : ∃ l, s = mkS l := ⟨s.data.toList, (mkS_self s).symm⟩
  unfold rightN rightU
  rw [mkS_data]
  refine of_names_Right ?_
  rw [mkS_size]
  refine gIf_ndec (fun hle => gCall_b0 (Contains1_any l 0) (gIf_b (fun hc => ?_) (fun hc => ?_))) (fun hgt => ?_)
  · refine ⟨?_, Ch.refl _ w⟩
    unfold okU; rw [hc]; simp
  · refine gCall_of (nSplit_any (by omega)) ?_
    rintro _ w2 ⟨v, rfl, h2, hv⟩
    refine ⟨v, rfl, gCall_b0 (IndexBad_any (ps := partsU l) hv ?_) ⟨?_, h2⟩⟩
    · rw [partsU_len _ (Nat.le_refl l.length)]; have := count_le l; omega
    · unfold okU; rw [hc, decide_eq_true (by omega)]; rfl
  · exact ⟨by rw [decide_eq_false (by omega)]; rfl, Ch.refl _ w⟩
/-! ### The reference -/
end
end Go.Proofs.YtiimlfgjnapgjaaGreatDoorV

/- Entries: copies, how much, Sort; Spoil. -/
namespace Go.Proofs.YtiimlfgjnapgjaaGreatDoorV
open Go Go.RowKit
noncomputable abbrev eE : TypeId := elOf P t_sl_api_Entry
/-- Entries in memory of their own. -/
noncomputable def ownF (v : Value) (us : List E3) : List It := rIt eE 2 v us.length (cells3 us) :: us.reverse.map fun u => oIt .u8 eB u.2.1 u.2.2
theorem erMap_len {us : List E3} {l : List En} (h : us.map er = l) : us.length = l.length := by rw [← h, List.length_map]
section
variable {w0 w w' : World} {F : List It}
theorem Es.own {v : Value} {us : List E3} (f : Fr w0 w (ownF v us)) : Es w v us :=
  ⟨f.row 0 rfl, fun u hu => by
    have hm : oIt .u8 eB u.2.1 u.2.2 ∈ ownF v us := List.mem_cons_of_mem _ (List.mem_map.2 ⟨u, List.mem_reverse.2 hu, rfl⟩)
    have : ON .u8 eB w 0 u.2.1 u.2.2 := (f.mem hm).1
    exact this.nm⟩
theorem Es.shape {v : Value} {us : List E3} (h : Es w v us) : ∃ a c, v = .slice a us.length c ∧ us.length ≤ c := h.1.shape
theorem Es.nil (w : World) : Es w (.slice none 0 0) [] := ⟨Sl.of_ownS (World.ownsRow_nil w 0 eE 2), fun _ h => by cases h⟩
theorem Sl.of_st2 {ad : Addr} {s : ByteArray} {d : Value} (h : St w ad [.string s, d]) : Sl w 2 (.slice (some ad) 1 1) 1 [.string s, d] :=
  ⟨some ad, 1, rfl, Nat.le_refl _, rfl, fun ad' ha j u hj => by injection ha with ha; subst ha; exact St.cell h hj, fun h => by cases h⟩
/-- An element of entries: its two cells. -/
theorem gIdx_E {i : Int} {ki : IntKind} {v : Value} {us : List E3} {j : Nat} {u : E3} {K : Addr → Prop} (h : Es w v us) (hij : i = (j : Int)) (hu : us[j]? = some u) (hk : ∀ ad, w.cell? (ad.add 0) = some (.string u.1) → w.cell? (ad.add 1) = some u.2.1 → K ad) : gIdx P t_sl_api_Entry v (.int ki i) K := by
  subst hij
  exact gIdx_sz h.1 (List.getElem?_eq_some_iff.1 hu).1 (fun ad hc _ => let ⟨h1, h2⟩ := h.cell hu hc; hk ad h1 h2)
theorem gLoad_E {ad : Addr} {s : ByteArray} {d : Value} {K : ByteArray → Value → Prop} (h0 : w.cell? (ad.add 0) = some (.string s)) (h1 : w.cell? (ad.add 1) = some d) (hk : K s d) : gLoad P t_api_Entry (.part (.agg [.str, .val])) (.pointer (some ad)) w K :=
  gLoad_agg [.string s, d] (fun j u hj => by
    rcases j with _ | _ | j
    · simp at hj; subst hj; exact h0
    · simp at hj; subst hj; exact h1
    · simp at hj) hk rfl (by kernel_rfl)
def Small (us : List E3) : Prop := us.length ≤ 100000000 ∧ ∀ u ∈ us, u.2.2.length ≤ 1000000000000 ∧ u.1.size ≤ 1000000000000
theorem Es.oc {v : Value} {us : List E3} (h : Es w v us) : ∀ u ∈ us, u.2.1.oneCell' = true := fun u hu => (h.2 u hu).oc
theorem own_any {v : Value} {us : List E3} (hv : Es w v us) (hs : Small us) : Calls P n_names_own #[v] w (fun e w' => ∃ v' us', e = .returned v' ∧ us'.map er = us.map er ∧ Fr w w' (ownF v' us')) := by
  have hus := hs.1
  refine of_names_own (gLen_slv hv.1 ⟨fun out i w' => ∃ (k : Nat) (os : List E3), i = (k : Int) ∧ k ≤ us.length ∧ os.map er = (us.take k).map er ∧ Fr w w' (ownF out os), fun _ i _ => (us.length - i).toNat, ⟨0, [], rfl, Nat.zero_le _, rfl, (Fr.start w).nilR eE 2⟩, ?_⟩)
  rintro _ out i w1 ⟨k, os, rfl, hk, hos, f1⟩
  refine gIf_dec (fun hlt => ?_) (fun hge => ?_)
  · have hlt' : k < us.length := by omega
    have hu : us[k]? = some us[k] := List.getElem?_eq_getElem hlt'
    have hmem : us[k] ∈ us := List.getElem_mem hlt'
    have htk : us.take (k + 1) = us.take k ++ [us[k]] := List.take_succ_eq_append_getElem hlt'
    generalize us[k] = u at hu hmem htk
    have hosl : os.length = k := by have := congrArg List.length hos; simp at this; omega
    have hnu := hv.2 u hmem
    refine gIdx_E (hv.ev f1.old) rfl hu fun ad h0 h1 => gLoad_E h0 h1 (fAlloc (z := .agg #[.string ⟨#[]⟩, .slice none 0 0]) f1 (by kernel_rfl) fun x5 w2 f2 => ?_)
    refine fStoreA f2 0 rfl (fun w3 f3 => ?_) rfl (fun x hx => by simp at hx; rcases hx with rfl | rfl; rfl; exact hnu.oc)
    refine ⟨fun w' => Ev w w' ∧ w'.cell? (x5.add 0) = some (.string u.1) ∧ w'.cell? (x5.add 1) = some u.2.1, ⟨f3.drew.old, f3.drew.cell 0 0 rfl rfl, f3.drew.cell 0 1 rfl rfl⟩, gLoadB_s (fun w' hw => hw.2.1) (gLoadB_v (fun w' hw => hw.2.2) ?_)⟩
    refine fApp0 f3.drew (hnu.ev f3.drew.old) (by have := (hs.2 u hmem).1; omega) fun t17 w4 f4 => ⟨⟨f4.old, f4.cell 1 0 rfl rfl, f4.cell 1 1 rfl rfl⟩, ?_⟩
    have hn := f4.nm 0 rfl
    refine ⟨hn.one, fLit_sz 2 [[.string u.1, t17]] f4 rfl rfl (fun v hv => by simp at hv; subst hv; rfl) (fun ad w5 f5 => ⟨⟨f5.old, f5.cell 2 0 rfl rfl, f5.cell 2 1 rfl rfl⟩, ?_⟩) (by decide) (by kernel_rfl) (by decide +kernel)⟩
    refine fAppR 40 (m := 1) f5 3 rfl (Sl.of_st2 (f5.get 0 rfl)) (fun x hx => ?_) (by omega) (by unfold maxLen; omega) (fun v' w6 f6 => ⟨⟨f6.old, f6.cell 2 0 rfl rfl, f6.cell 2 1 rfl rfl⟩, ?_⟩) (by kernel_rfl)
    · simp at hx; rcases hx with rfl | rfl
      · rfl
      · exact hn.oc
    · have f7 := f6.picksN 4 [3, 1] (by decide) (by decide)
      have e1 : ownF v' (os ++ [(u.1, t17, u.2.2)]) = rIt eE 2 v' (os.length + 1) (cells3 os ++ [.string u.1, t17]) :: oIt .u8 eB t17 u.2.2 :: os.reverse.map fun u => oIt .u8 eB u.2.1 u.2.2 := by
        unfold ownF; rw [cells3_app, List.length_append, List.reverse_append]; rfl
      refine ⟨⟨k + 1, os ++ [(u.1, t17, u.2.2)], by rw [i64_id (by omega) (by omega)]; omega, by omega, ?_, by rw [e1]; exact f7⟩, by dsimp only; rw [i64_id (by omega) (by omega)]; omega⟩
      rw [htk, List.map_append, List.map_append, hos]; rfl
  · exact ⟨out, os, rfl, by rw [hos, List.take_of_length_le (by omega)], f1⟩
theorem much_any {v : Value} {us : List E3} (hv : Es w v us) (hs : Small us) : Calls P n_names_much #[v] w (fun e w' => e = .returned (.bool (much (us.map er))) ∧ Ev w w') := by
  have hus := hs.1
  refine of_names_much (gLen_slv hv.1 ⟨fun d c i w' => ∃ k : Nat, i = (k : Int) ∧ k ≤ us.length ∧ d = sumD ((us.take k).map er) ∧ c = sumN ((us.take k).map er) ∧ d ≤ 1048576 ∧ c ≤ 1048576 ∧ Ev w w', fun _ _ i _ => (us.length - i).toNat, ⟨0, rfl, Nat.zero_le _, rfl, rfl, by decide, by decide, Ch.refl _ w⟩, ?_⟩)
  rintro _ d c i w1 ⟨k, rfl, hk, hd, hc, hd1, hc1, he⟩
  refine gIf_dec (fun hlt => ?_) (fun hge => ?_)
  · have hlt' : k < us.length := by omega
    have hu : us[k]? = some us[k] := List.getElem?_eq_getElem hlt'
    have hmem : us[k] ∈ us := List.getElem_mem hlt'
    have htk : us.take (k + 1) = us.take k ++ [us[k]] := List.take_succ_eq_append_getElem hlt'
    have hall : us = us.take (k + 1) ++ us.drop (k + 1) := (List.take_append_drop _ _).symm
    generalize us[k] = u at hu hmem htk
    have hsd : sumD ((us.take (k + 1)).map er) = d + (u.2.2.length : Int) := by rw [htk, List.map_append, sumD_app, hd]; simp [sumD, er]
    have hsn : sumN ((us.take (k + 1)).map er) = c + (u.1.size : Int) := by rw [htk, List.map_append, sumN_app, hc]; simp [sumN, er]
    have hd0 : 0 ≤ d := by rw [hd]; exact sumD_nn _
    have hc0 : 0 ≤ c := by rw [hc]; exact sumN_nn _
    have hbig := hs.2 u hmem
    have hnu := hv.2 u hmem
    have over : (d + (u.2.2.length : Int) > 1048576 ∨ c + (u.1.size : Int) > 1048576) → much (us.map er) = true := fun ho => by
      have h1 : sumD (us.map er) = d + (u.2.2.length : Int) + sumD ((us.drop (k + 1)).map er) := by
        rw [← hsd, ← sumD_app, ← List.map_append, List.take_append_drop]
      have h2 : sumN (us.map er) = c + (u.1.size : Int) + sumN ((us.drop (k + 1)).map er) := by
        rw [← hsn, ← sumN_app, ← List.map_append, List.take_append_drop]
      have h3 := sumD_nn ((us.drop (k + 1)).map er)
      have h4 := sumN_nn ((us.drop (k + 1)).map er)
      unfold much
      rcases ho with ho | ho
      · rw [decide_eq_true (show 1048576 < sumD (us.map er) by omega)]; simp
      · rw [decide_eq_true (show 1048576 < sumN (us.map er) by omega)]; simp
    refine gIdx_E (hv.ev he) rfl hu fun ad h0 h1 => gLoad_E h0 h1 (fAlloc (z := .agg #[.string ⟨#[]⟩, .slice none 0 0]) (Fr.start w1) (by kernel_rfl) fun x5 w2 f2 => ?_)
    refine fStoreA f2 0 rfl (fun w3 f3 => ?_) rfl (fun x hx => by simp at hx; rcases hx with rfl | rfl; rfl; exact hnu.oc)
    refine gLoad_v (f3.cell 0 1 rfl rfl) (gLen_nm (hnu.ev (he.trans f3.old)) (gLoad_s (f3.cell 0 0 rfl rfl) ?_))
    rw [i64_id (n := d + (u.2.2.length : Int)) (by omega) (by omega), i64_id (n := c + (u.1.size : Int)) (by omega) (by omega)]
    refine gIf_ndec (fun h1 => gIf_dec (fun h2 => ?_) (fun h2 => ?_)) (fun h1 => ?_)
    · exact ⟨by rw [over (.inr h2)], he.trans f3.old⟩
    · exact ⟨⟨k + 1, by rw [i64_id (by omega) (by omega)]; omega, by omega, hsd.symm, hsn.symm, by omega, by omega, he.trans f3.old⟩, by dsimp only; rw [i64_id (by omega) (by omega)]; omega⟩
    · exact ⟨by rw [over (.inl h1)], he.trans f3.old⟩
  · refine gLen_slv (hv.ev he).1 ⟨?_, he⟩
    rw [List.take_of_length_le (by omega)] at hd hc
    unfold much
    rw [← hd, ← hc, decide_eq_false (show ¬ 1048576 < d by omega), decide_eq_false (show ¬ 1048576 < c by omega), Bool.or_false, Bool.or_false, List.length_map]
    by_cases h : 4096 < us.length
    · rw [decide_eq_true h, decide_eq_true (by omega)]
    · rw [decide_eq_false h, decide_eq_false (by omega)]
theorem Clone_any {v : Value} {us : List E3} (hv : Es w v us) (hl : us.length ≤ 1000000000) : Calls P n_slices_Clone_api_Entry_api_Entry #[v] w (fun e w' => ∃ v', e = .returned v' ∧ Fr w w' [rIt eE 2 v' us.length (cells3 us)]) := by
  obtain ⟨a, c, rfl, hc⟩ := hv.shape
  refine of_slices_Clone_api_Entry_api_Entry (gEq_snil (gIf_b (fun hn => ?_) (fun hn => ?_)))
  · have : a = none := Option.isNone_iff_eq_none.1 hn
    subst this
    obtain ⟨a', c', e1, _, _, _, h4⟩ := hv.1
    injection e1 with e1 _ _
    have h0 := h4 e1.symm
    have : us = [] := List.eq_nil_of_length_eq_zero h0
    subst this
    exact ⟨_, rfl, (Fr.start w).nilR eE 2⟩
  · refine fLitR0 (sz := 2) (Fr.start w) rfl (fun t5 w1 f1 => ?_) (by kernel_rfl)
    refine fAppR 40 f1 0 rfl (hv.1.ev f1.old) (one3 hv.oc) (by omega) (by unfold maxLen; omega) (fun v' w2 f2 => ⟨v', rfl, ?_⟩) (by kernel_rfl)
    rw [Nat.zero_add, List.nil_append] at f2; exact f2
theorem Sort1_any (s : ByteArray) (d : Value) (hd : d.oneCell' = true) : Calls P n_names_Sort_1 #[.agg #[.string s, d]] w (fun e w' => e = .returned (.bool (!rightN s)) ∧ Ev w w') :=
  of_names_Sort_1 (fBox (Fr.start w) fun x1 w1 f1 => gLoad_s (f1.cell 0 0 rfl rfl) (gCall_b (Right_any s) fun w2 h2 => ⟨rfl, f1.old.trans h2⟩))
theorem ContainsWrong_any {v : Value} {us : List E3} (hv : Es w v us) (hl : us.length ≤ 1000000000) : Calls P n_slices_ContainsFunc_api_Entry_api_Entry #[v, .func (.func n_names_Sort_1) #[] #[]] w (fun e w' => e = .returned (.bool ((us.map er).any fun x => !rightN x.1)) ∧ Ev w w') := by
  refine of_slices_ContainsFunc_api_Entry_api_Entry ?_
  have hI : Calls P n_slices_IndexFunc_api_Entry_api_Entry #[v, .func (.func n_names_Sort_1) #[] #[]] w (fun e w' => ∃ r : Int, e = .returned (.int .i64 r) ∧ decide (r ≥ 0) = ((us.map er).any fun x => !rightN x.1) ∧ Ev w w') := by
    refine of_slices_IndexFunc_api_Entry_api_Entry (gLen_slv hv.1 ⟨fun i w' => ∃ j : Nat, i = (j : Int) ∧ j ≤ us.length ∧ ((us.map er).any fun x => !rightN x.1) = (((us.drop j).map er).any fun x => !rightN x.1) ∧ Ev w w', fun i _ => (us.length - i).toNat, ⟨0, rfl, Nat.zero_le _, rfl, Ch.refl _ w⟩, ?_⟩)
    rintro _ i w1 ⟨j, rfl, hj, hany, he⟩
    refine gIf_dec (fun hlt => ?_) (fun hge => ?_)
    · have hlt' : j < us.length := by omega
      rw [List.drop_eq_getElem_cons hlt', List.map_cons, List.any_cons] at hany
      have hu : us[j]? = some us[j] := List.getElem?_eq_getElem hlt'
      have hmem : us[j] ∈ us := List.getElem_mem hlt'
      generalize us[j] = u at hu hmem hany
      refine gIdx_E (hv.ev he) rfl hu fun ad h0 h1 => gLoad_E h0 h1 (gCallV_of rfl (by kernel_rfl) (Sort1_any u.1 u.2.1 (hv.oc u hmem)) ?_)
      rintro _ w2 ⟨rfl, h2⟩
      refine ⟨_, rfl, gIf_b (fun h => ⟨(j : Int), rfl, ?_, he.trans h2⟩) (fun h => ⟨⟨j + 1, by rw [i64_id (by omega) (by omega)]; omega, by omega, ?_, he.trans h2⟩, by dsimp only; rw [i64_id (by omega) (by omega)]; omega⟩)⟩
      · rw [hany, decide_eq_true (by omega)]; show true = (!rightN u.1 || _); rw [h]; rfl
      · rw [hany]; show (!rightN u.1 || _) = _; rw [h]; rfl
    · refine ⟨-1, rfl, ?_, he⟩
      rw [hany, List.drop_of_length_le (by omega)]; rfl
  refine gCall_of hI ?_
  rintro _ w2 ⟨r, rfl, hr, h2⟩
  exact ⟨r, rfl, by rw [hr], h2⟩
end
end Go.Proofs.YtiimlfgjnapgjaaGreatDoorV

/- Sort: the program's and the reference's. -/
namespace Go.Proofs.YtiimlfgjnapgjaaGreatDoorV
open Go Go.RowKit
theorem tl_eqb (a b : ByteArray) : (a.toList == b.toList) = decide (a = b) := by
  rw [ByteArray.toList_eq, ByteArray.toList_eq]
  obtain ⟨⟨a⟩⟩ := a; obtain ⟨⟨b⟩⟩ := b
  by_cases h : a = b
  · subst h; simp
  · simp [h]
abbrev Names (l : List En) : List ByteArray := l.map (·.1)
theorem adj_up {l : List En} (hw : Upw l) (ha : ∀ i, (hi : i + 1 < l.length) → l[i].1 ≠ l[i + 1].1) : Up l := by
  unfold Up
  rw [List.pairwise_iff_getElem]
  intro i j hi hj hij
  have hw' := List.pairwise_iff_getElem.1 hw
  have h1 : nlt l[i].1 l[i + 1].1 = true := by
    cases hc : nlt l[i].1 l[i + 1].1 with
    | true => rfl
    | false => exact absurd (nlt_tri hc (hw' i (i + 1) hi (by omega) (by omega))) (ha i (by omega))
  by_cases he : j = i + 1
  · subst he; exact h1
  · exact nlt_le h1 (hw' (i + 1) j (by omega) hj (by omega))
theorem adj_dup {l : List En} {i : Nat} (hi : i + 1 < l.length) (h : l[i].1 = l[i + 1].1) : ¬ (l.map (·.1)).Nodup := by
  intro hn
  have := List.pairwise_iff_getElem.1 (List.nodup_iff_pairwise_ne.1 hn) i (i + 1) (by simp; omega) (by simp; omega) (by omega)
  simp at this; exact this h
theorem Small.perm {a b : List E3} (h : a.Perm b) (hs : Small b) : Small a := ⟨by rw [h.length_eq]; exact hs.1, fun u hu => hs.2 u (h.mem_iff.1 hu)⟩
section
variable {w0 w w' : World} {F : List It}
/-- A list and an error. -/
def SortR (w : World) (r : List En × Int) (e : Ending) (w' : World) : Prop := ∃ v' us', e = .returned (.tuple #[v', .int .i64 r.2]) ∧ us'.map er = r.1 ∧ Fr w w' (ownF v' us')
theorem ownF_nil (he : Ev w w') : Fr w w' (ownF (.slice none 0 0) []) := Fr.nilR (F := []) he eE 2
theorem Sort_any {v : Value} {us : List E3} (hv : Es w v us) (hs : Small us) : Calls P n_names_Sort #[v] w (SortR w (sortE (us.map er))) := by
  have hus := hs.1
  refine of_names_Sort (gCall_b (ContainsWrong_any hv (by omega)) fun w1 h1 => gIf_b (fun hbad => ?_) (fun hgood => ?_))
  · have e1 : sortE (us.map er) = ([], 6) := by unfold sortE; rw [if_pos hbad]
    rw [e1]
    exact ⟨_, [], rfl, rfl, ownF_nil h1⟩
  refine gCall_of (Clone_any (hv.ev h1) (by omega)) ?_
  rintro _ w2 ⟨t9, rfl, f2⟩
  refine ⟨t9, rfl, gCall_u (SortStable_any f2 hv.oc (by omega)) fun w3 ⟨us', hp, hw, f3⟩ => ?_⟩
  have h3 : Ev w w3 := h1.trans f3.old
  have hv3 : Es w3 t9 us' := ⟨f3.row 0 rfl, fun u hu => (hv.2 u (hp.mem_iff.1 hu)).ev h3⟩
  have hwl : Upw (us'.map er) := by unfold Upw; rw [List.pairwise_map]; exact hw
  have hpe : (us'.map er).Perm (us.map er) := hp.map er
  have hlen : us'.length ≤ 100000000 := by rw [hp.length_eq]; exact hus
  have hn7 : ¬ (Names (us'.map er)).Nodup → sortE (us.map er) = ([], 7) := fun hd => by
    unfold sortE
    rw [if_neg (by rw [hgood]; decide), if_pos (fun h => hd ((hpe.map (fun x => x.1)).nodup_iff.2 h))]
  refine gLen_slv hv3.1 ⟨fun i w' => ∃ j : Nat, i = (j : Int) ∧ j ≤ us'.length ∧ (∀ i, (hi : i + 1 < us'.length) → i + 1 < j → us'[i].1 ≠ us'[i + 1].1) ∧ Ev w3 w', fun i _ => (us'.length - i).toNat, ⟨0, rfl, Nat.zero_le _, fun _ _ h => by omega, Ch.refl _ _⟩, ?_⟩
  rintro _ i w4 ⟨j, rfl, hj, hadj, he⟩
  refine gIf_dec (fun hlt => ?_) (fun hge => ?_)
  · have hlt' : j < us'.length := by omega
    have step : ∀ w', Ev w3 w' → (j = 0 ∨ ∃ q, ∃ (hq : q + 1 < us'.length), j = q + 1 ∧ us'[q].1 ≠ us'[q + 1].1) → (∃ j' : Nat, i64 ((j : Int) + 1) = (j' : Int) ∧ j' ≤ us'.length ∧ (∀ i, (hi : i + 1 < us'.length) → i + 1 < j' → us'[i].1 ≠ us'[i + 1].1) ∧ Ev w3 w') ∧ ((us'.length : Int) - i64 ((j : Int) + 1)).toNat < ((us'.length : Int) - (j : Int)).toNat := fun w' hw' hc => by
      rw [i64_id (by omega) (by omega)]
      refine ⟨⟨j + 1, by omega, by omega, fun i hi hij => ?_, hw'⟩, by omega⟩
      by_cases hi2 : i + 1 < j
      · exact hadj i hi hi2
      · rcases hc with hc | ⟨q, hq, hc, hne⟩
        · omega
        · have : i = q := by omega
          subst this; exact hne
    refine gIf_dec (fun hpos => ?_) (fun hzero => step _ he.drew (.inl (by omega)))
    obtain ⟨q, rfl⟩ : ∃ q, j = q + 1 := ⟨j - 1, by omega⟩
    have hv4 := hv3.ev he
    refine gIdx_E hv4 rfl (List.getElem?_eq_getElem hlt') fun ad h0 _ => gLoadB_s (fun w' hw => Ch.cell (drewEv hw) h0 fun h => h) ?_
    rw [i64_id (n := ((q + 1 : Nat) : Int) - 1) (by omega) (by omega), show ((q + 1 : Nat) : Int) - 1 = (q : Int) by omega]
    refine gIdx_E hv4 rfl (List.getElem?_eq_getElem (show q < us'.length by omega)) fun ad2 h02 _ => gLoadB_s (fun w' hw => Ch.cell (drewEv hw) h02 fun h => h) ?_
    rw [tl_eqb]
    refine gIf_dec (fun heq => ?_) (fun hne => step _ he.drew (.inr ⟨q, hlt', rfl, fun h => hne h.symm⟩))
    have hd : ¬ (Names (us'.map er)).Nodup := adj_dup (l := us'.map er) (i := q) (by simpa using hlt') (by simpa [er] using heq.symm)
    rw [hn7 hd]
    exact ⟨_, [], rfl, rfl, ownF_nil (h3.trans he.drew)⟩
  · have hup : Up (us'.map er) := adj_up hwl fun i hi => by
      have hi' : i + 1 < us'.length := by simpa using hi
      have := hadj i hi' (by omega)
      simpa [er] using this
    have hnd : ((us.map er).map (·.1)).Nodup := (hpe.map (·.1)).nodup_iff.1 hup.nodup
    have hv4 := hv3.ev he
    have hs' := hs.perm hp
    refine gCall_b (much_any hv4 hs') fun w5 h5 => ?_
    rw [much_perm hpe]
    refine gIf_b (fun hm => ?_) (fun hm => ?_)
    · have e1 : sortE (us.map er) = ([], 5) := by unfold sortE; rw [if_neg (by rw [hgood]; decide), if_neg (fun h => h hnd), if_pos hm]
      rw [e1]; exact ⟨_, [], rfl, rfl, ownF_nil (h3.trans (he.trans h5))⟩
    · have e1 : sortE (us.map er) = (us'.map er, 0) := by unfold sortE; rw [if_neg (by rw [hgood]; decide), if_neg (fun h => h hnd), if_neg (by rw [hm]; decide), up_eq_srt hup hpe]
      rw [e1]
      refine gCall_of (own_any (hv4.ev h5) hs') ?_
      rintro _ w6 ⟨t37, us2, rfl, h37, f6⟩
      exact ⟨t37, rfl, t37, us2, rfl, h37, Fr.glue (F := []) (h3.trans (he.trans h5)) f6 |> fun f => by simpa using f⟩
/-! ### The reference -/
theorem Sl.split {v : Value} {us : List E3} (h : Sl w 2 v us.length (cells3 us)) (k : Nat) (hk : k ≤ us.length) : Sl w 2 (subV 2 v 0 k) (us.take k).length (cells3 (us.take k)) ∧ Sl w 2 (subV 2 v k us.length) (us.drop k).length (cells3 (us.drop k)) := by
  constructor
  · have := h.sub 0 k (Nat.zero_le _) hk
    rw [Nat.sub_zero, Nat.zero_mul, List.drop_zero, cells3_take] at this
    rw [List.length_take, Nat.min_eq_left hk]; exact this
  · have := h.sub k us.length hk (Nat.le_refl _)
    rw [cells3_drop, List.take_of_length_le (by rw [cells3_len, List.length_drop]; omega)] at this
    rw [List.length_drop]; exact this
end
end Go.Proofs.YtiimlfgjnapgjaaGreatDoorV

/- Package valisehelp: Spoil. -/
namespace Go.Proofs.YtiimlfgjnapgjaaGreatDoorV
open Go Go.RowKit
end Go.Proofs.YtiimlfgjnapgjaaGreatDoorV

/- Entries held against each other, few of them; the laws NamesRight, NamesSort. -/
namespace Go.Proofs.YtiimlfgjnapgjaaGreatDoorV
open Go Go.RowKit
def Big (us : List E3) : Prop := ∀ u ∈ us, u.2.2.length ≤ reachBytes ∧ u.1.size ≤ reachBytes
section
variable {w0 w w' : World} {F : List It}
theorem Entry_any (u x : E3) (hu : Nm .u8 w u.2.1 u.2.2) (hx : Nm .u8 w x.2.1 x.2.2) : Calls P n_valisehelp_Entry #[.agg #[.string u.1, u.2.1], .agg #[.string x.1, x.2.1]] w (fun e w' => e = .returned (.bool (decide (er u = er x))) ∧ Ev w w') := by
  refine of_valisehelp_Entry (fBox (Fr.start w) fun a2 w1 f1 => fBox f1 fun b3 w2 f2 => gLoad_s (f2.cell 1 0 rfl rfl) (gLoad_s (f2.cell 0 0 rfl rfl) ?_))
  rw [tl_eqb]
  refine gIf_dec (fun he => gLoad_v (f2.cell 1 1 rfl rfl) (gLoad_v (f2.cell 0 1 rfl rfl) (gCall_b0 (Bytes_any (hu.ev f2.old) (hx.ev f2.old)) ⟨?_, f2.old⟩))) (fun hne => ⟨?_, f2.old⟩)
  · have : (er u = er x) ↔ u.2.2 = x.2.2 := by unfold er; rw [Prod.mk.injEq, he]; simp
    rw [decide_eq_decide.2 this]
  · rw [decide_eq_false (show ¬ er u = er x from fun h => hne (congrArg (fun p : En => p.1) h))]
theorem SameE_any {a b : Value} {us vs : List E3} (ha : Es w a us) (hb : Es w b vs) (hl : us.length ≤ 1000000000) : Calls P n_valisehelp_Same_api_Entry #[a, b, .func (.func n_valisehelp_Entry) #[] #[]] w (fun e w' => e = .returned (.bool (decide (us.map er = vs.map er))) ∧ Ev w w') := by
  refine of_valisehelp_Same_api_Entry (gLen_slv ha.1 (gLen_slv hb.1 (gIf_neq (fun hne => ?_) (fun heq => ?_))))
  · refine ⟨?_, Ch.refl _ w⟩
    rw [decide_eq_false]
    intro h; have := congrArg List.length h; simp at this; omega
  have hlen : us.length = vs.length := by omega
  refine ⟨fun i w' => ∃ j : Nat, i = (j : Int) ∧ j ≤ us.length ∧ (us.take j).map er = (vs.take j).map er ∧ Ev w w', fun i _ => (us.length - i).toNat, ⟨0, rfl, Nat.zero_le _, rfl, Ch.refl _ w⟩, ?_⟩
  rintro _ i w1 ⟨j, rfl, hj, heq', he⟩
  have ha1 := ha.ev he
  have hb1 := hb.ev he
  refine gLen_slv ha1.1 (gIf_dec (fun hlt => ?_) (fun hge => ?_))
  · have hlt' : j < us.length := by omega
    have hu := List.getElem?_eq_getElem hlt'
    have hv := List.getElem?_eq_getElem (show j < vs.length by omega)
    have hmu : us[j] ∈ us := List.getElem_mem hlt'
    have hmv : vs[j] ∈ vs := List.getElem_mem (show j < vs.length by omega)
    have tu : us.take (j + 1) = us.take j ++ [us[j]] := List.take_succ_eq_append_getElem hlt'
    have tv : vs.take (j + 1) = vs.take j ++ [vs[j]] := List.take_succ_eq_append_getElem (show j < vs.length by omega)
    generalize us[j] = u at *
    generalize vs[j] = x at *
    refine ⟨fun w' => Ev w1.drew w', Ch.refl _ _, gIdx_E ha1 rfl hu fun ad h0 h1 => gLoadB_agg [.string u.1, u.2.1] (fun w' hw q y hq => ?_) (gIdx_E hb1 rfl hv fun ad2 k0 k1 => gLoadB_agg [.string x.1, x.2.1] (fun w' hw q y hq => ?_) (gCallV_of rfl (by kernel_rfl) (Entry_any u x (ha1.2 u hmu) (hb1.2 x hmv)) ?_))⟩
    · rcases q with _ | _ | q
      · simp at hq; subst hq; exact Ch.cell hw h0 fun h => h
      · simp at hq; subst hq; exact Ch.cell hw h1 fun h => h
      · simp at hq
    · rcases q with _ | _ | q
      · simp at hq; subst hq; exact Ch.cell hw k0 fun h => h
      · simp at hq; subst hq; exact Ch.cell hw k1 fun h => h
      · simp at hq
    · rintro _ w2 ⟨rfl, h2⟩
      refine ⟨_, rfl, h2, gIf_ndec (fun hne => ?_) (fun heq2 => ?_)⟩
      · refine ⟨?_, he.trans ((Ev.drew0 w1).trans h2)⟩
        rw [decide_eq_false]
        intro h
        have h1 : (us.map er)[j]? = (vs.map er)[j]? := by rw [h]
        rw [List.getElem?_map, List.getElem?_map, hu, hv] at h1
        simp at h1; exact hne h1
      · refine ⟨⟨j + 1, by rw [i64_id (by omega) (by omega)]; omega, by omega, ?_, he.trans ((Ev.drew0 w1).trans h2)⟩, by dsimp only; rw [i64_id (by omega) (by omega)]; omega⟩
        rw [tu, tv, List.map_append, List.map_append, heq']; simp [heq2]
  · refine ⟨?_, he⟩
    rw [List.take_of_length_le (by omega), List.take_of_length_le (by omega)] at heq'
    rw [decide_eq_true heq']
/-! ### awake -/
def sB (l : List UInt8) : ByteArray := mkS l
/-! ### The laws -/
theorem gIdx_S {i : Int} {ki : IntKind} {v : Value} {ss : List ByteArray} {j : Nat} {s : ByteArray} {K : Addr → Prop} (h : Ss w v ss) (hij : i = (j : Int)) (hs : ss[j]? = some s) (hk : ∀ ad, w.cell? ad = some (.string s) → K ad) : gIdx P t_sl_string v (.int ki i) K := by
  subst hij
  exact gIdx_sz h (List.getElem?_eq_some_iff.1 hs).1 (fun ad hc _ => hk ad (by
    have := hc 0 (.string s) (by omega) (by rw [Nat.mul_one, Nat.add_zero, List.getElem?_map, hs]; rfl)
    rwa [Addr.add_zero'] at this))
end
end Go.Proofs.YtiimlfgjnapgjaaGreatDoorV

/- Package chain: Right, Clone; Choose without tags. -/
set_option linter.unusedVariables false
set_option linter.unusedSimpArgs false
namespace Go.Proofs.YtiimlfgjnapgjaaGreatDoorV
open Go Go.RowKit
/-- Which tags may be. -/
def okN (ts : List Int) : Nat → Bool
  | 0 => true
  | k + 1 => okN ts k && (decide (1 ≤ rd ts (k : Int) ∧ rd ts (k : Int) ≤ 6) && !decide (rd ts (k : Int) ∈ ts.take k))
def rightB (ts : List Int) : Bool := okN ts ts.length && decide (ts.length ≤ 4)
theorem okN_f {ts : List Int} {k : Nat} (h : okN ts k = false) : ∀ n, k ≤ n → okN ts n = false
  | 0, hk => by
    obtain rfl : k = 0 := by omega
    exact h
  | n + 1, hk => by
    by_cases e : k = n + 1
    · rw [← e]; exact h
    · rw [okN, okN_f h n (by omega)]; rfl
theorem rightB_nil : rightB [] = true := rfl
noncomputable abbrev eN : TypeId := elOf P t_sl_int
def cpV (t : Int) : Value := if t = 1 then .func (.func n_audio_Pack) #[] #[] else if t = 2 then .func (.func n_image_Pack) #[] #[] else if t = 3 then .func (.func n_table_Pack) #[] #[] else if t = 4 then .func (.func n_words_Pack) #[] #[] else if t = 5 then .func (.func n_text_Lines) #[] #[] else if t = 6 then .func (.func n_text_Caps) #[] #[] else .nilFunc
def cuV (t : Int) : Value := if t = 1 then .func (.func n_audio_Unpack) #[] #[] else if t = 2 then .func (.func n_image_Unpack) #[] #[] else if t = 3 then .func (.func n_table_Unpack) #[] #[] else if t = 4 then .func (.func n_words_Unpack) #[] #[] else if t = 5 then .func (.func n_text_Unlines) #[] #[] else if t = 6 then .func (.func n_text_Uncaps) #[] #[] else .nilFunc
theorem cpV_one (t : Int) : (cpV t).oneCell' = true := by unfold cpV; (repeat' split) <;> rfl
theorem cuV_one (t : Int) : (cuV t).oneCell' = true := by unfold cuV; (repeat' split) <;> rfl
/-- Bytes, and tags. -/
noncomputable def FwdE (w : World) (r : List Int × List Int) (e : Ending) (w' : World) : Prop := ∃ x d, e = .returned (.tuple #[x, d]) ∧ Ev w w' ∧ ON .u8 eB w' w.heap.size x r.1 ∧ ON .i64 eN w' w.heap.size d r.2
def DetE (w : World) (r : List Int) (e : Ending) (w' : World) : Prop := ∃ v, e = .returned v ∧ Ev w w' ∧ Nm .i64 w' v r
section
variable {w0 w : World} {F : List It}
theorem gOf {t : Int} {K : Value → Value → Bool → World → Prop} (hk : ∀ w', Ev w w' → K (cpV t) (cuV t) (decide (1 ≤ t ∧ t ≤ 6)) w') : gCall P n_chain_of (.tup [.agg [.val, .val], .one .bool]) #[.int .i64 t] w K := by
  refine gCall_of (R := fun e w' => e = .returned (.tuple #[.agg #[cpV t, cuV t], .bool (decide (1 ≤ t ∧ t ≤ 6))]) ∧ Ev w w') ?_ ?_
  · refine of_chain_of (fAlloc (z := .agg #[.nilFunc, .nilFunc]) (Fr.start w) (by kernel_rfl) fun ad w1 f1 => ?_)
    refine gIf_eq (fun h => ?_) (fun h1 => gIf_eq (fun h => ?_) (fun h2 => gIf_eq (fun h => ?_) (fun h3 => gIf_eq (fun h => ?_) (fun h4 => gIf_eq (fun h => ?_) (fun h5 => gIf_eq (fun h => ?_) (fun h6 => ?_))))))
    · subst h; exact ⟨rfl, rfl, fStoreA f1 0 rfl (fun w2 f2 => fLoadA f2 0 rfl ⟨rfl, f2.old⟩)⟩
    · subst h; exact ⟨rfl, rfl, fStoreA f1 0 rfl (fun w2 f2 => fLoadA f2 0 rfl ⟨rfl, f2.old⟩)⟩
    · subst h; exact ⟨rfl, rfl, fStoreA f1 0 rfl (fun w2 f2 => fLoadA f2 0 rfl ⟨rfl, f2.old⟩)⟩
    · subst h; exact ⟨rfl, rfl, fStoreA f1 0 rfl (fun w2 f2 => fLoadA f2 0 rfl ⟨rfl, f2.old⟩)⟩
    · subst h; exact ⟨rfl, rfl, fStoreA f1 0 rfl (fun w2 f2 => fLoadA f2 0 rfl ⟨rfl, f2.old⟩)⟩
    · subst h; exact ⟨rfl, rfl, fStoreA f1 0 rfl (fun w2 f2 => fLoadA f2 0 rfl ⟨rfl, f2.old⟩)⟩
    · refine fStoreA f1 0 rfl (fun w2 f2 => fLoadA f2 0 rfl ⟨?_, f2.old⟩)
      unfold cpV cuV
      rw [if_neg h1, if_neg h2, if_neg h3, if_neg h4, if_neg h5, if_neg h6, if_neg h1, if_neg h2, if_neg h3, if_neg h4, if_neg h5, if_neg h6, decide_eq_false (by omega)]
  · rintro _ w' ⟨rfl, h⟩
    exact ⟨_, _, _, rfl, hk w' h⟩
theorem cloneX_any {b : Value} {xs : List Int} (hb : Nm .u8 w b xs) (hl : xs.length ≤ 1000000000) : Calls P n_bytes_Clone #[b] w (NewB w xs) := by
  have hb2 := hb
  obtain ⟨⟨a, c, rfl, _, _, _, h0⟩, _⟩ := hb2
  refine of_bytes_Clone (gEq_snil (gIf_b (fun h => ?_) (fun h => ?_)))
  · have e : xs = [] := List.eq_nil_of_length_eq_zero (h0 (by simpa using h))
    subst e
    exact ⟨_, rfl, Ch.refl _ w, ON.nil _ _ _ _⟩
  · refine fLit_n [] (Fr.start w) rfl rfl (fun x hx => by cases hx) fun v w1 f1 => fApp f1 0 rfl (hb.ev f1.old) (by simp; omega) fun v2 w2 f2 => ⟨v2, rfl, f2.old, ?_⟩
    have := f2.on 0 rfl
    exact this
theorem equalX_any {a b : Value} {xs ys : List Int} (ha : Nm .u8 w a xs) (hb : Nm .u8 w b ys) : Calls P n_bytes_Equal #[a, b] w (fun e w' => e = .returned (.bool (decide (xs = ys))) ∧ w' = w) :=
  of_bytes_Equal (gConv_bs ha (gConv_bs hb ⟨by rw [bsOf_eq ha.2 hb.2], rfl⟩))
theorem mem_rd {ts : List Int} {t : Int} : t ∈ ts ↔ ∃ j : Nat, j < ts.length ∧ rd ts (j : Int) = t := by
  constructor
  · intro h
    obtain ⟨j, hj, e⟩ := List.getElem_of_mem h
    exact ⟨j, hj, by rw [rd_nat ts j hj, e]⟩
  · rintro ⟨j, hj, rfl⟩
    rw [rd_nat ts j hj]; exact List.getElem_mem hj
theorem containsI_any {v : Value} {ts : List Int} {t : Int} (h : Nm .i64 w v ts) (hl : ts.length ≤ 1000000000) : Calls P n_slices_Contains_int_int #[v, .int .i64 t] w (fun e w' => e = .returned (.bool (decide (t ∈ ts))) ∧ w' = w) := by
  refine of_slices_Contains_int_int (gCall_of (R := fun e w' => ∃ r : Int, e = .returned (.int .i64 r) ∧ (r ≥ 0 ↔ t ∈ ts) ∧ w' = w) ?_ ?_)
  · refine of_slices_Index_int_int (gLen_nm h ⟨fun i w' => ∃ k : Nat, i = (k : Int) ∧ k ≤ ts.length ∧ (∀ j : Nat, j < k → rd ts (j : Int) ≠ t) ∧ w' = w, fun i _ => (ts.length - i).toNat, ⟨0, rfl, Nat.zero_le _, (fun j hj => by omega), rfl⟩, ?_⟩)
    rintro _ i _ ⟨k, rfl, hk, hall, rfl⟩
    refine gIf_dec (fun hlt => gGet h (by omega) (by omega) (gIf_eq (fun he => ?_) (fun hne => ?_))) (fun hge => ?_)
    · exact ⟨_, rfl, ⟨fun _ => mem_rd.2 ⟨k, by omega, he.symm⟩, fun _ => by omega⟩, rfl⟩
    · refine ⟨⟨k + 1, by rw [i64_id (by omega) (by omega)]; omega, by omega, fun j hj => ?_, rfl⟩, by dsimp only; rw [i64_id (by omega) (by omega)]; omega⟩
      by_cases e : j = k
      · subst e; exact fun e => hne e.symm
      · exact hall j (by omega)
    · refine ⟨_, rfl, ⟨fun h => by omega, fun hm => ?_⟩, rfl⟩
      obtain ⟨j, hj, e⟩ := mem_rd.1 hm
      exact absurd e (hall j (by omega))
  · rintro _ _ ⟨r, rfl, hr, rfl⟩
    exact ⟨_, rfl, by rw [decide_eq_decide.2 hr], rfl⟩
theorem rightB_f {ts : List Int} {k : Nat} (hk : k < ts.length) (h : okN ts (k + 1) = false) : rightB ts = false := by
  unfold rightB; rw [okN_f h ts.length (by omega)]; rfl
theorem cRight_any {v : Value} {ts : List Int} (hb : Nm .i64 w v ts) (hl : ts.length ≤ 1000000000) : Calls P n_chain_Right #[v] w (fun e w' => e = .returned (.bool (rightB ts)) ∧ Ev w w') := by
  refine of_chain_Right (gLen_nm hb ⟨fun i w' => ∃ k : Nat, i = (k : Int) ∧ k ≤ ts.length ∧ okN ts k = true ∧ Ev w w', fun i _ => (ts.length - i).toNat, ⟨0, rfl, Nat.zero_le _, rfl, Ch.refl _ w⟩, ?_⟩)
  rintro _ i w1 ⟨k, rfl, hk, hok, h1⟩
  refine gIf_dec (fun hlt => gGet (hb.ev h1) (by omega) (by omega) (gOf fun w2 h2 => fAlloc (z := .agg #[.nilFunc, .nilFunc]) (Fr.start w2) (by kernel_rfl) fun ad w3 f3 => fStoreA f3 0 rfl (fun w4 f4 => ?_) rfl (fun x hx => ?_))) (fun hge => ?_)
  · have h4 := (h1.trans h2).trans f4.old
    refine gIf_nnb (fun ht => ?_) (fun ht => ⟨?_, h4⟩)
    · refine gSlice_nm (hb.ev h4) 0 k (.inl ⟨rfl, rfl⟩) (.inr ⟨_, rfl⟩) (Nat.zero_le _) hk fun hs => ?_
      rw [List.drop_zero, Nat.sub_zero] at hs
      refine gCall_b0 (containsI_any hs (by rw [List.length_take]; omega)) (gIf_b (fun hc => ⟨?_, h4⟩) (fun hc => ?_))
      · rw [rightB_f (k := k) (by omega) (by rw [okN, hc]; simp)]
      · exact ⟨⟨k + 1, by rw [i64_id (by omega) (by omega)]; omega, by omega, by rw [okN, hok, ht, hc]; rfl, h4⟩, by dsimp only; rw [i64_id (by omega) (by omega)]; omega⟩
    · rw [rightB_f (k := k) (by omega) (by rw [okN, ht]; simp)]
  · simp at hx; rcases hx with rfl | rfl
    · exact cpV_one _
    · exact cuV_one _
  · obtain rfl : k = ts.length := by omega
    refine gLen_nm hb ⟨?_, h1⟩
    unfold rightB
    rw [hok, Bool.true_and]
    congr 2
    exact decide_eq_decide.2 (by omega)
theorem Forward0_any {b tags : Value} {xs : List Int} (hb : Nm .u8 w b xs) (ht : Nm .i64 w tags []) (hl : xs.length ≤ 10000000) : Calls P n_chain_Forward #[b, tags] w (FwdE w (xs, [])) := by
  refine of_chain_Forward (gCall_v (cloneX_any hb (by omega)) fun x w1 ⟨h1, o1⟩ => gCall_b (cRight_any (ht.ev h1) (by simp)) fun w2 h2 => ?_)
  have f2 := ((Fr.start w).newO h1 o1).ev h2
  rw [rightB_nil]
  refine gIf_nt (gLen_nm ((ht.ev h1).ev h2) ⟨fun out did i w' => out = x ∧ did = .slice none 0 0 ∧ i = 0 ∧ w' = w2, fun _ _ _ _ => 0, ⟨rfl, rfl, rfl, rfl⟩, ?_⟩)
  rintro _ _ _ _ _ ⟨rfl, rfl, rfl, rfl⟩
  exact gIf_f ⟨_, _, rfl, f2.old, f2.on 0 rfl, ON.nil .i64 eN _ _⟩
theorem Inverse0_any {x tags : Value} {xs : List Int} {most : Int} (hx : Nm .u8 w x xs) (ht : Nm .i64 w tags []) (hl : xs.length ≤ 10000000) (hm : xs.length ≤ most) : Calls P n_chain_Inverse #[x, .int .i64 most, tags] w (TupE w (xs, 0)) := by
  refine of_chain_Inverse (gCall_b (cRight_any ht (by simp)) fun w1 h1 => ?_)
  rw [rightB_nil]
  refine gIf_nt ⟨fun w' => w' = w1, gLen_nm (ht.ev h1) (gIf_t (gLen_nm (hx.ev h1) (gIf_dec (fun hg => ?_) (fun hg => rfl)))), ?_⟩
  · exfalso
    split at hg <;> omega
  rintro _ w2 hw2
  obtain rfl : w1 = w2 := hw2.symm
  refine gCall_v (cloneX_any (hx.ev h1) (by omega)) fun out w3 ⟨h3, o3⟩ => gLen_nm ((ht.ev h1).ev h3) ?_
  have f3 := ((Fr.start w).ev h1).newO h3 o3
  refine ⟨fun o i w' => o = out ∧ i = -1 ∧ w' = w3, fun _ _ _ => 0, ⟨rfl, rfl, rfl⟩, ?_⟩
  rintro _ _ _ _ ⟨rfl, rfl, rfl⟩
  exact gIf_f ⟨_, rfl, f3.old, f3.on 0 rfl⟩
/-- Without tags bytes are as they are. -/
theorem Choose0_any {b tags : Value} {xs : List Int} (hb : Nm .u8 w b xs) (ht : Nm .i64 w tags []) (hl : xs.length ≤ 10000000) : Calls P n_chain_Choose #[b, tags] w (FwdE w (xs, [])) := by
  refine of_chain_Choose (gCall_of (Forward0_any hb ht hl) ?_)
  rintro _ w1 ⟨x, d, rfl, h1, nx, nd⟩
  refine ⟨_, _, rfl, gLen_nm (hb.ev h1) (gCall_of (Inverse0_any nx.nm nd.nm hl (Int.le_refl _)) ?_)⟩
  rintro _ w2 ⟨y, rfl, h2, oy⟩
  refine ⟨_, _, rfl, gIf_nf (gCall_b0 (equalX_any oy.nm ((hb.ev h1).ev h2)) (gIf_ndec (fun h => (h rfl).elim) (fun _ => ⟨x, d, rfl, h1.trans h2, nx.ev h2, nd.ev h2⟩)))⟩
end
end Go.Proofs.YtiimlfgjnapgjaaGreatDoorV

/- Package script: a reader as one thing; the decoder's numbers and texts. -/
set_option linter.unusedVariables false
set_option linter.unusedSimpArgs false
namespace Go.Proofs.YtiimlfgjnapgjaaGreatDoorV
open Go Go.RowKit
def RdO (ra : Addr) (y : Value) (xs : List Int) (s : Nat × Int) (w : World) : Prop := Rd w ra y xs s.1 s.2 ∧ ON .u8 eB w 0 y xs
noncomputable def rdIt (ra : Addr) (y : Value) (xs : List Int) (s : Nat × Int) : It := ⟨fun k => k = ra.block ∨ y.ownBlock = some k, RdO ra y xs s, fun w k h hk => by
    rcases hk with hk | hk
    · rw [hk]; exact h.1.1.ce
    · exact h.2.ce hk, fun w w' S h hc hs => ⟨h.1.ch hc fun k i hk => hs k i hk, h.2.ch hc fun g i hg => hs g i (.inr hg)⟩, fun w w' h hz hc => ⟨⟨h.1.1.gr hc, (h.2.gr hc).nm, h.1.2.2⟩, h.2.gr hc⟩⟩
section
variable {w0 w w' : World} {F : List It} {xs : List Int} {ra da : Addr} {y : Value} {s : Nat × Int}
theorem rd_of (f : Fr w0 w F) (i : Nat) (hi : F[i]? = some (rdIt ra y xs s)) : Rd w ra y xs s.1 s.2 := (show RdO ra y xs s w from f.get i hi).1
theorem rd_len (f : Fr w0 w F) (i : Nat) (hi : F[i]? = some (rdIt ra y xs s)) : s.1 ≤ xs.length ∧ xs.length ≤ 10000000000 ∧ inR .u8 xs := by
  have h := rd_of f i hi
  exact ⟨h.2.2.2.1, h.2.2.2.2, h.2.1.2⟩
theorem rd_rs {s' : Nat × Int} (f : Fr w0 w F) (i : Nat) (hi : F[i]? = some (rdIt ra y xs s)) (g : RS w w' ra y xs s'.1 s'.2) : Fr w0 w' (F.set i (rdIt ra y xs s')) := by
  have h : RdO ra y xs s w := f.get i hi
  refine f.upd i hi g.2 (fun k q hh => .inl (.inl hh.1)) ⟨g.1, h.2.ch g.2 fun gg q hg hh => h.1.2.2.1 (by rw [hg, hh.1])⟩ fun k hk => .inl hk
/-- A reader that is new. -/
theorem rd_new {ad : Addr} (f : Fr w0 w (sIt ad [y, .int .i64 0, .int .i64 0] :: oIt .u8 eB y xs :: F)) (hl : xs.length ≤ 10000000000) : Fr w0 w (rdIt ad y xs (0, 0) :: F) := by
  obtain ⟨h1, h2, h3, h4, h5, h6, h7⟩ := f
  have hn : y.ownBlock ≠ some ad.block := fun e => h3 (oIt .u8 eB y xs) (by simp) ad.block rfl e
  have ho : ON .u8 eB w 0 y xs := h4
  refine ⟨⟨⟨h1, ho.nm, hn, Nat.zero_le _, hl⟩, ho⟩, fun k hk => ?_, fun jt hj k hk => ?_, h7⟩
  · rcases hk with hk | hk
    · exact h2 k hk
    · exact h5 k hk
  · rcases hk with hk | hk
    · exact h3 jt (List.mem_cons_of_mem _ hj) k hk
    · exact h6 jt hj k hk
/-- What a text brings: bytes of its own. -/
theorem rd_raw {r : List Int × Nat × Int} {e : Ending} (f : Fr w0 w F) (i : Nat) (hi : F[i]? = some (rdIt ra y xs s)) (g : RawE w ra y xs r e w') : ∃ v, e = .returned v ∧ Fr w0 w' (oIt .u8 eB v r.1 :: F.set i (rdIt ra y xs r.2)) := by
  obtain ⟨v, rfl, g1, g2⟩ := g
  have f1 := rd_rs (s' := r.2) f i hi g1
  have hlt : ∀ it ∈ F.set i (rdIt ra y xs r.2), ∀ k, it.ft k → k < w.heap.size := fun it hm k hk => by
    rcases List.mem_or_eq_of_mem_set hm with hm | rfl
    · exact It.lt it w k (f.mem hm).1 hk
    · exact It.lt (rdIt ra y xs s) w k (f.get i hi) hk
  exact ⟨v, rfl, f1.cons f.old.size hlt (g2.low (Nat.zero_le _)) fun k hk => (g2.base hk).1⟩
theorem nmS_rg {m : Int} (hm : 0 ≤ m) (hx : inR .u8 xs) : 0 ≤ (nmS xs m s).1 ∧ (nmS xs m s).1 ≤ m := by
  have := numR_rng (xs := xs) (a := s.1) (er := s.2) (most := 18446744073709551615) hx
  unfold nmS
  dsimp only
  split <;> omega
/-! ### The program's -/
theorem fNumD {m : Int} {K : Int → World → Prop} (f : Fr w0 w F) (i j : Nat) (hi : F[i]? = some (rdIt ra y xs s)) (hj : F[j]? = some (sIt da [.pointer (some ra)])) (hm : 0 ≤ m ∧ m ≤ 1000000000)
    (hk : ∀ w', Fr w0 w' (F.set i (rdIt ra y xs (nmS xs m s).2)) → K (nmS xs m s).1 w') : gCall P n_script_decoder_number (shI .i64) #[.pointer (some da), .int .i64 m] w K := by
  refine gCall_i (Q := fun w' => Fr w0 w' (F.set i (rdIt ra y xs (nmS xs m s).2))) ?_ hk
  refine of_script_decoder_number (gNil_some (fLoad_p f j 0 hj rfl (gCall_i (rNum_any (rd_of f i hi)) fun w1 h1 => ?_)))
  have hr := numR_rng (xs := xs) (a := s.1) (er := s.2) (most := 18446744073709551615) (rd_len f i hi).2.2
  have f1 := rd_rs (s' := (nmS xs m s).2) f i hi h1
  rw [show u64 m = m by rw [u64_def]; omega]
  refine gIf_dec (fun hg => ⟨?_, f1⟩) (fun hg => ⟨?_, f1⟩)
  · unfold nmS; rw [if_pos hg]
  · unfold nmS; rw [if_neg hg, i64_id (by omega) (by omega)]
theorem fBytesD {m : Int} {K : Value → World → Prop} (f : Fr w0 w F) (i j : Nat) (hi : F[i]? = some (rdIt ra y xs s)) (hj : F[j]? = some (sIt da [.pointer (some ra)])) (hm : 0 ≤ m ∧ m ≤ 1000000000)
    (hk : ∀ v w', Fr w0 w' (oIt .u8 eB v (txS xs m s).1 :: F.set i (rdIt ra y xs (txS xs m s).2)) → K v w') : gCall P n_script_decoder_bytes shV #[.pointer (some da), .int .i64 m] w K := by
  refine gCall_v (Q := fun v w' => Fr w0 w' (oIt .u8 eB v (txS xs m s).1 :: F.set i (rdIt ra y xs (txS xs m s).2))) ?_ hk
  refine of_script_decoder_bytes (gNil_some (fLoad_p f j 0 hj rfl (gCall_of (rText_any (rd_of f i hi) (by omega)) ?_)))
  intro e w1 h1
  obtain ⟨v, rfl, f1⟩ := rd_raw f i hi h1
  exact ⟨v, rfl, v, rfl, f1⟩
theorem fTextD {m : Int} {K : ByteArray → World → Prop} (f : Fr w0 w F) (i j : Nat) (hi : F[i]? = some (rdIt ra y xs s)) (hj : F[j]? = some (sIt da [.pointer (some ra)])) (hm : 0 ≤ m ∧ m ≤ 1000000000)
    (hk : ∀ w', Fr w0 w' (F.set i (rdIt ra y xs (txS xs m s).2)) → K (bsOf (txS xs m s).1) w') : gCall P n_script_decoder_text shS #[.pointer (some da), .int .i64 m] w K := by
  refine gCall_of (R := fun e w' => e = .returned (.string (bsOf (txS xs m s).1)) ∧ Fr w0 w' (F.set i (rdIt ra y xs (txS xs m s).2))) ?_ ?_
  · refine of_script_decoder_text (gNil_some (fLoad_p f j 0 hj rfl (gCall_of (rText_any (rd_of f i hi) (by omega)) ?_)))
    intro e w1 h1
    obtain ⟨v, rfl, f1⟩ := rd_raw f i hi h1
    exact ⟨v, rfl, gConv_bs (f1.nm 0 rfl) ⟨rfl, f1.drop 0⟩⟩
  · rintro _ w1 ⟨rfl, f1⟩
    exact ⟨_, rfl, hk w1 f1⟩
/-! ### The reference's -/
theorem fNumQ {m : Int} {K : Int → World → Prop} (f : Fr w0 w F) (i : Nat) (hi : F[i]? = some (rdIt ra y xs s)) (hm : 0 ≤ m ∧ m ≤ 1000000000)
    (hk : ∀ w', Fr w0 w' (F.set i (rdIt ra y xs (nmS xs m s).2)) → K (nmS xs m s).1 w') : gCall P n_valiseref31_num (shI .i64) #[.pointer (some ra), .int .u64 m] w K := by
  refine gCall_i (Q := fun w' => Fr w0 w' (F.set i (rdIt ra y xs (nmS xs m s).2))) ?_ hk
  refine of_valiseref31_num (gCall_i (rrNum_any (rd_of f i hi)) fun w1 h1 => ?_)
  have hr := numR_rng (xs := xs) (a := s.1) (er := s.2) (most := 18446744073709551615) (rd_len f i hi).2.2
  have f1 := rd_rs (s' := (nmS xs m s).2) f i hi h1
  refine gIf_dec (fun hg => ⟨?_, f1⟩) (fun hg => ⟨?_, f1⟩)
  · unfold nmS; rw [if_pos hg]
  · unfold nmS; rw [if_neg hg, i64_id (by omega) (by omega)]
theorem fTextQ {m : Int} {K : Value → World → Prop} (f : Fr w0 w F) (i : Nat) (hi : F[i]? = some (rdIt ra y xs s)) (hm : 0 ≤ m ∧ m ≤ 1000000000)
    (hk : ∀ v w', Fr w0 w' (oIt .u8 eB v (txS xs m s).1 :: F.set i (rdIt ra y xs (txS xs m s).2)) → K v w') : gCall P n_valiseref02_Reader_Text shV #[.pointer (some ra), .int .i64 m] w K := by
  refine gCall_of (rrText_any (rd_of f i hi) hm) ?_
  intro e w1 h1
  obtain ⟨v, rfl, f1⟩ := rd_raw f i hi h1
  exact ⟨v, rfl, hk v w1 f1⟩
end
/-! ### Operations in memory -/
noncomputable abbrev eO : TypeId := elOf P t_sl_api_Op
noncomputable abbrev eS : TypeId := elOf P t_sl_string
def opC (o : OpV) (ev nv cv sv ov : Value) : List Value := [.int .i64 o.kind, ev, nv, .bool o.auto, cv, .int .i64 o.level, .int .i64 o.block, .bool o.locked, sv, ov, .int .i64 o.rounds, .int .i64 o.n]
def OpM (w : World) (cs : List Value) (o : OpV) : Prop := ∃ (ev nv cv sv ov : Value) (us : List E3), cs = opC o ev nv cv sv ov ∧ Es w ev us ∧ us.map er = o.ents ∧ Ss w nv o.names ∧ Nm .i64 w cv o.chain ∧ Nm .u8 w sv o.salt ∧ Nm .u8 w ov o.nonce
theorem OpM.len {w : World} {cs : List Value} {o : OpV} (h : OpM w cs o) : cs.length = 12 := by obtain ⟨_, _, _, _, _, _, rfl, _⟩ := h; rfl
theorem OpM.one {w : World} {cs : List Value} {o : OpV} (h : OpM w cs o) : ∀ x ∈ cs, x.oneCell' = true := by
  obtain ⟨ev, nv, cv, sv, ov, us, rfl, h1, h2, h3, h4, h5, h6⟩ := h
  obtain ⟨a, c, rfl, _⟩ := h1.1
  obtain ⟨a2, c2, rfl, _⟩ := h3
  intro x hx
  unfold opC at hx
  simp at hx
  rcases hx with rfl | rfl | rfl | rfl | rfl | rfl | rfl | rfl | rfl | rfl | rfl | rfl
  all_goals first | rfl | exact h4.oc | exact h5.oc | exact h6.oc
def OpsM (w : World) (v : Value) (ops : List OpV) : Prop := ∃ css : List (List Value), Sl w 12 v ops.length css.flatten ∧ css.length = ops.length ∧ ∀ (i : Nat) (c : List Value) (o : OpV), css[i]? = some c → ops[i]? = some o → OpM w c o
theorem OpM.ev {w w' : World} {cs : List Value} {o : OpV} (h : OpM w cs o) (he : Ev w w') : OpM w' cs o := by
  obtain ⟨ev, nv, cv, sv, ov, us, h0, h1, h2, h3, h4, h5, h6⟩ := h
  exact ⟨ev, nv, cv, sv, ov, us, h0, h1.ev he, h2, Sl.ev h3 he, h4.ev he, h5.ev he, h6.ev he⟩
theorem OpsM.ev {w w' : World} {v : Value} {ops : List OpV} (h : OpsM w v ops) (he : Ev w w') : OpsM w' v ops := by
  obtain ⟨css, h1, h2, h3⟩ := h
  exact ⟨css, h1.ev he, h2, fun i c o hc ho => (h3 i c o hc ho).ev he⟩
theorem flat12 : ∀ {css : List (List Value)}, (∀ c ∈ css, c.length = 12) → ∀ {i : Nat} {c : List Value}, css[i]? = some c → ∀ (j : Nat) (x : Value), j < 12 → c[j]? = some x → css.flatten[i * 12 + j]? = some x
  | [], _, _, _, h, _, _, _, _ => by simp at h
  | d :: css, hl, 0, c, h, j, x, hj, hx => by
    simp at h; subst h
    rw [List.flatten_cons, Nat.zero_mul, Nat.zero_add, List.getElem?_append_left (by rw [hl d (by simp)]; exact hj)]; exact hx
  | d :: css, hl, i + 1, c, h, j, x, hj, hx => by
    have hd := hl d (by simp)
    have h2 := flat12 (css := css) (fun c hc => hl c (by simp [hc])) (i := i) (c := c) (by simpa using h) j x hj hx
    rw [List.flatten_cons, List.getElem?_append_right (by omega), hd, show (i + 1) * 12 + j - 12 = i * 12 + j by omega]; exact h2
end Go.Proofs.YtiimlfgjnapgjaaGreatDoorV

/- Package script: the decoder's operation. -/
set_option linter.unusedVariables false
set_option linter.unusedSimpArgs false
namespace Go.Proofs.YtiimlfgjnapgjaaGreatDoorV
open Go Go.RowKit
theorem Sl.oc {w : World} {sz n : Nat} {v : Value} {cs : List Value} (h : Sl w sz v n cs) : v.oneCell' = true := by obtain ⟨a, c, rfl, _⟩ := h; rfl
theorem Sl.one {w : World} {sz n : Nat} {v : Value} {cs : List Value} (h : Sl w sz v n cs) : v.cells = #[v] := by obtain ⟨a, c, rfl, _⟩ := h; rfl
theorem Sl.of_stN {w : World} {ad : Addr} {cs : List Value} {sz : Nat} (h : St w ad cs) (hl : cs.length = sz) : Sl w sz (.slice (some ad) 1 1) 1 cs :=
  ⟨some ad, 1, rfl, Nat.le_refl _, by rw [hl, Nat.one_mul], fun ad' ha j u hj => by injection ha with ha; subst ha; exact St.cell h hj, fun h => by cases h⟩
def opZ : List Value := [.int .i64 0, .slice none 0 0, .slice none 0 0, .bool false, .slice none 0 0, .int .i64 0, .int .i64 0, .bool false, .slice none 0 0, .slice none 0 0, .int .i64 0, .int .i64 0]
section
variable {w0 w w' : World} {F : List It} {xs : List Int} {ra da : Addr} {y : Value} {s : Nat × Int}
/-- A name more. -/
theorem app_name {o3 : Addr} {nv lv : Value} {j : Nat} {css cs : List Value} {x : ByteArray} {G : List It} {K : Value → World → Prop} (f : Fr w0 w (lIt eS lv [.string x] :: rIt eS 1 nv j css :: sIt o3 cs :: G)) (hj : j ≤ 1000) (hc : 2 < cs.length)
    (hk : ∀ v w', Fr w0 w' (rIt eS 1 v (j + 1) (css ++ [.string x]) :: sIt o3 (cs.set 2 v) :: G) → K v w') :
    gApp P #[t_sl_string, t_sl_string] t_sl_string #[nv, lv] w fun (t26 : Value) ww12 => True ∧ gStore P t_sl_string (.pointer (some (Addr.add o3 2))) t26 ww12 fun ww13 => True ∧ K t26 ww13 := by
  refine fAppR 16 (m := 1) f 1 rfl (f.sl 0 rfl) (fun u hu => by rw [List.mem_singleton.1 hu]; rfl) (by omega) (by unfold maxLen; omega) (fun v w1 f1 => ⟨trivial, ?_⟩) (by kernel_rfl)
  have hs : Sl w1 1 v (j + 1) (css ++ [.string x]) := f1.row 1 rfl
  exact fStore f1 2 2 rfl (fun w2 f2 => ⟨trivial, hk v w2 (f2.drop 0)⟩) hc hs.oc hs.one
theorem app_tag {o3 : Addr} {cv lv : Value} {ts : List Int} {x : Int} {cs : List Value} {G : List It} {K : Value → World → Prop} (f : Fr w0 w (oIt .i64 eN lv [x] :: oIt .i64 eN cv ts :: sIt o3 cs :: G)) (hj : ts.length ≤ 1000) (hc : 4 < cs.length)
    (hk : ∀ v w', Fr w0 w' (oIt .i64 eN v (ts ++ [x]) :: sIt o3 (cs.set 4 v) :: G) → K v w') :
    gApp P #[t_sl_int, t_sl_int] t_sl_int #[cv, lv] w fun (t26 : Value) ww12 => True ∧ gNil (some (Addr.add o3 3)) fun (t70 : Addr) => gStore P t_sl_int (.pointer (some (Addr.add t70 1))) t26 ww12 fun ww13 => True ∧ K t26 ww13 := by
  refine fApp f 1 rfl (f.nm 0 rfl) (by simp; omega) fun v w1 f1 => ⟨trivial, gNil_some ?_⟩
  have hs : Nm .i64 w1 v (ts ++ [x]) := f1.nm 1 rfl
  rw [Addr.add2']
  exact fStore f1 2 4 rfl (fun w2 f2 => ⟨trivial, hk v w2 (f2.drop 0)⟩) hc hs.oc hs.one
def OpE (w0 : World) (ra da : Addr) (y : Value) (xs : List Int) (F : List It) (r : OpV × (Nat × Int)) (e : Ending) (w' : World) : Prop :=
  ∃ (ev nv cv sv ov : Value) (G : List It), e = .returned (.agg (opC r.1 ev nv cv sv ov).toArray) ∧ Fr w0 w' (rdIt ra y xs r.2 :: sIt da [.pointer (some ra)] :: bunIt G :: F) ∧ ∀ w'', (bunIt G).ok w'' → OpM w'' (opC r.1 ev nv cv sv ov) r.1
theorem and1_i {v : Int} (h : 0 ≤ v ∧ v ≤ 3) : ((iAnd .i64 v 1) == 1) = decide (v % 2 = 1) := by
  obtain h | h | h | h : v = 0 ∨ v = 1 ∨ v = 2 ∨ v = 3 := by omega
  all_goals subst h; decide
theorem and2_i {v : Int} (h : 0 ≤ v ∧ v ≤ 3) : ((iAnd .i64 v 2) == 2) = decide (v ≥ 2) := by
  obtain h | h | h | h : v = 0 ∨ v = 1 ∨ v = 2 ∨ v = 3 := by omega
  all_goals subst h; decide
def opG1 (k n : Int) (ev nv cv : Value) (au : Bool) (lv bk : Int) (lo : Bool) (sv ov : Value) (rd : Int) : List Value := [.int .i64 k, ev, nv, .bool au, cv, .int .i64 lv, .int .i64 bk, .bool lo, sv, ov, .int .i64 rd, .int .i64 n]
set_option maxHeartbeats 1000000 in
theorem op_any (f : Fr w0 w (rdIt ra y xs s :: sIt da [.pointer (some ra)] :: F)) : Calls P n_script_decoder_op #[.pointer (some da)] w (OpE w0 ra da y xs F (opS xs s)) := by
  have hx : inR .u8 xs := (rd_len f 0 rfl).2.2
  refine of_script_decoder_op (fAlloc (z := .agg opZ.toArray) f (by kernel_rfl) fun t2 w1 f1 => fNumD f1 1 2 rfl rfl (by decide) fun w2 f2 => fAlloc (z := .agg opZ.toArray) f2 (by kernel_rfl) fun o3 w3 f3 => fStoreA f3 0 rfl (fun w4 f4 => ?_))
  have hrk := nmS_rg (xs := xs) (s := s) (m := 9) (by decide) hx
  have n0 : Value.slice none 0 0 = .slice none 0 0 := rfl
  have f4 : Fr w0 w4 (sIt o3 (opG1 (oK xs s).1 0 (.slice none 0 0) (.slice none 0 0) (.slice none 0 0) false 0 0 false (.slice none 0 0) (.slice none 0 0) 0) :: sIt t2 opZ :: rdIt ra y xs (oK xs s).2 :: sIt da [.pointer (some ra)] :: F) := f4
  refine fLoad_i f4 0 0 rfl rfl (gIf_eq (fun h0 => ?_) (fun hne => ?_))
  · -- none
    have h0 : (oK xs s).1 = 0 := h0
    refine fLoadA f4 0 rfl (fStoreA f4 1 rfl (fun w5 f5 => fLoadA f5 1 rfl ?_))
    have e : opS xs s = (op0, (oK xs s).2) := by unfold opS; rw [if_pos h0]
    rw [e]
    have f6 := Fr.bundle (G := []) (f5.dropN 2)
    refine ⟨.slice none 0 0, .slice none 0 0, .slice none 0 0, .slice none 0 0, .slice none 0 0, [], ?_, f6.picksN 3 [1, 2, 0] (by decide) (by decide), fun w'' _ => ?_⟩
    · rw [h0]; rfl
    · exact ⟨_, _, _, _, _, [], rfl, Es.nil w'', rfl, ⟨none, 0, rfl, Nat.le_refl _, rfl, fun _ h => (by cases h), fun _ => rfl⟩, Nm.nil .i64 w'', Nm.nil .u8 w'', Nm.nil .u8 w''⟩
  have hne : (oK xs s).1 ≠ 0 := hne
  have hr1 := nmS_rg (xs := xs) (s := (oN xs s).2) (m := 8) (by decide) hx
  have hr2 := nmS_rg (xs := xs) (s := (oNs xs s).2) (m := 8) (by decide) hx
  have hr3 := nmS_rg (xs := xs) (s := (oBl xs s).2) (m := 8) (by decide) hx
  have hrv := nmS_rg (xs := xs) (s := (oCh xs s).2) (m := 3) (by decide) hx
  have hr1 : 0 ≤ (oC1 xs s).1 ∧ (oC1 xs s).1 ≤ 8 := hr1
  have hr2 : 0 ≤ (oC2 xs s).1 ∧ (oC2 xs s).1 ≤ 8 := hr2
  have hr3 : 0 ≤ (oC3 xs s).1 ∧ (oC3 xs s).1 ≤ 8 := hr3
  have hrv : 0 ≤ (oV xs s).1 ∧ (oV xs s).1 ≤ 3 := hrv
  refine fNumD f4 2 3 rfl rfl (by decide) fun w5 f5 => fStore f5 0 11 rfl (fun w6 f6 => ?_)
  have f6 : Fr w0 w6 (sIt o3 (opG1 (oK xs s).1 (oN xs s).1 (.slice none 0 0) (.slice none 0 0) (.slice none 0 0) false 0 0 false (.slice none 0 0) (.slice none 0 0) 0) :: sIt t2 opZ :: rdIt ra y xs (oN xs s).2 :: sIt da [.pointer (some ra)] :: F) := f6
  refine fNumD f6 2 3 rfl rfl (by decide) fun w7 f7 => ?_
  have f7 : Fr w0 w7 (sIt o3 (opG1 (oK xs s).1 (oN xs s).1 (.slice none 0 0) (.slice none 0 0) (.slice none 0 0) false 0 0 false (.slice none 0 0) (.slice none 0 0) 0) :: sIt t2 opZ :: rdIt ra y xs (oC1 xs s).2 :: sIt da [.pointer (some ra)] :: F) := f7
  obtain ⟨k, hk⟩ : ∃ k, k = (oK xs s).1 := ⟨_, rfl⟩
  obtain ⟨n, hn⟩ : ∃ n, n = (oN xs s).1 := ⟨_, rfl⟩
  rw [← hk, ← hn] at f7
  -- the names
  refine ⟨fun t w' => ∃ (j : Nat) (nv : Value), t = (j : Int) ∧ (j : Int) ≤ (oC1 xs s).1 ∧ Fr w0 w' (rIt eS 1 nv j ((repS (nameS xs) j (oC1 xs s).2).1.map Value.string) :: sIt o3 (opG1 k n (.slice none 0 0) nv (.slice none 0 0) false 0 0 false (.slice none 0 0) (.slice none 0 0) 0) :: sIt t2 opZ :: rdIt ra y xs (repS (nameS xs) j (oC1 xs s).2).2 :: sIt da [.pointer (some ra)] :: F), fun t _ => ((oC1 xs s).1 - t).toNat, ⟨0, .slice none 0 0, rfl, hr1.1, f7.nilR eS 1⟩, ?_⟩
  rintro _ t w8 ⟨j, nv, rfl, hj, f8⟩
  refine gIf_dec (fun hlt => ?_) (fun hge => ?_)
  · have hlt : (j : Int) < (oC1 xs s).1 := hlt
    have hjn : ∀ {w' : World} {v : Value}, Fr w0 w' (rIt eS 1 v (j + 1) ((repS (nameS xs) j (oC1 xs s).2).1.map Value.string ++ [.string (bsOf (txS xs 4096 (repS (nameS xs) j (oC1 xs s).2).2).1)]) :: sIt o3 ((opG1 k n (.slice none 0 0) nv (.slice none 0 0) false 0 0 false (.slice none 0 0) (.slice none 0 0) 0).set 2 v) :: sIt t2 opZ :: rdIt ra y xs (txS xs 4096 (repS (nameS xs) j (oC1 xs s).2).2).2 :: sIt da [.pointer (some ra)] :: F) →
        (∃ (j' : Nat) (nv' : Value), i64 ((j : Int) + 1) = (j' : Int) ∧ (j' : Int) ≤ (oC1 xs s).1 ∧ Fr w0 w' (rIt eS 1 nv' j' ((repS (nameS xs) j' (oC1 xs s).2).1.map Value.string) :: sIt o3 (opG1 k n (.slice none 0 0) nv' (.slice none 0 0) false 0 0 false (.slice none 0 0) (.slice none 0 0) 0) :: sIt t2 opZ :: rdIt ra y xs (repS (nameS xs) j' (oC1 xs s).2).2 :: sIt da [.pointer (some ra)] :: F)) ∧ ((oC1 xs s).1 - i64 ((j : Int) + 1)).toNat < ((oC1 xs s).1 - (j : Int)).toNat := fun {w' v} hf => by
      refine ⟨⟨j + 1, v, by rw [i64_id (by omega) (by omega)]; omega, by omega, ?_⟩, by rw [i64_id (by omega) (by omega)]; omega⟩
      have e : (repS (nameS xs) (j + 1) (oC1 xs s).2).1.map Value.string = (repS (nameS xs) j (oC1 xs s).2).1.map Value.string ++ [.string (bsOf (txS xs 4096 (repS (nameS xs) j (oC1 xs s).2).2).1)] := by rw [repS, List.map_append]; rfl
      rw [e]; exact hf
    have lit : ∀ {w' : World} {x : ByteArray} {G : List It} {K : Value → World → Prop}, Fr w0 w' G → (∀ lv w'', Fr w0 w'' (lIt eS lv [.string x] :: G) → K lv w'') → gLit P t_sl_string 1 #[(0, .string x)] w' K := fun {w' x G K} hf hk => fLitV [.string x] hf rfl rfl (fun v hv => by rw [List.mem_singleton.1 hv]; rfl) (fun lv w'' f'' => hk lv w'' f'')
    refine ⟨fun _ => True, trivial, fLoad_v f8.drew 1 2 rfl rfl ⟨trivial, fTextD f8.drew 3 4 rfl rfl (by decide) fun w9 f9 => ⟨trivial, lit f9 fun ad w10 f10 => ⟨trivial, app_name f10 (by omega) (Nat.le_of_ble_eq_true rfl) fun v w11 f11 => hjn f11⟩⟩⟩, fTextD f8.drew 3 4 rfl rfl (by decide) fun w9 f9 => ⟨trivial, fLoad_v f9 1 2 rfl rfl ⟨trivial, lit f9 fun ad w10 f10 => ⟨trivial, app_name f10 (by omega) (Nat.le_of_ble_eq_true rfl) fun v w11 f11 => hjn f11⟩⟩, lit f9 fun ad w10 f10 => ⟨trivial, fLoad_v f10 2 2 rfl rfl ⟨trivial, app_name f10 (by omega) (Nat.le_of_ble_eq_true rfl) fun v w11 f11 => hjn f11⟩⟩⟩⟩
  have hge : ¬ (j : Int) < (oC1 xs s).1 := hge
  have hjc : j = (oC1 xs s).1.toNat := by omega
  subst hjc
  have hnl : (oNs xs s).1.length = (oC1 xs s).1.toNat := repS_len _ _ _
  have f8 : Fr w0 w8 (rIt eS 1 nv (oC1 xs s).1.toNat ((oNs xs s).1.map Value.string) :: sIt o3 (opG1 k n (.slice none 0 0) nv (.slice none 0 0) false 0 0 false (.slice none 0 0) (.slice none 0 0) 0) :: sIt t2 opZ :: rdIt ra y xs (oNs xs s).2 :: sIt da [.pointer (some ra)] :: F) := f8
  rw [← hnl] at f8
  refine fNumD f8 3 4 rfl rfl (by decide) fun w9 f9 => ?_
  obtain ⟨RN, hRN⟩ : ∃ RN, RN = rIt eS 1 nv (oNs xs s).1.length ((oNs xs s).1.map Value.string) := ⟨_, rfl⟩
  rw [← hRN] at f9
  have f9 : Fr w0 w9 (RN :: sIt o3 (opG1 k n (.slice none 0 0) nv (.slice none 0 0) false 0 0 false (.slice none 0 0) (.slice none 0 0) 0) :: sIt t2 opZ :: rdIt ra y xs (oC2 xs s).2 :: sIt da [.pointer (some ra)] :: F) := f9
  have f9b := ((Fr.bundle (G := []) f9).nilR eE 2)
  -- the entries
  refine ⟨fun t w' => ∃ (j : Nat) (ev : Value) (us : List E3) (DL : List It), t = (j : Int) ∧ (j : Int) ≤ (oC2 xs s).1 ∧ us.length = j ∧ us.map er = (repS (entS xs) j (oC2 xs s).2).1 ∧ (∀ w'', (bunIt DL).ok w'' → ∀ u ∈ us, Nm .u8 w'' u.2.1 u.2.2) ∧ Fr w0 w' (rIt eE 2 ev us.length (cells3 us) :: bunIt DL :: RN :: sIt o3 (opG1 k n ev nv (.slice none 0 0) false 0 0 false (.slice none 0 0) (.slice none 0 0) 0) :: sIt t2 opZ :: rdIt ra y xs (repS (entS xs) j (oC2 xs s).2).2 :: sIt da [.pointer (some ra)] :: F), fun t _ => ((oC2 xs s).1 - t).toNat, ⟨0, .slice none 0 0, [], [], rfl, hr2.1, rfl, rfl, fun _ _ _ h => (by cases h), f9b⟩, ?_⟩
  rintro _ t w10 ⟨j, ev, us, DL, rfl, hj, hul, hus, hDL, f10⟩
  refine gIf_dec (fun hlt => ?_) (fun hge => ?_)
  · have hlt : (j : Int) < (oC2 xs s).1 := hlt
    refine fTextD f10 5 6 rfl rfl (by decide) fun w11 f11 => fAlloc (z := .agg #[.string ⟨#[]⟩, .slice none 0 0]) f11 (by kernel_rfl) fun x4 w12 f12 => fStoreA f12 0 rfl (fun w13 f13 => fBytesD f13 6 7 rfl rfl (by decide) fun v w14 f14 => ?_) rfl
    have hv : Nm .u8 w14 v _ := f14.nm 0 rfl
    refine fStore f14 1 1 rfl (fun w15 f15 => ?_) (hu := hv.oc) (hcl := hv.one)
    refine fLoad_v f15 5 1 rfl rfl (fLoadA f15 1 rfl (fLit_sz 2 [[.string (bsOf (txS xs 4096 (repS (entS xs) j (oC2 xs s).2).2).1), v]] f15 rfl rfl (fun z hz => by rw [List.mem_singleton.1 hz]; rfl) (fun ad w16 f16 => ?_) (by decide) (by kernel_rfl) (by decide +kernel)))
    refine fAppR 40 (m := 1) f16 3 rfl (Sl.of_stN (f16.get 0 rfl) rfl) (fun z hz => by simp at hz; rcases hz with rfl | rfl; rfl; exact hv.oc) (by omega) (by unfold maxLen; omega) (fun ev' w17 f17 => ?_) (by kernel_rfl)
    have hse : Sl w17 2 ev' (us.length + 1) _ := f17.row 3 rfl
    refine fStore f17 6 1 rfl (fun w18 f18 => ?_) (hu := hse.oc) (hcl := hse.one)
    have g := f18.picksN 10 [1, 4, 3, 5, 6, 7, 8, 9] (by decide) (by decide)
    have g2 := Fr.join (Fr.bundle (G := [oIt .u8 eB v (txS xs 65536 (nameS xs (repS (entS xs) j (oC2 xs s).2).2).2).1]) g)
    refine ⟨⟨j + 1, ev', us ++ [(bsOf (txS xs 4096 (repS (entS xs) j (oC2 xs s).2).2).1, v, (txS xs 65536 (nameS xs (repS (entS xs) j (oC2 xs s).2).2).2).1)], [oIt .u8 eB v (txS xs 65536 (nameS xs (repS (entS xs) j (oC2 xs s).2).2).2).1] ++ DL, by rw [i64_id (by omega) (by omega)]; omega, by omega, by simp [hul], ?_, ?_, ?_⟩, by dsimp only; rw [i64_id (by omega) (by omega)]; omega⟩
    · rw [List.map_append, hus, repS]; rfl
    · intro w'' hok u hu
      rcases List.mem_append.1 hu with hu | hu
      · exact hDL w'' (fun it hi => hok it (List.mem_append_right _ hi)) u hu
      · rw [List.mem_singleton.1 hu]
        have : ON .u8 eB w'' 0 v _ := hok _ (List.mem_append_left _ (List.mem_singleton.2 rfl))
        exact this.nm
    · have g3 := g2.picksN 2 [1, 0] (by decide) (by decide)
      rw [cells3_app, List.length_append]
      exact g3
  have hge : ¬ (j : Int) < (oC2 xs s).1 := hge
  have hjc : j = (oC2 xs s).1.toNat := by omega
  subst hjc
  have hus : us.map er = (oEs xs s).1 := hus
  have f10 : Fr w0 w10 (rIt eE 2 ev us.length (cells3 us) :: bunIt DL :: RN :: sIt o3 (opG1 k n ev nv (.slice none 0 0) false 0 0 false (.slice none 0 0) (.slice none 0 0) 0) :: sIt t2 opZ :: rdIt ra y xs (oEs xs s).2 :: sIt da [.pointer (some ra)] :: F) := f10
  obtain ⟨RE, hRE⟩ : ∃ RE, RE = rIt eE 2 ev us.length (cells3 us) := ⟨_, rfl⟩
  rw [← hRE] at f10
  have a3 : ∀ i : Nat, (o3.add 3).add i = o3.add (3 + i) := fun i => Addr.add2' o3 3 i
  refine fNumD f10 5 6 rfl rfl (by decide) fun w11 f11 => fNumD f11 5 6 rfl rfl (by decide) fun w12 f12 => gNil_some ?_
  rw [a3]
  refine fStore f12 3 5 rfl (fun w13 f13 => gNil_some ?_)
  rw [a3]
  refine fStore f13 3 6 rfl (fun w14 f14 => fNumD f14 5 6 rfl rfl (by decide) fun w15 f15 => ?_)
  obtain ⟨lv, hlv⟩ : ∃ lv, lv = (oLv xs s).1 := ⟨_, rfl⟩
  obtain ⟨bk, hbk⟩ : ∃ bk, bk = (oBl xs s).1 := ⟨_, rfl⟩
  have f15 : Fr w0 w15 (RE :: bunIt DL :: RN :: sIt o3 (opG1 k n ev nv (.slice none 0 0) false (oLv xs s).1 (oBl xs s).1 false (.slice none 0 0) (.slice none 0 0) 0) :: sIt t2 opZ :: rdIt ra y xs (oC3 xs s).2 :: sIt da [.pointer (some ra)] :: F) := f15
  rw [← hlv, ← hbk] at f15
  -- the chain
  refine ⟨fun t w' => ∃ (j : Nat) (cv : Value), t = (j : Int) ∧ (j : Int) ≤ (oC3 xs s).1 ∧ Fr w0 w' (oIt .i64 eN cv (repS (nmS xs 255) j (oC3 xs s).2).1 :: sIt o3 (opG1 k n ev nv cv false lv bk false (.slice none 0 0) (.slice none 0 0) 0) :: RE :: bunIt DL :: RN :: sIt t2 opZ :: rdIt ra y xs (repS (nmS xs 255) j (oC3 xs s).2).2 :: sIt da [.pointer (some ra)] :: F), fun t _ => ((oC3 xs s).1 - t).toNat, ⟨0, .slice none 0 0, rfl, hr3.1, (f15.picksN 4 [3, 0, 1, 2] (by decide) (by decide)).nil0 .i64 eN⟩, ?_⟩
  rintro _ t w16 ⟨j, cv, rfl, hj, f16⟩
  have hcl : (repS (nmS xs 255) j (oC3 xs s).2).1.length = j := repS_len _ _ _
  refine gIf_dec (fun hlt => ?_) (fun hge => ?_)
  · have hlt : (j : Int) < (oC3 xs s).1 := hlt
    have hrx := nmS_rg (xs := xs) (s := (repS (nmS xs 255) j (oC3 xs s).2).2) (m := 255) (by decide) hx
    have hjn : ∀ {w' : World} {v : Value}, Fr w0 w' (oIt .i64 eN v ((repS (nmS xs 255) j (oC3 xs s).2).1 ++ [(nmS xs 255 (repS (nmS xs 255) j (oC3 xs s).2).2).1]) :: sIt o3 ((opG1 k n ev nv cv false lv bk false (.slice none 0 0) (.slice none 0 0) 0).set 4 v) :: RE :: bunIt DL :: RN :: sIt t2 opZ :: rdIt ra y xs (nmS xs 255 (repS (nmS xs 255) j (oC3 xs s).2).2).2 :: sIt da [.pointer (some ra)] :: F) →
        (∃ (j' : Nat) (cv' : Value), i64 ((j : Int) + 1) = (j' : Int) ∧ (j' : Int) ≤ (oC3 xs s).1 ∧ Fr w0 w' (oIt .i64 eN cv' (repS (nmS xs 255) j' (oC3 xs s).2).1 :: sIt o3 (opG1 k n ev nv cv' false lv bk false (.slice none 0 0) (.slice none 0 0) 0) :: RE :: bunIt DL :: RN :: sIt t2 opZ :: rdIt ra y xs (repS (nmS xs 255) j' (oC3 xs s).2).2 :: sIt da [.pointer (some ra)] :: F)) ∧ ((oC3 xs s).1 - i64 ((j : Int) + 1)).toNat < ((oC3 xs s).1 - (j : Int)).toNat := fun {w' v} hf => by
      refine ⟨⟨j + 1, v, by rw [i64_id (by omega) (by omega)]; omega, by omega, ?_⟩, by rw [i64_id (by omega) (by omega)]; omega⟩
      exact hf
    have lit : ∀ {w' : World} {x : Int} {G : List It} {K : Value → World → Prop}, Fr w0 w' G → (0 ≤ x ∧ x ≤ 255) → (∀ v w'', Fr w0 w'' (oIt .i64 eN v [x] :: G) → K v w'') → gLit P t_sl_int 1 #[(0, .int .i64 x)] w' K := fun {w' x G K} hf hx hk => fLit_n [x] hf rfl rfl (fun z hz => by
      rw [List.mem_singleton.1 hz]
      have h1 : IntKind.i64.min = -9223372036854775808 := by decide
      have h2 : IntKind.i64.max = 9223372036854775807 := by decide
      rw [h1, h2]; omega) fun v w'' f'' => hk v w'' f''
    have a34 : (o3.add 3).add 1 = o3.add 4 := a3 1
    refine ⟨fun _ => True, trivial, gNil_some ?_⟩
    rw [a34]
    refine ⟨fLoad_v f16.drew 1 4 rfl rfl ⟨trivial, fNumD f16.drew 6 7 rfl rfl (by decide) fun w17 f17 => ⟨trivial, lit f17 hrx fun v w18 f18 => ⟨trivial, ?_⟩⟩⟩, fNumD f16.drew 6 7 rfl rfl (by decide) fun w17 f17 => ⟨trivial, fLoad_v f17 1 4 rfl rfl ⟨trivial, lit f17 hrx fun v w18 f18 => ⟨trivial, ?_⟩⟩, lit f17 hrx fun v w18 f18 => ⟨trivial, fLoad_v f18 2 4 rfl rfl ⟨trivial, ?_⟩⟩⟩⟩
    · exact app_tag f18 (by omega) (Nat.le_of_ble_eq_true rfl) (fun v w11 f11 => hjn f11)
    · exact app_tag f18 (by omega) (Nat.le_of_ble_eq_true rfl) (fun v w11 f11 => hjn f11)
    · exact app_tag f18 (by omega) (Nat.le_of_ble_eq_true rfl) (fun v w11 f11 => hjn f11)
  have hge : ¬ (j : Int) < (oC3 xs s).1 := hge
  have hjc : j = (oC3 xs s).1.toNat := by omega
  subst hjc
  have g16 : Fr w0 w16 (oIt .i64 eN cv (oCh xs s).1 :: sIt o3 (opG1 k n ev nv cv false lv bk false (.slice none 0 0) (.slice none 0 0) 0) :: RE :: bunIt DL :: RN :: sIt t2 opZ :: rdIt ra y xs (oCh xs s).2 :: sIt da [.pointer (some ra)] :: F) := f16
  have hv1 : ((iAnd .i64 (nmS xs 3 (oCh xs s).2).1 1) == 1) = decide ((oV xs s).1 % 2 = 1) := and1_i hrv
  have hv2 : ((iAnd .i64 (nmS xs 3 (oCh xs s).2).1 2) == 2) = decide ((oV xs s).1 ≥ 2) := and2_i hrv
  have hcv : Nm .i64 w16 cv (oCh xs s).1 := g16.nm 0 rfl
  refine fNumD g16 6 7 rfl rfl (by decide) fun w17 f17 => gNil_some ?_
  rw [hv1, a3]
  refine fStore f17 1 3 rfl (fun w18 f18 => gNil_some ?_)
  rw [hv2, a3]
  refine fStore f18 1 7 rfl (fun w19 f19 => fBytesD f19 6 7 rfl rfl (by decide) fun sv w20 f20 => fBytesD f20 7 8 rfl rfl (by decide) fun ov w21 f21 => gNil_some ?_)
  have hsv : Nm .u8 w21 sv _ := f21.nm 1 rfl
  have hov : Nm .u8 w21 ov _ := f21.nm 0 rfl
  rw [a3]
  refine fStore f21 3 8 rfl (fun w22 f22 => gNil_some ?_) (hu := hsv.oc) (hcl := hsv.one)
  rw [a3]
  refine fStore f22 3 9 rfl (fun w23 f23 => fNumD f23 8 9 rfl rfl (by decide) fun w24 f24 => gNil_some ?_) (hu := hov.oc) (hcl := hov.one)
  rw [a3]
  have eo : opS xs s = (⟨(oK xs s).1, (oEs xs s).1, (oNs xs s).1, decide ((oV xs s).1 % 2 = 1), (oCh xs s).1, (oLv xs s).1, (oBl xs s).1, decide ((oV xs s).1 ≥ 2), (oSa xs s).1, (oNo xs s).1, (oRo xs s).1, (oN xs s).1⟩, (oRo xs s).2) := by unfold opS; rw [if_neg hne]
  rw [eo]
  subst hk hn hlv hbk
  refine fStore f24 3 10 rfl (fun w25 f25 => ?_)
  obtain ⟨o, ho⟩ : ∃ o : OpV, o = ⟨(oK xs s).1, (oEs xs s).1, (oNs xs s).1, decide ((oV xs s).1 % 2 = 1), (oCh xs s).1, (oLv xs s).1, (oBl xs s).1, decide ((oV xs s).1 ≥ 2), (oSa xs s).1, (oNo xs s).1, (oRo xs s).1, (oN xs s).1⟩ := ⟨_, rfl⟩
  have g25 : Fr w0 w25 (oIt .u8 eB ov (oNo xs s).1 :: oIt .u8 eB sv (oSa xs s).1 :: oIt .i64 eN cv (oCh xs s).1 :: sIt o3 (opC o ev nv cv sv ov) :: RE :: bunIt DL :: RN :: sIt t2 opZ :: rdIt ra y xs (oRo xs s).2 :: sIt da [.pointer (some ra)] :: F) := by rw [ho]; exact f25
  have hse : Es w25 ev us := ⟨by have := g25.get 4 rfl; rw [hRE] at this; exact Sl.of_ownS this, hDL w25 (g25.get 5 rfl)⟩
  have hsn : Ss w25 nv (oNs xs s).1 := by have := g25.get 6 rfl; rw [hRN] at this; exact Sl.of_ownS this
  have hone : ∀ x ∈ opC o ev nv cv sv ov, x.oneCell' = true := OpM.one (w := w25) (o := o) ⟨ev, nv, cv, sv, ov, us, rfl, hse, by rw [ho]; exact hus, by rw [ho]; exact hsn, by rw [ho]; exact g25.nm 2 rfl, by rw [ho]; exact g25.nm 1 rfl, by rw [ho]; exact g25.nm 0 rfl⟩
  rw [← ho]
  refine fLoadA g25 3 rfl (fStoreA g25 7 rfl (fun w26 f26 => fLoadA f26 7 rfl ?_) rfl hone)
  have g := f26.picksN 10 [0, 1, 2, 4, 5, 6, 8, 9] (by decide) (by decide)
  have g2 := Fr.bundle (G := [oIt .u8 eB ov (oNo xs s).1, oIt .u8 eB sv (oSa xs s).1, oIt .i64 eN cv (oCh xs s).1, RE, bunIt DL, RN]) g
  refine ⟨ev, nv, cv, sv, ov, _, rfl, g2.picksN 3 [1, 2, 0] (by decide) (by decide), fun w'' hok => ?_⟩
  have k0 : ON .u8 eB w'' 0 ov (oNo xs s).1 := hok (oIt .u8 eB ov (oNo xs s).1) (by simp)
  have k1 : ON .u8 eB w'' 0 sv (oSa xs s).1 := hok (oIt .u8 eB sv (oSa xs s).1) (by simp)
  have k2 : ON .i64 eN w'' 0 cv (oCh xs s).1 := hok (oIt .i64 eN cv (oCh xs s).1) (by simp)
  have k3 := hok RE (by simp)
  have k4 := hok (bunIt DL) (by simp)
  have k5 := hok RN (by simp)
  rw [hRE] at k3
  rw [hRN] at k5
  refine ⟨ev, nv, cv, sv, ov, us, rfl, ⟨Sl.of_ownS k3, hDL w'' k4⟩, ?_, ?_, ?_, ?_, ?_⟩
  · rw [ho]; exact hus
  · rw [ho]; exact Sl.of_ownS k5
  · rw [ho]; exact k2.nm
  · rw [ho]; exact k1.nm
  · rw [ho]; exact k0.nm
end
end Go.Proofs.YtiimlfgjnapgjaaGreatDoorV
