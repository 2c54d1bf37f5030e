import Derived.Test.YtilpoinhfiajcaaGreatDoorVPart7
set_option linter.unusedVariables false
set_option linter.unusedSimpArgs false
/- Package fixed. -/
namespace Go.Proofs.YtilpoinhfiajcaaGreatDoorV
open Go Go.RowKit
/-- What a slice of numbers is a slice of. -/
noncomputable abbrev eI : TypeId := elOf P t_sl_int32
theorem i32_io (n : Int) : IntKind.i32.min ≤ i32 n ∧ i32 n ≤ IntKind.i32.max := by
  have h1 : IntKind.i32.min = -2147483648 := by decide
  have h2 : IntKind.i32.max = 2147483647 := by decide
  rw [h1, h2]; exact i32_rg _
theorem fill_set {a : List Int} {n k : Nat} (ha : a.length = k) (hk : k < n) (v : Int) : (a ++ List.replicate (n - k) 0).set k v = (a ++ [v]) ++ List.replicate (n - (k + 1)) 0 := by
  rw [show n - k = (n - (k + 1)) + 1 by omega, List.replicate_succ, List.set_append_right _ _ (by omega), ha, Nat.sub_self, List.set_cons_zero, List.append_assoc]; rfl
def atI (xs : List Int) (i k : Nat) : Int := if i < k then 0 else rd xs ((i - k : Nat) : Int)
theorem atF_take {xs : List Int} {i k : Nat} (hi : i ≤ xs.length) (hk : 1 ≤ k) : atF (xs.take i) k = atI xs i k := by
  unfold atF atI
  have hl : (xs.take i).length = i := by rw [List.length_take]; omega
  rw [hl]
  split
  · rfl
  · unfold rd
    simp only [Int.toNat_natCast, List.getD_eq_getElem?_getD]
    rw [List.getElem?_take, if_pos (by omega)]
/-- The sum of all amounts, as it is reckoned. -/
def wtN (l : List Int) : Nat → Int
  | 0 => 0
  | k + 1 => u64 (wtN l k + u64 (if i64 (0 - i64 (rd l (k : Int))) > i64 (rd l (k : Int)) then i64 (0 - i64 (rd l (k : Int))) else i64 (rd l (k : Int))))
def wtF (l : List Int) : Int := wtN l l.length
def bfN (l : List Int) : Nat → Nat × Int
  | 0 => (0, wtF l)
  | k + 1 => if wtF (resG (fixG (k + 1)) l) < (bfN l k).2 then (k + 1, wtF (resG (fixG (k + 1)) l)) else bfN l k
theorem bfN_le (l : List Int) : ∀ k, (bfN l k).1 ≤ k
  | 0 => Nat.le_refl _
  | k + 1 => by
    rw [bfN]; split
    · exact Nat.le_refl _
    · have := bfN_le l k; omega
def bestO (l : List Int) : Nat := (bfN l 3).1
section
variable {w0 w : World} {F : List It}
theorem fMakeI {n : Nat} {K : Value → World → Prop} (f : Fr w0 w F) (hn : n ≤ 1000000000) (hk : ∀ v w', Fr w0 w' (oIt .i32 eI v (List.replicate n 0) :: F) → K v w') : gMake P t_sl_int32 (.int .i64 (n : Int)) (.int .i64 (n : Int)) w K :=
  gMake_n (k := .i32) (by omega) (by omega) fun v w' he ho => hk v w' (f.newO he ho)
theorem guess_at {ad bd : Addr} {l0 : Value} {xs : List Int} {i k : Nat} {K : Int → World → Prop} (hi : w.cell? ad = some (.int .i64 (i : Int))) (hl0 : w.cell? bd = some l0) (h : Nm .i32 w l0 xs) (hlt : i ≤ xs.length) (hl : xs.length ≤ 1000000000) (h1 : 1 ≤ k) (h3 : k ≤ 3) (hk : K (atI xs i k) w) :
    gCallV P (.func (.func n_fixed_guess_1) #[] #[.pointer (some ad), .pointer (some bd)]) (shI .i32) #[.int .i64 (k : Int)] w K := by
  refine gCallV_of rfl (by kernel_rfl) (of_fixed_guess_1 (R := fun e w' => e = .returned (.int .i32 (atI xs i k)) ∧ w' = w) ?_) ?_
  · refine gLoad_i hi (gIf_dec (fun hlt' => ⟨?_, rfl⟩) (fun hge => gLoad_v hl0 (gLoad_i hi ?_)))
    · unfold atI; rw [if_pos (by omega)]
    · rw [i64_id (by omega) (by omega), show (i : Int) - (k : Int) = ((i - k : Nat) : Int) by omega]
      refine gGet h (by omega) (by omega) ⟨?_, rfl⟩
      unfold atI; rw [if_neg (by omega)]
  · rintro _ _ ⟨rfl, rfl⟩
    exact ⟨_, rfl, hk⟩
theorem fguess_any {l0 : Value} {xs : List Int} {i o : Nat} (h : Nm .i32 w l0 xs) (hi : i ≤ xs.length) (hl : xs.length ≤ 1000000000) : Calls P n_fixed_guess #[l0, .int .i64 (i : Int), .int .i64 (o : Int)] w (fun e w' => e = .returned (.int .i32 (fixG o (xs.take i))) ∧ Ev w w') := by
  have hc : l0.cells.toList = [l0] := by obtain ⟨a, c, rfl, _⟩ := h.shape; rfl
  refine of_fixed_guess (fBox (Fr.start w) fun l3 w1 f1 => fBox f1 fun i4 w2 f2 => ?_)
  rw [hc] at f2
  have c1 : w2.cell? i4 = some (.int .i64 (i : Int)) := by have := f2.cell 0 0 rfl rfl; rwa [Addr.add_zero'] at this
  have c2 : w2.cell? l3 = some l0 := by have := f2.cell 1 0 rfl rfl; rwa [Addr.add_zero'] at this
  have hn := h.ev f2.old
  have at1 := fun {k : Nat} {K : Int → World → Prop} (h1 : 1 ≤ k) (h3 : k ≤ 3) (hk : K (atI xs i k) w2) => guess_at (K := K) c1 c2 hn hi hl h1 h3 hk
  have e1 : atF (xs.take i) 1 = atI xs i 1 := atF_take hi (by omega)
  have e2 : atF (xs.take i) 2 = atI xs i 2 := atF_take hi (by omega)
  have e3 : atF (xs.take i) 3 = atI xs i 3 := atF_take hi (by omega)
  refine gIf_eq (fun h1 => at1 (k := 1) (by omega) (by omega) ⟨?_, f2.old⟩) (fun h1 => gIf_eq (fun h2 => at1 (k := 1) (by omega) (by omega) (at1 (k := 2) (by omega) (by omega) ⟨?_, f2.old⟩)) (fun h2 => gIf_eq (fun h3 => at1 (k := 1) (by omega) (by omega) (at1 (k := 2) (by omega) (by omega) (at1 (k := 3) (by omega) (by omega) ⟨?_, f2.old⟩))) (fun h3 => ⟨?_, f2.old⟩)))
  · rw [show o = 1 by omega]; unfold fixG; rw [if_pos rfl, e1]
  · rw [show o = 2 by omega]; unfold fixG; rw [if_neg (by decide), if_pos rfl, e1, e2]
  · rw [show o = 3 by omega]; unfold fixG; rw [if_neg (by decide), if_neg (by decide), if_pos rfl, e1, e2, e3]
  · unfold fixG; rw [if_neg (by omega), if_neg (by omega), if_neg (by omega)]
theorem fright_any {o : Int} : Calls P n_fixed_right #[.int .i64 o] w (fun e w' => e = .returned (.int .i64 (ordN o)) ∧ w' = w) :=
  of_fixed_right ⟨by
    have : (if (if 3 < o then 3 else o) > 0 then (if 3 < o then 3 else o) else 0) = ((ordN o : Nat) : Int) := by
      unfold ordN
      split <;> split <;> split <;> split <;> omega
    rw [this], rfl⟩
def NewI (w : World) (xs : List Int) (e : Ending) (w' : World) : Prop := ∃ v, e = .returned v ∧ Ev w w' ∧ ON .i32 eI w' w.heap.size v xs
theorem fRes_any {l0 : Value} {xs : List Int} {o : Int} (h : Nm .i32 w l0 xs) (hl : xs.length ≤ 1000000000) : Calls P n_fixed_Residual #[l0, .int .i64 o] w (NewI w (resG (fixG (ordN o)) xs)) := by
  refine of_fixed_Residual (gLen_nm h (fMakeI (Fr.start w) hl fun t10 w1 f1 => gLen_nm (h.ev f1.old) ?_))
  obtain ⟨g, hg⟩ : ∃ g, g = fixG (ordN o) := ⟨_, rfl⟩
  refine ⟨fun i w' => ∃ k : Nat, i = (k : Int) ∧ k ≤ xs.length ∧ Fr w w' [oIt .i32 eI t10 ((resG g xs).take k ++ List.replicate (xs.length - k) 0)], fun i _ => (xs.length - i).toNat, ⟨0, rfl, Nat.zero_le _, f1⟩, ?_⟩
  rintro _ i w2 ⟨k, rfl, hk, f2⟩
  refine gIf_dec (fun hlt => ?_) (fun hge => ?_)
  · have hkl : k < xs.length := by omega
    refine gGet (h.ev f2.old) (by omega) (by omega) (gCall_i0 fright_any (gCall_i (fguess_any (h.ev f2.old) hk hl) fun w3 h3 => ?_))
    have hlen : ((resG g xs).take k).length = k := by rw [List.length_take, resG_len]; omega
    refine fSetO (f2.ev h3) 0 rfl rfl (by rw [List.length_append, hlen, List.length_replicate]; omega) (i32_io _) fun w4 f4 => ?_
    have hv : i32 (rd xs (k : Int) - fixG (ordN o) (xs.take k)) = rd (resG g xs) (k : Int) := by rw [← hg]; exact (rd_tab (f := fun i => i32 (rd xs (i : Int) - g (xs.take i))) hkl).symm
    have f4 : Fr w w4 [oIt .i32 eI t10 (((resG g xs).take k ++ List.replicate (xs.length - k) 0).set k (i32 (rd xs (k : Int) - fixG (ordN o) (xs.take k))))] := f4
    rw [fill_set hlen hkl, hv, rd_nat _ k (by rw [resG_len]; exact hkl), ← List.take_succ_eq_append_getElem (by rw [resG_len]; exact hkl)] at f4
    exact ⟨⟨k + 1, by rw [i64_id (by omega) (by omega)]; omega, hkl, f4⟩, by dsimp only; rw [i64_id (by omega) (by omega)]; omega⟩
  · obtain rfl : k = xs.length := by omega
    rw [Nat.sub_self, List.replicate_zero, List.append_nil, List.take_of_length_le (by rw [resG_len]; exact Nat.le_refl _), hg] at f2
    exact ⟨t10, rfl, f2.old, f2.on 0 rfl⟩
theorem fRest_any {l0 : Value} {xs : List Int} {o : Int} (h : Nm .i32 w l0 xs) (hl : xs.length ≤ 1000000000) : Calls P n_fixed_Restore #[l0, .int .i64 o] w (NewI w (restG (fixG (ordN o)) xs xs.length)) := by
  refine of_fixed_Restore (gLen_nm h (fMakeI (Fr.start w) hl fun t10 w1 f1 => gLen_nm (h.ev f1.old) ?_))
  obtain ⟨g, hg⟩ : ∃ g, g = fixG (ordN o) := ⟨_, rfl⟩
  refine ⟨fun i w' => ∃ k : Nat, i = (k : Int) ∧ k ≤ xs.length ∧ Fr w w' [oIt .i32 eI t10 (restG g xs k ++ List.replicate (xs.length - k) 0)], fun i _ => (xs.length - i).toNat, ⟨0, rfl, Nat.zero_le _, f1⟩, ?_⟩
  rintro _ i w2 ⟨k, rfl, hk, f2⟩
  have hlen := restG_len g xs k
  refine gIf_dec (fun hlt => ?_) (fun hge => ?_)
  · have hkl : k < xs.length := by omega
    have hall : (restG g xs k ++ List.replicate (xs.length - k) 0).length = xs.length := by rw [List.length_append, hlen, List.length_replicate]; omega
    have htk : (restG g xs k ++ List.replicate (xs.length - k) 0).take k = restG g xs k := by rw [List.take_append_of_le_length (by omega), List.take_of_length_le (by omega)]
    have hgs := fguess_any (i := k) (o := ordN o) (f2.nm 0 rfl) (by omega) (by omega)
    rw [htk, ← hg] at hgs
    refine gGet (h.ev f2.old) (by omega) (by omega) (gCall_i0 fright_any (gCall_i hgs fun w3 h3 => ?_))
    refine fSetO (f2.ev h3) 0 rfl rfl (by omega) (i32_io _) fun w4 f4 => ?_
    have f4 : Fr w w4 [oIt .i32 eI t10 ((restG g xs k ++ List.replicate (xs.length - k) 0).set k (i32 (rd xs (k : Int) + g (restG g xs k))))] := f4
    rw [fill_set hlen hkl] at f4
    exact ⟨⟨k + 1, by rw [i64_id (by omega) (by omega)]; omega, hkl, f4⟩, by dsimp only; rw [i64_id (by omega) (by omega)]; omega⟩
  · obtain rfl : k = xs.length := by omega
    rw [Nat.sub_self, List.replicate_zero, List.append_nil, hg] at f2
    exact ⟨t10, rfl, f2.old, f2.on 0 rfl⟩
theorem fWeight_any {l0 : Value} {xs : List Int} (h : Nm .i32 w l0 xs) (hl : xs.length ≤ 1000000000) : Calls P n_fixed_Weight #[l0] w (fun e w' => e = .returned (.int .u64 (wtF xs)) ∧ w' = w) := by
  refine of_fixed_Weight (gLen_nm h ⟨fun n i w' => ∃ k : Nat, i = (k : Int) ∧ k ≤ xs.length ∧ n = wtN xs k ∧ w' = w, fun _ i _ => (xs.length - i).toNat, ⟨0, rfl, Nat.zero_le _, rfl, rfl⟩, ?_⟩)
  rintro _ n i w1 ⟨k, rfl, hk, rfl, hw⟩
  obtain rfl : w = w1 := hw.symm
  refine gIf_dec (fun hlt => ?_) (fun hge => ?_)
  · refine gGet h (by omega) (by omega) ⟨⟨k + 1, by rw [i64_id (by omega) (by omega)]; omega, by omega, ?_, rfl⟩, by dsimp only; rw [i64_id (n := (k : Int) + 1) (by omega) (by omega)]; omega⟩
    rw [wtN]
  · obtain rfl : k = xs.length := by omega
    exact ⟨rfl, rfl⟩
theorem fBest_any {l0 : Value} {xs : List Int} (h : Nm .i32 w l0 xs) (hl : xs.length ≤ 1000000000) : Calls P n_fixed_Best #[l0] w (fun e w' => e = .returned (.int .i64 (bestO xs : Nat)) ∧ Ev w w') := by
  refine of_fixed_Best (gCall_i0 (fWeight_any h hl) ⟨fun b l i w' => ∃ k : Nat, i = (k : Int) + 1 ∧ k ≤ 3 ∧ b = ((bfN xs k).1 : Int) ∧ l = (bfN xs k).2 ∧ Ev w w', fun _ _ i _ => (4 - i).toNat, ⟨0, rfl, Nat.zero_le _, rfl, rfl, Ch.refl _ _⟩, ?_⟩)
  rintro _ b l i w1 ⟨k, rfl, hk, rfl, rfl, h1⟩
  refine gIf_dec (fun hlt => ?_) (fun hge => ?_)
  · refine gCall_of (fRes_any (o := (k : Int) + 1) (h.ev h1) hl) ?_
    rintro _ w2 ⟨v, rfl, h2, hv⟩
    have ho : ordN ((k : Int) + 1) = k + 1 := by unfold ordN; split <;> split <;> omega
    rw [ho] at hv
    refine ⟨v, rfl, gCall_i0 (fWeight_any hv.nm (by rw [resG_len]; exact hl)) (gIf_dec (fun hb => ?_) (fun hb => ?_))⟩
    · have e : bfN xs (k + 1) = (k + 1, wtF (resG (fixG (k + 1)) xs)) := by rw [bfN, if_pos hb]
      exact ⟨⟨k + 1, by rw [i64_id (by omega) (by omega)]; omega, by omega, by rw [e]; rfl, by rw [e], h1.trans h2⟩, by dsimp only; rw [i64_id (by omega) (by omega)]; omega⟩
    · have e : bfN xs (k + 1) = bfN xs k := by rw [bfN, if_neg hb]
      exact ⟨⟨k + 1, by rw [i64_id (by omega) (by omega)]; omega, by omega, by rw [e], by rw [e], h1.trans h2⟩, by dsimp only; rw [i64_id (by omega) (by omega)]; omega⟩
  · obtain rfl : k = 3 := by omega
    exact ⟨rfl, h1⟩
end
end Go.Proofs.YtilpoinhfiajcaaGreatDoorV

/- Package lms: weights that learn. -/
namespace Go.Proofs.YtilpoinhfiajcaaGreatDoorV
open Go Go.RowKit
section
variable {P : Program} {w0 w : World} {F : List It}
/-- a[l:], of an array. -/
theorem gSlice_arrL {t : TypeId} {ad : Addr} {n l sz : Nat} {ki : IntKind} {K : Value → Prop} (hln : l < n) (hk : K (.slice (some (ad.add (l * sz))) (n - l) (n - l))) (ht : arSz P t n sz = true) : gSlice P t (.pointer (some ad)) (some (.int ki (l : Int))) none none K := by
  unfold arSz at ht
  split at ht
  · rename_i m e hu
    simp only [Bool.and_eq_true] at ht
    have hm := Nat.eq_of_beq_eq_true ht.1
    subst hm
    obtain ⟨i, hi, hsz⟩ : ∃ i, P.info? e = some i ∧ i.size = sz := by
      have := ht.2
      split at this
      · rename_i i hi; exact ⟨i, hi, Nat.eq_of_beq_eq_true this⟩
      · cases this
    refine ⟨_, fun w => ?_, hk⟩
    have hb : (Instr.sliceBounds false m m (some (.int ki (l : Int))) none none).run P w = .ok (l, m, m) w := by
      simp [Instr.sliceBounds, Instr.sliceBound, asIntOf]; omega
    simp only [Instr.sliceAt, Instr.sureAddr, Sem.run_bind, Sem.run_pure, run_underlying hu, Result.andThen_ok, hb, sizeOf, typeInfo, run_program, hi]
    simp [hsz]; omega
  · cases ht
/-- copy into a part of a struct. -/
theorem fCopyS {t ty : TypeId} {k : IntKind} {ad : Addr} {n c o : Nat} {y : Value} {cs : List Value} {ys : List Int} {K : Int → World → Prop} (f : Fr w0 w F) (i : Nat) (hi : F[i]? = some (sIt ad cs)) (ho : o + n ≤ cs.length) (hn : 0 < n) (hy : Nm k w y ys) (hny : n ≤ ys.length)
    (hk : ∀ w', Fr w0 w' (F.set i (sIt ad (cs.take o ++ (ys.take n).map (.int k) ++ cs.drop (o + n)))) → K (n : Int) w') (ht : slInt P t k = true := by kernel_rfl) :
    gCopy P #[t, t] ty #[.slice (some (ad.add o)) n c, y] w K := by
  obtain ⟨hu, ii, hii, hsz, hby, hby1, hz⟩ := slInt_ok ht
  have hsz1 : (P.info? (elOf P t)).map (·.size) = some 1 := by rw [hii]; simp [hsz]
  have hS : St w ad cs := f.get i hi
  obtain ⟨a, cy, rfl, hnc, hl, hcells, hnil⟩ := hy.1
  cases a with
  | none => have := hnil rfl; omega
  | some sd =>
    obtain ⟨hsp, cur, e, hg, hcur⟩ := hS
    obtain ⟨b, q, s⟩ := ad
    cases hsp
    dsimp only at hg hcur
    rw [Addr.add_lit]
    have hlen : ((ys.take n).map (Value.int k)).length = n := by rw [List.length_map, List.length_take]; omega
    have hcl : q + cs.length ≤ cur.size := by
      have h0 : cs.length - 1 < cs.length := by omega
      have h1 := hcur (cs.length - 1) cs[cs.length - 1] (by rw [List.getElem?_eq_getElem h0])
      have := (Array.getElem?_eq_some_iff.1 h1).1
      omega
    have hrun := run_copy_row (P := P) w t t ty (elOf P t) b (q + o) n c sd ys.length cy cur e ((ys.take n).map (.int k)) hu hsz1 hg (by rw [hlen]; show n = min ys.length n; omega)
      (fun j u hj => hcells sd rfl j u (by
        rw [List.getElem?_map, List.getElem?_take] at hj
        rw [List.getElem?_map]
        split at hj
        · exact hj
        · simp at hj)) (by rw [hlen]; omega) (fun u hu => by obtain ⟨x, _, rfl⟩ := List.mem_map.1 hu; rfl)
    rw [hlen] at hrun
    refine ⟨(n : Int), _, hrun, hk _ ?_⟩
    refine f.upd (jt := sIt ⟨b, q, none⟩ (cs.take o ++ (ys.take n).map (.int k) ++ cs.drop (o + n))) (S := Bk b) i hi ?_ (fun k _ hh => .inl hh) ⟨rfl, _, e, setRow_heap w b cur _ _ _ hg, fun j u hj => ?_⟩ fun k hk => .inl hk
    · refine ⟨rfl, rfl, rfl, by simp, fun j hj hn => setRow_other w b j _ fun e => hn 0 e, fun j c' e' f hj => ?_, fun k o hk ho => by rw [setRow_other w b k _ (ne_cells hg hk ho)]; exact hk⟩
      by_cases hjg : j = b
      · subst hjg
        rw [hg] at hj
        injection hj with hj; injection hj with h1 h2 h3
        subst h1; subst h2; subst h3
        exact ⟨_, setRow_heap w j cur _ _ _ hg, by simp; omega, fun i hi => absurd rfl hi⟩
      · exact ⟨c', by rw [setRow_other w b j _ hjg]; exact hj, rfl, fun _ _ => rfl⟩
    · show (Array.mk _)[q + j]? = some u
      rw [List.getElem?_toArray]
      have hto : (cur.toList.take (q + o)).length = q + o := by rw [List.length_take, Array.length_toList]; omega
      have hco : (cs.take o).length = o := by rw [List.length_take]; omega
      rw [List.append_assoc] at hj
      rw [List.append_assoc]
      rcases Nat.lt_or_ge j o with h1 | h1
      · rw [List.getElem?_append_left (by omega), List.getElem?_take, if_pos h1] at hj
        rw [List.getElem?_append_left (by omega), List.getElem?_take, if_pos (by omega), Array.getElem?_toList]
        exact hcur j u hj
      · rw [List.getElem?_append_right (by omega), hco] at hj
        rw [List.getElem?_append_right (by omega), hto, show q + j - (q + o) = j - o by omega]
        rcases Nat.lt_or_ge (j - o) n with h2 | h2
        · rw [List.getElem?_append_left (by omega)] at hj
          rw [List.getElem?_append_left (by omega)]; exact hj
        · rw [List.getElem?_append_right (by omega), hlen, List.getElem?_drop] at hj
          rw [List.getElem?_append_right (by omega), hlen, List.getElem?_drop, Array.getElem?_toList]
          have := hcur (o + n + (j - o - n)) u hj
          rw [← this]; congr 1; omega
end
def lmsC (s : List Int × List Int) : List Value := s.1.map (.int .i64) ++ s.2.map (.int .i32)
def okS (s : List Int × List Int) : Prop := s.1.length = 8 ∧ s.2.length = 8 ∧ inR .i32 s.2
theorem okS_next {s : List Int × List Int} {v : Int} (h : okS s) (hv : IntKind.i32.min ≤ v ∧ v ≤ IntKind.i32.max) : okS (lmsL s v) := by
  obtain ⟨h1, h2, h3⟩ := h
  refine ⟨tab_len _ _, by show (v :: s.2.take 7).length = 8; rw [List.length_cons, List.length_take]; omega, fun x hx => ?_⟩
  rcases List.mem_cons.1 hx with rfl | hx
  · exact hv
  · exact h3 x (List.mem_of_mem_take hx)
theorem okS_0 : okS (List.replicate 8 0, List.replicate 8 0) := ⟨rfl, rfl, fun x hx => by rw [List.eq_of_mem_replicate hx]; decide⟩
theorem okS_all {l : List Int} (hl : inR .i32 l) : okS (lmsS l) := by
  suffices ∀ (l : List Int) (s : List Int × List Int), inR .i32 l → okS s → okS (l.foldl lmsL s) from this l _ hl okS_0
  intro l
  induction l with
  | nil => intro s _ h; exact h
  | cons v l ih => intro s hl h; exact ih _ (fun x hx => hl x (List.mem_cons_of_mem _ hx)) (okS_next h (hl v List.mem_cons_self))
theorem len8 {α : Type} {l : List α} (h : l.length = 8) : ∃ a b c d e f g i, l = [a, b, c, d, e, f, g, i] := by
  match l, h with
  | [a, b, c, d, e, f, g, i], _ => exact ⟨a, b, c, d, e, f, g, i, rfl⟩
section
variable {w0 w : World} {F G : List It}
theorem fLmsNew {K : Option Addr → World → Prop} (f : Fr w0 w F) (hk : ∀ ad w', Fr w0 w' (sIt ad (lmsC (lmsS [])) :: F) → K (some ad) w') : gCall P n_lms_New shP #[] w K :=
  gCall_of (R := fun e w' => ∃ ad, e = .returned (.pointer (some ad)) ∧ Fr w0 w' (sIt ad (lmsC (lmsS [])) :: F)) (of_lms_New (fBox f fun ad w' f' => ⟨ad, rfl, f'⟩)) fun _ w' ⟨ad, h1, h2⟩ => ⟨some ad, h1, hk ad w' h2⟩
theorem sign_any {v : Int} : Calls P n_lms_sign #[.int .i32 v] w (fun e w' => e = .returned (.int .i64 (signI v)) ∧ w' = w) :=
  of_lms_sign (gIf_dec (fun h => ⟨by unfold signI; rw [if_pos h], rfl⟩) (fun h => gIf_dec (fun h2 => ⟨by unfold signI; rw [if_neg h, if_pos h2], rfl⟩) (fun h2 => ⟨by unfold signI; rw [if_neg h, if_neg h2], rfl⟩)))
theorem rdI32 {ns : List Int} (h : inR .i32 ns) (k : Nat) : -2147483648 ≤ rd ns (k : Int) ∧ rd ns (k : Int) ≤ 2147483647 := by
  by_cases hk : k < ns.length
  · rw [rd_nat ns k hk]; exact inR32.1 h _ (List.getElem_mem hk)
  · have : rd ns (k : Int) = 0 := by unfold rd; rw [Int.toNat_natCast]; simp [show ns.length ≤ k by omega]
    omega
theorem lms_cell {ad : Addr} {s : List Int × List Int} (hs : okS s) (h : St w ad (lmsC s)) (k : Nat) (hk : k < 8) : w.cell? (ad.add k) = some (.int .i64 (rd s.1 (k : Int))) ∧ w.cell? (ad.add (8 + k)) = some (.int .i32 (rd s.2 (k : Int))) := by
  obtain ⟨h1, h2, _⟩ := hs
  refine ⟨h.cell ?_, h.cell ?_⟩
  · unfold lmsC
    rw [List.getElem?_append_left (by rw [List.length_map]; omega), List.getElem?_map, List.getElem?_eq_getElem (by omega), rd_nat s.1 k (by omega)]; rfl
  · unfold lmsC
    rw [List.getElem?_append_right (by rw [List.length_map]; omega), List.length_map, h1, Nat.add_sub_cancel_left, List.getElem?_map, List.getElem?_eq_getElem (by omega), rd_nat s.2 k (by omega)]; rfl
theorem guessL_any {ad : Addr} {s : List Int × List Int} (hs : okS s) (h : St w ad (lmsC s)) : Calls P n_lms_Filter_Guess #[.pointer (some ad)] w (fun e w' => e = .returned (.int .i32 (lmsG s)) ∧ w' = w) := by
  have hc := lms_cell hs h
  obtain ⟨a0, a1, a2, a3, a4, a5, a6, a7, hw⟩ := len8 hs.1
  refine of_lms_Filter_Guess (gEq_pnil (gIf_f (gNil_some ?_)))
  rw [Addr.add_zero', Addr.add_zero']
  refine gLoad_agg (s.1.map (.int .i64)) (fun j u hj => ?_) ?_ (by rw [hw]; rfl) (by rw [List.length_map, hs.1]; kernel_rfl)
  · have hj8 : j < 8 := by have := (List.getElem?_eq_some_iff.1 hj).1; rw [List.length_map, hs.1] at this; exact this
    have h0 := (hc j hj8).1
    rw [List.getElem?_map, List.getElem?_eq_getElem (by rw [hs.1]; exact hj8)] at hj
    rw [rd_nat s.1 j (by rw [hs.1]; exact hj8)] at h0
    rw [h0]; exact hj
  rw [hw]
  show ∃ _, _
  refine ⟨fun sum i w' => ∃ k : Nat, i = (k : Int) ∧ k ≤ 8 ∧ sum = sumW s.1 s.2 k ∧ w' = w, fun _ i _ => (8 - i).toNat, ⟨0, rfl, by omega, rfl, rfl⟩, ?_⟩
  rintro _ sum i w1 ⟨k, rfl, hk, rfl, hw1⟩
  obtain rfl : w = w1 := hw1.symm
  refine gIf_dec (fun hlt => ?_) (fun hge => ?_)
  · have hk8 : k < 8 := by omega
    refine gIndex_arr (xs := s.1) 8 k (by rw [hw]; rfl) hs.1 rfl hk8 (gNil_some ?_)
    rw [Addr.add_zero']
    refine gIdx_ar1 8 k rfl hk8 ?_
    rw [Addr.add2']
    refine gLoad_i (hc k hk8).2 ?_
    have hr := rdI32 hs.2.2 k
    rw [i64_id (n := rd s.2 (k : Int)) (by omega) (by omega)]
    exact ⟨⟨k + 1, by rw [i64_id (by omega) (by omega)]; omega, hk8, rfl, rfl⟩, by dsimp only; rw [i64_id (n := (k : Int) + 1) (by omega) (by omega)]; omega⟩
  · obtain rfl : k = 8 := by omega
    exact ⟨rfl, rfl⟩
theorem learn_any {ad : Addr} {s : List Int × List Int} {v : Int} (hs : okS s) (hv : IntKind.i32.min ≤ v ∧ v ≤ IntKind.i32.max) (f : Fr w0 w (sIt ad (lmsC s) :: G)) :
    Calls P n_lms_Filter_Learn #[.pointer (some ad), .int .i32 v] w (fun e w' => e = .returned (.tuple #[]) ∧ Fr w0 w' (sIt ad (lmsC (lmsL s v)) :: G)) := by
  have hc := lms_cell hs (f.get 0 rfl)
  obtain ⟨b0, b1, b2, b3, b4, b5, b6, b7, hn⟩ := len8 hs.2.1
  refine of_lms_Filter_Learn (gEq_pnil (gIf_f (gCall_i0 (guessL_any hs (f.get 0 rfl)) (gCall_i0 sign_any (gNil_some ?_)))))
  rw [Addr.add_zero']
  obtain ⟨e, he⟩ : ∃ e, e = signI (i32 (v - lmsG s)) := ⟨_, rfl⟩
  rw [← he]
  refine gLoad_agg (s.2.map (.int .i32)) (fun j u hj => ?_) ?_ (by rw [hn]; rfl) (by rw [List.length_map, hs.2.1]; kernel_rfl)
  · have hj8 : j < 8 := by have := (List.getElem?_eq_some_iff.1 hj).1; rw [List.length_map, hs.2.1] at this; exact this
    have h0 := (hc j hj8).2
    rw [List.getElem?_map, List.getElem?_eq_getElem (by rw [hs.2.1]; exact hj8)] at hj
    rw [rd_nat s.2 j (by rw [hs.2.1]; exact hj8)] at h0
    rw [Addr.add2', h0]; exact hj
  rw [hn]
  show ∃ _, _
  obtain ⟨W, hW⟩ : ∃ W, W = lmsW e s.1 s.2 := ⟨_, rfl⟩
  have hWl : W.length = 8 := by rw [hW]; exact tab_len _ _
  have hmid : ∀ k, k ≤ 8 → okS (W.take k ++ s.1.drop k, s.2) := fun k hk => ⟨by show (W.take k ++ s.1.drop k).length = 8; rw [List.length_append, List.length_take, List.length_drop, hWl, hs.1]; omega, hs.2.1, hs.2.2⟩
  refine ⟨fun i w' => ∃ k : Nat, i = (k : Int) ∧ k ≤ 8 ∧ Fr w0 w' (sIt ad (lmsC (W.take k ++ s.1.drop k, s.2)) :: G), fun i _ => (8 - i).toNat, ⟨0, rfl, by omega, f⟩, ?_⟩
  rintro _ i w1 ⟨k, rfl, hk, f1⟩
  refine gIf_dec (fun hlt => ?_) (fun hge => ?_)
  · have hk8 : k < 8 := by omega
    have hmk := hmid k hk
    have hck := lms_cell hmk (f1.get 0 rfl) k hk8
    have hold : rd (W.take k ++ s.1.drop k) (k : Int) = rd s.1 (k : Int) := by
      rw [rd_nat _ k (by rw [hmk.1]; exact hk8), rd_nat s.1 k (by rw [hs.1]; exact hk8)]
      rw [List.getElem_append_right (by rw [List.length_take]; omega), List.getElem_drop]
      congr 1; rw [List.length_take, hWl]; omega
    rw [hold] at hck
    have hnew : rd W (k : Int) = i64 (rd s.1 (k : Int) + i64 (e * signI (rd s.2 (k : Int)))) := by rw [hW]; exact rd_tab (f := fun k : Nat => i64 (rd s.1 (k : Int) + i64 (e * signI (rd s.2 (k : Int))))) hk8
    have hset : (lmsC (W.take k ++ s.1.drop k, s.2)).set k (.int .i64 (rd W (k : Int))) = lmsC (W.take (k + 1) ++ s.1.drop (k + 1), s.2) := by
      unfold lmsC
      dsimp only
      rw [List.set_append_left _ _ (by rw [List.length_map, hmk.1]; exact hk8), ← List.map_set]
      congr 2
      have hd : s.1.drop k = s.1[k]'(by rw [hs.1]; exact hk8) :: s.1.drop (k + 1) := List.drop_eq_getElem_cons (by rw [hs.1]; exact hk8)
      rw [hd, List.set_append_right _ _ (by rw [List.length_take]; omega), List.length_take, hWl, show k - min k 8 = 0 by omega, List.set_cons_zero, List.take_succ_eq_append_getElem (by omega), rd_nat W k (by omega), List.append_assoc]; rfl
    refine gIndex_arr (xs := s.2) 8 k (by rw [hn]; rfl) hs.2.1 rfl hk8 ⟨fun _ => True, trivial, gNil_some ?_⟩
    rw [Addr.add_zero', Addr.add_zero']
    refine gIdx_ar1 8 k rfl hk8 (gNil_some ?_)
    rw [Addr.add_zero', Addr.add_zero']
    have fin : ∀ {w2}, Fr w0 w2 (sIt ad (lmsC (W.take k ++ s.1.drop k, s.2)) :: G) → gIdx P t_ar8_int64 (.pointer (some ad)) (.int .i64 (k : Int)) fun t38 => gStore P t_int64 (.pointer (some t38)) (.int .i64 (i64 (rd s.1 (k : Int) + i64 (e * signI (rd s.2 (k : Int)))))) w2 fun w3 => True ∧ (∃ k' : Nat, i64 ((k : Int) + 1) = (k' : Int) ∧ k' ≤ 8 ∧ Fr w0 w3 (sIt ad (lmsC (W.take k' ++ s.1.drop k', s.2)) :: G)) ∧ (8 - i64 ((k : Int) + 1)).toNat < (8 - (k : Int)).toNat := fun {w2} f2 => by
      refine gIdx_ar1 8 k rfl hk8 (fStore f2 0 k rfl (fun w3 f3 => ⟨trivial, ⟨k + 1, by rw [i64_id (by omega) (by omega)]; omega, hk8, ?_⟩, by rw [i64_id (by omega) (by omega)]; omega⟩) (by rw [lmsC, List.length_append, List.length_map, List.length_map, hmk.1]; omega))
      rw [← hset, hnew]; exact f3
    refine ⟨gLoad_i hck.1 ⟨trivial, gCall_i0 sign_any ⟨trivial, fin f1.drew⟩⟩, gCall_i0 sign_any ⟨trivial, gLoad_i hck.1 ⟨trivial, fin f1.drew⟩⟩⟩
  · obtain rfl : k = 8 := by omega
    rw [List.take_of_length_le (show W.length ≤ 8 by omega), List.drop_of_length_le (show s.1.length ≤ 8 by rw [hs.1]; exact Nat.le_refl _), List.append_nil] at f1
    refine ⟨fun _ => True, trivial, gNil_some ?_⟩
    rw [Addr.add_zero']
    refine gSlice_arrL (l := 1) (n := 8) (sz := 1) (by decide) (gNil_some ?_) (by kernel_rfl)
    rw [Addr.add_zero', Addr.add2']
    refine gSlice_arr (n := 8) (sz := 1) ?_ (by kernel_rfl)
    have hy : Nm .i32 w1.drew (.slice (some (ad.add 8)) 8 8) s.2 := by
      refine ⟨⟨some (ad.add 8), 8, by rw [hs.2.1], by rw [hs.2.1]; exact Nat.le_refl _, by rw [List.length_map, hs.2.1], fun ad' ha j u hj => ?_, fun h => by cases h⟩, hs.2.2⟩
      injection ha with ha; subst ha
      rw [Addr.add2']
      have : (lmsC (W, s.2))[8 + j]? = some u := by unfold lmsC; dsimp only; rw [List.getElem?_append_right (by rw [List.length_map, hWl]; omega), List.length_map, hWl, Nat.add_sub_cancel_left]; exact hj
      exact f1.drew.cell 0 (8 + j) rfl this
    refine fCopyS (o := 9) (n := 7) f1.drew 0 rfl (by rw [lmsC, List.length_append, List.length_map, List.length_map, hs.2.1, hWl]; decide) (by decide) hy (by rw [hs.2.1]; decide) (fun w3 f3 => ⟨trivial, gNil_some ?_⟩)
    rw [Addr.add_zero']
    refine gIdx_ar1 8 0 rfl (by decide) ?_
    rw [Addr.add2']
    have hlen : ((lmsC (W, s.2)).take 9 ++ (s.2.take 7).map (Value.int .i32) ++ (lmsC (W, s.2)).drop (9 + 7)).length = 16 := by
      have : (lmsC (W, s.2)).length = 16 := by rw [lmsC, List.length_append, List.length_map, List.length_map, hs.2.1, hWl]
      simp only [List.length_append, List.length_take, List.length_drop, List.length_map, this, hs.2.1]; omega
    refine fStore f3 0 (8 + 0) rfl (fun w4 f4 => ⟨rfl, ?_⟩) (by rw [hlen]; decide)
    have hfin : ((lmsC (W, s.2)).take 9 ++ (s.2.take 7).map (Value.int .i32) ++ (lmsC (W, s.2)).drop (9 + 7)).set (8 + 0) (.int .i32 v) = lmsC (lmsL s v) := by
      have hL : lmsL s v = (W, v :: s.2.take 7) := by unfold lmsL; rw [hW, he]
      rw [hL]
      obtain ⟨c0, c1, c2, c3, c4, c5, c6, c7, hw8⟩ := len8 hWl
      rw [hw8, hn]; rfl
    rw [← hfin]; exact f4
end
end Go.Proofs.YtilpoinhfiajcaaGreatDoorV

/- Package lms: what is left, and the numbers again; predictors. -/
namespace Go.Proofs.YtilpoinhfiajcaaGreatDoorV
open Go Go.RowKit
section
variable {w : World}
theorem lRes_any {l0 : Value} {xs : List Int} (h : Nm .i32 w l0 xs) (hl : xs.length ≤ 1000000000) : Calls P n_lms_Residual #[l0] w (NewI w (resG learnG xs)) := by
  refine of_lms_Residual (fLmsNew (Fr.start w) fun ad w1 f1 => gLen_nm (h.ev f1.old) (fMakeI f1 hl fun t10 w2 f2 => gLen_nm (h.ev f2.old) ?_))
  refine ⟨fun i w' => ∃ k : Nat, i = (k : Int) ∧ k ≤ xs.length ∧ Fr w w' [oIt .i32 eI t10 ((resG learnG xs).take k ++ List.replicate (xs.length - k) 0), sIt ad (lmsC (lmsS (xs.take k)))], fun i _ => (xs.length - i).toNat, ⟨0, rfl, Nat.zero_le _, f2⟩, ?_⟩
  rintro _ i w3 ⟨k, rfl, hk, f3⟩
  refine gIf_dec (fun hlt => ?_) (fun hge => ?_)
  · have hkl : k < xs.length := by omega
    have hok := okS_all (l := xs.take k) (h.2.take k)
    have hlen : ((resG learnG xs).take k).length = k := by rw [List.length_take, resG_len]; omega
    refine gGet (h.ev f3.old) (by omega) (by omega) (gCall_i0 (guessL_any hok (f3.get 1 rfl)) ?_)
    refine fSetO f3 0 rfl rfl (by rw [List.length_append, hlen, List.length_replicate]; omega) (i32_io _) fun w4 f4 => ?_
    have hv : i32 (rd xs (k : Int) - lmsG (lmsS (xs.take k))) = rd (resG learnG xs) (k : Int) := (rd_tab (f := fun i => i32 (rd xs (i : Int) - learnG (xs.take i))) hkl).symm
    have f4 : Fr w w4 [oIt .i32 eI t10 (((resG learnG xs).take k ++ List.replicate (xs.length - k) 0).set k (i32 (rd xs (k : Int) - lmsG (lmsS (xs.take k))))), sIt ad (lmsC (lmsS (xs.take k)))] := f4
    rw [fill_set hlen hkl, hv, rd_nat _ k (by rw [resG_len]; exact hkl), ← List.take_succ_eq_append_getElem (by rw [resG_len]; exact hkl)] at f4
    have f4 : Fr w w4 [sIt ad (lmsC (lmsS (xs.take k))), oIt .i32 eI t10 ((resG learnG xs).take (k + 1) ++ List.replicate (xs.length - (k + 1)) 0)] := f4.picks [1, 0] (by decide)
    rw [rd_nat xs k hkl]
    refine gCall_u (learn_any hok (h.2 _ (List.getElem_mem hkl)) f4) fun w5 f5 => ?_
    rw [← lmsS_next hkl] at f5
    exact ⟨⟨k + 1, by rw [i64_id (by omega) (by omega)]; omega, hkl, f5.picks [1, 0] (by decide)⟩, by dsimp only; rw [i64_id (by omega) (by omega)]; omega⟩
  · obtain rfl : k = xs.length := by omega
    rw [Nat.sub_self, List.replicate_zero, List.append_nil, List.take_of_length_le (by rw [resG_len]; exact Nat.le_refl _)] at f3
    exact ⟨t10, rfl, f3.old, f3.on 0 rfl⟩
theorem lRest_any {l0 : Value} {xs : List Int} (h : Nm .i32 w l0 xs) (hl : xs.length ≤ 1000000000) : Calls P n_lms_Restore #[l0] w (NewI w (restG learnG xs xs.length)) := by
  refine of_lms_Restore (fLmsNew (Fr.start w) fun ad w1 f1 => gLen_nm (h.ev f1.old) (fMakeI f1 hl fun t10 w2 f2 => gLen_nm (h.ev f2.old) ?_))
  refine ⟨fun i w' => ∃ k : Nat, i = (k : Int) ∧ k ≤ xs.length ∧ Fr w w' [oIt .i32 eI t10 (restG learnG xs k ++ List.replicate (xs.length - k) 0), sIt ad (lmsC (lmsS (restG learnG xs k)))], fun i _ => (xs.length - i).toNat, ⟨0, rfl, Nat.zero_le _, f2⟩, ?_⟩
  rintro _ i w3 ⟨k, rfl, hk, f3⟩
  have hlen := restG_len learnG xs k
  refine gIf_dec (fun hlt => ?_) (fun hge => ?_)
  · have hkl : k < xs.length := by omega
    have hok := okS_all (l := restG learnG xs k) (restG_in _ _ _)
    refine gGet (h.ev f3.old) (by omega) (by omega) (gCall_i0 (guessL_any hok (f3.get 1 rfl)) ?_)
    refine fSetO f3 0 rfl rfl (by rw [List.length_append, hlen, List.length_replicate]; omega) (i32_io _) fun w4 f4 => ?_
    obtain ⟨v, hv⟩ : ∃ v, v = i32 (rd xs (k : Int) + lmsG (lmsS (restG learnG xs k))) := ⟨_, rfl⟩
    have hstep : restG learnG xs (k + 1) = restG learnG xs k ++ [v] := by rw [restG, hv]; rfl
    have f4 : Fr w w4 [oIt .i32 eI t10 ((restG learnG xs k ++ List.replicate (xs.length - k) 0).set k (i32 (rd xs (k : Int) + lmsG (lmsS (restG learnG xs k))))), sIt ad (lmsC (lmsS (restG learnG xs k)))] := f4
    rw [← hv, fill_set hlen hkl, ← hstep] at f4
    have hrv : rd (restG learnG xs (k + 1) ++ List.replicate (xs.length - (k + 1)) 0) (k : Int) = v := by
      rw [rd_nat _ k (by rw [List.length_append, restG_len]; omega), List.getElem_append_left (by rw [restG_len]; omega)]
      simp only [hstep]
      rw [List.getElem_append_right (by omega)]
      simp [hlen]
    refine gGet (f4.nm 0 rfl) (by omega) (by rw [List.length_append, restG_len]; omega) ?_
    rw [hrv]
    have f4 : Fr w w4 [sIt ad (lmsC (lmsS (restG learnG xs k))), oIt .i32 eI t10 (restG learnG xs (k + 1) ++ List.replicate (xs.length - (k + 1)) 0)] := f4.picks [1, 0] (by decide)
    refine gCall_u (learn_any hok (by rw [hv]; exact i32_io _) f4) fun w5 f5 => ?_
    rw [← lmsS_snoc, ← hstep] at f5
    exact ⟨⟨k + 1, by rw [i64_id (by omega) (by omega)]; omega, hkl, f5.picks [1, 0] (by decide)⟩, by dsimp only; rw [i64_id (by omega) (by omega)]; omega⟩
  · obtain rfl : k = xs.length := by omega
    rw [Nat.sub_self, List.replicate_zero, List.append_nil] at f3
    exact ⟨t10, rfl, f3.old, f3.on 0 rfl⟩
/-- A predictor, by its kind. -/
def kindG (k : Int) : List Int → Int := if k = 4 then learnG else fixG (ordN k)
theorem pRes_any {l0 : Value} {xs : List Int} {k : Int} (h : Nm .i32 w l0 xs) (hl : xs.length ≤ 1000000000) : Calls P n_audio_predictor_residual #[.agg #[.int .i64 k], l0] w (NewI w (resG (kindG k) xs)) := by
  refine of_audio_predictor_residual (fBox (Fr.start w) fun p2 w1 f1 => fLoad_i (n := k) f1 0 0 rfl rfl (gIf_eq (fun e => ?_) (fun e => fLoad_i (n := k) f1 0 0 rfl rfl ?_)))
  · refine gCall_of (lRes_any (h.ev f1.old) hl) ?_
    rintro _ w2 ⟨v, rfl, h2, hv⟩
    have hk : kindG k = learnG := by unfold kindG; rw [if_pos e]
    rw [hk]
    exact ⟨v, rfl, v, rfl, f1.old.trans h2, hv.low f1.old.size⟩
  · refine gCall_of (fRes_any (o := k) (h.ev f1.old) hl) ?_
    rintro _ w2 ⟨v, rfl, h2, hv⟩
    have hk : kindG k = fixG (ordN k) := by unfold kindG; rw [if_neg e]
    rw [hk]
    exact ⟨v, rfl, v, rfl, f1.old.trans h2, hv.low f1.old.size⟩
theorem pRest_any {l0 : Value} {xs : List Int} {k : Int} (h : Nm .i32 w l0 xs) (hl : xs.length ≤ 1000000000) : Calls P n_audio_predictor_restore #[.agg #[.int .i64 k], l0] w (NewI w (restG (kindG k) xs xs.length)) := by
  refine of_audio_predictor_restore (fBox (Fr.start w) fun p2 w1 f1 => fLoad_i (n := k) f1 0 0 rfl rfl (gIf_eq (fun e => ?_) (fun e => fLoad_i (n := k) f1 0 0 rfl rfl ?_)))
  · refine gCall_of (lRest_any (h.ev f1.old) hl) ?_
    rintro _ w2 ⟨v, rfl, h2, hv⟩
    have hk : kindG k = learnG := by unfold kindG; rw [if_pos e]
    rw [hk]
    exact ⟨v, rfl, v, rfl, f1.old.trans h2, hv.low f1.old.size⟩
  · refine gCall_of (fRest_any (o := k) (h.ev f1.old) hl) ?_
    rintro _ w2 ⟨v, rfl, h2, hv⟩
    have hk : kindG k = fixG (ordN k) := by unfold kindG; rw [if_neg e]
    rw [hk]
    exact ⟨v, rfl, v, rfl, f1.old.trans h2, hv.low f1.old.size⟩
end
end Go.Proofs.YtilpoinhfiajcaaGreatDoorV

/- Package tracks: middle and side. -/
namespace Go.Proofs.YtilpoinhfiajcaaGreatDoorV
open Go Go.RowKit
theorem fill_tab {f : Nat → Int} {n k : Nat} (hk : k < n) {v : Int} (hv : v = f k) : ((tab n f).take k ++ List.replicate (n - k) 0).set k v = (tab n f).take (k + 1) ++ List.replicate (n - (k + 1)) 0 := by
  rw [fill_set (by rw [List.length_take, tab_len]; omega) hk, List.take_succ_eq_append_getElem (by rw [tab_len]; exact hk), hv]
  congr 2
  rw [← rd_nat (tab n f) k (by rw [tab_len]; exact hk), rd_tab hk]
theorem rd_fill {f : Nat → Int} {n k : Nat} (hk : k < n) : rd ((tab n f).take (k + 1) ++ List.replicate (n - (k + 1)) 0) (k : Int) = f k := by
  have hl : ((tab n f).take (k + 1)).length = k + 1 := by rw [List.length_take, tab_len]; omega
  rw [rd_nat _ k (by rw [List.length_append, hl]; omega), List.getElem_append_left (by omega), List.getElem_take, ← rd_nat (tab n f) k (by rw [tab_len]; exact hk), rd_tab hk]
theorem fill_len {f : Nat → Int} {n k : Nat} (hk : k ≤ n) : ((tab n f).take k ++ List.replicate (n - k) 0).length = n := by rw [List.length_append, List.length_take, tab_len, List.length_replicate]; omega
section
variable {w0 w : World}
/-- Two slices of one's own, and that it went well. -/
def TwoI (w : World) (xs ys : List Int) (e : Ending) (w' : World) : Prop := ∃ a b, e = .returned (.tuple #[a, b, .int .i64 0]) ∧ Fr w w' [oIt .i32 eI b ys, oIt .i32 eI a xs]
theorem Mid_any {l0 r0 : Value} {l r : List Int} (hl : Nm .i32 w l0 l) (hr : Nm .i32 w r0 r) (h : l.length = r.length) (hb : l.length ≤ 1000000000) : Calls P n_tracks_Mid #[l0, r0] w (TwoI w (midL l r) (sideL l r)) := by
  have loop : ∀ {t17 t20 : Value} {ww : World}, Fr w ww [oIt .i32 eI t20 (List.replicate l.length 0), oIt .i32 eI t17 (List.replicate l.length 0)] → gLen P t_sl_int32 l0 fun (t22 : Nat) => ∃ (I : Int → World → Prop) (μ : Int → World → Nat), I 0 ww ∧ ∀ (_ : Env) (t23 : Int) (ww3 : World), I t23 ww3 → gIf (decide (t23 < (t22 : Int))) (∃ B1 C1 : World → Prop, (B1 ww3.drew ∧ C1 ww3.drew) ∧ gIdx P t_sl_int32 l0 (.int .i64 t23) fun (t30 : Addr) => gLoadB P t_int32 (shI .i32) (.pointer (some t30)) C1 fun (t31 : Int) => gIdx P t_sl_int32 r0 (.int .i64 t23) fun (t34 : Addr) => gLoadB P t_int32 (shI .i32) (.pointer (some t34)) C1 fun (t35 : Int) => gIdx P t_sl_int32 t20 (.int .i64 t23) fun (t37 : Addr) => gStore P t_int32 (.pointer (some t37)) (.int .i32 (i32 (t31 - t35))) ww3.drew fun ww4 => B1 ww4 ∧ ∃ B2 C2 : World → Prop, (B2 ww4.drew ∧ C2 ww4.drew) ∧ gIdx P t_sl_int32 r0 (.int .i64 t23) fun (t42 : Addr) => gLoadB P t_int32 (shI .i32) (.pointer (some t42)) C2 fun (t43 : Int) => gIdx P t_sl_int32 t20 (.int .i64 t23) fun (t46 : Addr) => gLoadB P t_int32 (shI .i32) (.pointer (some t46)) C2 fun (t47 : Int) => gIdx P t_sl_int32 t17 (.int .i64 t23) fun (t50 : Addr) => gStore P t_int32 (.pointer (some t50)) (.int .i32 (i32 (t43 + (iShr .i32 t47 1)))) ww4.drew fun ww5 => B2 ww5 ∧ I (i64 (t23 + 1)) ww5 ∧ μ (i64 (t23 + 1)) ww5 < μ t23 ww3) (TwoI w (midL l r) (sideL l r) (.returned (.tuple #[t17, t20, .int .i64 0])) ww3) := by
    intro t17 t20 ww f
    refine gLen_nm (hl.ev f.old) ⟨fun i w' => ∃ k : Nat, i = (k : Int) ∧ k ≤ l.length ∧ Fr w w' [oIt .i32 eI t20 ((sideL l r).take k ++ List.replicate (l.length - k) 0), oIt .i32 eI t17 ((midL l r).take k ++ List.replicate (l.length - k) 0)], fun i _ => (l.length - i).toNat, ⟨0, rfl, Nat.zero_le _, f⟩, ?_⟩
    rintro _ i w1 ⟨k, rfl, hk, f1⟩
    refine gIf_dec (fun hlt => ?_) (fun hge => ?_)
    · have hkl : k < l.length := by omega
      refine ⟨fun _ => True, fun w' => w' = w1.drew, ⟨trivial, rfl⟩, gGetB (hl.ev f1.old) (by omega) (by omega) (fun _ h => evDrew h) (gGetB (hr.ev f1.old) (by omega) (by omega) (fun _ h => evDrew h) ?_)⟩
      refine fSetO f1.drew 0 rfl rfl (by rw [sideL, fill_len hk]; exact hkl) (i32_io _) fun w2 f2 => ⟨trivial, fun _ => True, fun w' => w' = w2.drew, ⟨trivial, rfl⟩, ?_⟩
      have f2 : Fr w w2 [oIt .i32 eI t20 (((sideL l r).take k ++ List.replicate (l.length - k) 0).set k (i32 (rd l (k : Int) - rd r (k : Int)))), oIt .i32 eI t17 ((midL l r).take k ++ List.replicate (l.length - k) 0)] := f2
      have e2 : ((sideL l r).take k ++ List.replicate (l.length - k) 0).set k (i32 (rd l (k : Int) - rd r (k : Int))) = (sideL l r).take (k + 1) ++ List.replicate (l.length - (k + 1)) 0 := fill_tab hkl rfl
      rw [e2] at f2
      refine gGetB (hr.ev f2.old) (by omega) (by omega) (fun _ h => evDrew h) (gGetB (f2.nm 0 rfl) (by omega) (by rw [sideL, fill_len hkl]; omega) (fun _ h => evDrew h) ?_)
      rw [show rd ((sideL l r).take (k + 1) ++ List.replicate (l.length - (k + 1)) 0) (k : Int) = i32 (rd l (k : Int) - rd r (k : Int)) from rd_fill (f := fun i => i32 (rd l (i : Int) - rd r (i : Int))) hkl]
      refine fSetO f2.drew 1 rfl rfl (by rw [midL, fill_len hk]; exact hkl) (i32_io _) fun w3 f3 => ⟨trivial, ⟨k + 1, by rw [i64_id (by omega) (by omega)]; omega, hkl, ?_⟩, by dsimp only; rw [i64_id (by omega) (by omega)]; omega⟩
      have e3 : ((midL l r).take k ++ List.replicate (l.length - k) 0).set k (i32 (rd r (k : Int) + iShr .i32 (i32 (rd l (k : Int) - rd r (k : Int))) 1)) = (midL l r).take (k + 1) ++ List.replicate (l.length - (k + 1)) 0 := fill_tab hkl rfl
      rw [← e3]; exact f3
    · obtain rfl : k = l.length := by omega
      rw [Nat.sub_self, List.replicate_zero, List.append_nil, List.append_nil, List.take_of_length_le (by rw [sideL, tab_len]; exact Nat.le_refl _), List.take_of_length_le (by rw [midL, tab_len]; exact Nat.le_refl _)] at f1
      exact ⟨t17, t20, rfl, f1⟩
  refine of_tracks_Mid (gLen_nm hl (gLen_nm hr (gIf_neq (fun hne => absurd (by omega) hne) (fun _ => ⟨fun _ => True, trivial, gLen_nm hl (gLen_nm hl ⟨?_, ?_⟩)⟩))))
  · exact fMakeI (Fr.start w).drew hb fun t17 w1 f1 => ⟨trivial, fMakeI f1 hb fun t20 w2 f2 => ⟨trivial, loop f2⟩⟩
  · exact fMakeI (Fr.start w).drew hb fun t20 w1 f1 => ⟨trivial, fMakeI f1 hb fun t17 w2 f2 => ⟨trivial, loop (f2.picks [1, 0] (by decide))⟩⟩
theorem Unmid_any {m0 s0 : Value} {m s : List Int} (hm : Nm .i32 w m0 m) (hs : Nm .i32 w s0 s) (h : m.length = s.length) (hb : m.length ≤ 1000000000) : Calls P n_tracks_Unmid #[m0, s0] w (TwoI w (leftL m s) (rightL m s)) := by
  have loop : ∀ {t17 t20 : Value} {ww : World}, Fr w ww [oIt .i32 eI t20 (List.replicate m.length 0), oIt .i32 eI t17 (List.replicate m.length 0)] → gLen P t_sl_int32 m0 fun (t22 : Nat) => ∃ (I : Int → World → Prop) (μ : Int → World → Nat), I 0 ww ∧ ∀ (_ : Env) (t23 : Int) (ww3 : World), I t23 ww3 → gIf (decide (t23 < (t22 : Int))) (∃ B1 C1 : World → Prop, (B1 ww3.drew ∧ C1 ww3.drew) ∧ gIdx P t_sl_int32 m0 (.int .i64 t23) fun (t30 : Addr) => gLoadB P t_int32 (shI .i32) (.pointer (some t30)) C1 fun (t31 : Int) => gIdx P t_sl_int32 s0 (.int .i64 t23) fun (t34 : Addr) => gLoadB P t_int32 (shI .i32) (.pointer (some t34)) C1 fun (t35 : Int) => gIdx P t_sl_int32 t20 (.int .i64 t23) fun (t38 : Addr) => gStore P t_int32 (.pointer (some t38)) (.int .i32 (i32 (t31 - (iShr .i32 t35 1)))) ww3.drew fun ww4 => B1 ww4 ∧ ∃ B2 C2 : World → Prop, (B2 ww4.drew ∧ C2 ww4.drew) ∧ gIdx P t_sl_int32 t20 (.int .i64 t23) fun (t43 : Addr) => gLoadB P t_int32 (shI .i32) (.pointer (some t43)) C2 fun (t44 : Int) => gIdx P t_sl_int32 s0 (.int .i64 t23) fun (t47 : Addr) => gLoadB P t_int32 (shI .i32) (.pointer (some t47)) C2 fun (t48 : Int) => gIdx P t_sl_int32 t17 (.int .i64 t23) fun (t50 : Addr) => gStore P t_int32 (.pointer (some t50)) (.int .i32 (i32 (t44 + t48))) ww4.drew fun ww5 => B2 ww5 ∧ I (i64 (t23 + 1)) ww5 ∧ μ (i64 (t23 + 1)) ww5 < μ t23 ww3) (TwoI w (leftL m s) (rightL m s) (.returned (.tuple #[t17, t20, .int .i64 0])) ww3) := by
    intro t17 t20 ww f
    refine gLen_nm (hm.ev f.old) ⟨fun i w' => ∃ k : Nat, i = (k : Int) ∧ k ≤ m.length ∧ Fr w w' [oIt .i32 eI t20 ((rightL m s).take k ++ List.replicate (m.length - k) 0), oIt .i32 eI t17 ((leftL m s).take k ++ List.replicate (m.length - k) 0)], fun i _ => (m.length - i).toNat, ⟨0, rfl, Nat.zero_le _, f⟩, ?_⟩
    rintro _ i w1 ⟨k, rfl, hk, f1⟩
    refine gIf_dec (fun hlt => ?_) (fun hge => ?_)
    · have hkl : k < m.length := by omega
      refine ⟨fun _ => True, fun w' => w' = w1.drew, ⟨trivial, rfl⟩, gGetB (hm.ev f1.old) (by omega) (by omega) (fun _ h => evDrew h) (gGetB (hs.ev f1.old) (by omega) (by omega) (fun _ h => evDrew h) ?_)⟩
      refine fSetO f1.drew 0 rfl rfl (by rw [rightL, fill_len hk]; exact hkl) (i32_io _) fun w2 f2 => ⟨trivial, fun _ => True, fun w' => w' = w2.drew, ⟨trivial, rfl⟩, ?_⟩
      have f2 : Fr w w2 [oIt .i32 eI t20 (((rightL m s).take k ++ List.replicate (m.length - k) 0).set k (i32 (rd m (k : Int) - iShr .i32 (rd s (k : Int)) 1))), oIt .i32 eI t17 ((leftL m s).take k ++ List.replicate (m.length - k) 0)] := f2
      have e2 : ((rightL m s).take k ++ List.replicate (m.length - k) 0).set k (i32 (rd m (k : Int) - iShr .i32 (rd s (k : Int)) 1)) = (rightL m s).take (k + 1) ++ List.replicate (m.length - (k + 1)) 0 := fill_tab hkl rfl
      rw [e2] at f2
      have hr0 : rd (rightL m s) (k : Int) = i32 (rd m (k : Int) - iShr .i32 (rd s (k : Int)) 1) := rd_tab (f := fun i : Nat => i32 (rd m (i : Int) - iShr .i32 (rd s (i : Int)) 1)) hkl
      refine gGetB (f2.nm 0 rfl) (by omega) (by rw [rightL, fill_len hkl]; omega) (fun _ h => evDrew h) (gGetB (hs.ev f2.old) (by omega) (by omega) (fun _ h => evDrew h) ?_)
      rw [show rd ((rightL m s).take (k + 1) ++ List.replicate (m.length - (k + 1)) 0) (k : Int) = rd (rightL m s) (k : Int) by rw [hr0]; exact rd_fill (f := fun i : Nat => i32 (rd m (i : Int) - iShr .i32 (rd s (i : Int)) 1)) hkl]
      refine fSetO f2.drew 1 rfl rfl (by rw [leftL, fill_len hk]; exact hkl) (i32_io _) fun w3 f3 => ⟨trivial, ⟨k + 1, by rw [i64_id (by omega) (by omega)]; omega, hkl, ?_⟩, by dsimp only; rw [i64_id (by omega) (by omega)]; omega⟩
      have e3 : ((leftL m s).take k ++ List.replicate (m.length - k) 0).set k (i32 (rd (rightL m s) (k : Int) + rd s (k : Int))) = (leftL m s).take (k + 1) ++ List.replicate (m.length - (k + 1)) 0 := fill_tab hkl rfl
      rw [← e3]; exact f3
    · obtain rfl : k = m.length := by omega
      rw [Nat.sub_self, List.replicate_zero, List.append_nil, List.append_nil, List.take_of_length_le (by rw [rightL, tab_len]; exact Nat.le_refl _), List.take_of_length_le (by rw [leftL, tab_len]; exact Nat.le_refl _)] at f1
      exact ⟨t17, t20, rfl, f1⟩
  refine of_tracks_Unmid (gLen_nm hm (gLen_nm hs (gIf_neq (fun hne => absurd (by omega) hne) (fun _ => ⟨fun _ => True, trivial, gLen_nm hm (gLen_nm hm ⟨?_, ?_⟩)⟩))))
  · exact fMakeI (Fr.start w).drew hb fun t17 w1 f1 => ⟨trivial, fMakeI f1 hb fun t20 w2 f2 => ⟨trivial, loop f2⟩⟩
  · exact fMakeI (Fr.start w).drew hb fun t20 w1 f1 => ⟨trivial, fMakeI f1 hb fun t17 w2 f2 => ⟨trivial, loop (f2.picks [1, 0] (by decide))⟩⟩
end
end Go.Proofs.YtilpoinhfiajcaaGreatDoorV

/- Package tracks: Split, Join. -/
namespace Go.Proofs.YtilpoinhfiajcaaGreatDoorV
open Go Go.RowKit
noncomputable abbrev eT : TypeId := elOf P t_sl_sl_int32
/-- Tracks, each in memory of its own. -/
noncomputable def trF (v : Value) (T : List (Value × List Int)) : List It := rIt eT 1 v T.length (T.map (·.1)) :: T.map fun u => oIt .i32 eI u.1 u.2
theorem iShr8 (v : Int) : iShr .i32 v 8 = v / 256 := by
  unfold iShr
  rw [Int.fdiv_eq_ediv_of_nonneg _ (by decide)]; rfl
theorem two_bytes {a b : Int} (ha : 0 ≤ a ∧ a < 256) (hb : 0 ≤ b ∧ b < 256) : iOr .u16 (u16 a) (iShl .u16 (u16 b) 8) = a + 256 * b := by
  have h1 : u16 a = a := by rw [u16_def]; omega
  have h2 : u16 b = b := by rw [u16_def]; omega
  have h3 : ((2 ^ IntKind.u16.bits : Nat) : Int) = 65536 := by decide
  have h4 : ((2 ^ 8 : Nat) : Int) = 256 := by decide
  rw [h1, h2, show (8 : Int) = ((8 : Nat) : Int) from rfl, iShl_u rfl (by decide) hb.1, h3, h4, Int.emod_eq_of_lt (by omega) (by omega)]
  have := iOr_add (k := .u16) (a := a) (b := b) (m := 8) rfl ha.1 (by rw [h4]; omega) hb.1 (by rw [h3, h4]; omega)
  rw [h4] at this
  rw [this]; omega
theorem u8_rd {xs : List Int} (h : inR .u8 xs) {i : Nat} (hi : i < xs.length) : 0 ≤ rd xs (i : Int) ∧ rd xs (i : Int) < 256 := by
  have h0 := h xs[i] (List.getElem_mem hi)
  have h1 : IntKind.u8.min = 0 := by decide
  have h2 : IntKind.u8.max = 255 := by decide
  rw [h1, h2] at h0
  rw [rd_nat xs i hi]; omega
theorem smp_i32 {xs : List Int} (hx : inR .u8 xs) {size i : Nat} (hs : size = 1 ∨ size = 2) (hi : i + size ≤ xs.length) : IntKind.i32.min ≤ smp xs size i ∧ smp xs size i ≤ IntKind.i32.max := by
  have h1 : IntKind.i32.min = -2147483648 := by decide
  have h2 : IntKind.i32.max = 2147483647 := by decide
  have := (smp_rg hx hs hi).2
  rw [h1, h2]; omega
section
variable {w0 w : World} {F : List It}
theorem may_any {n b : Int} : Calls P n_tracks_may #[.int .i64 n, .int .i64 b] w (fun e w' => e = .returned (.bool (decide (1 ≤ n ∧ n ≤ 8 ∧ (b = 8 ∨ b = 16)))) ∧ w' = w) := by
  refine of_tracks_may (gIf_dec (fun h1 => gIf_dec (fun h2 => gIf_neqq (fun h3 => ⟨?_, rfl⟩) (fun h3 => ⟨?_, rfl⟩)) (fun h2 => ⟨?_, rfl⟩)) (fun h1 => ⟨?_, rfl⟩))
  · have : (b == 16) = decide (1 ≤ n ∧ n ≤ 8 ∧ (b = 8 ∨ b = 16)) := by
      by_cases h4 : b = 16
      · subst h4; rw [decide_eq_true (by omega)]; rfl
      · rw [decide_eq_false (by omega)]; simp [h4]
    rw [this]
  · rw [decide_eq_true (by omega)]
  · rw [decide_eq_false (by omega)]
  · rw [decide_eq_false (by omega)]
theorem Fr.nils (f : Fr w0 w F) : ∀ n, Fr w0 w ((List.replicate n (oIt .i32 eI (.slice none 0 0) [])) ++ F)
  | 0 => f
  | n + 1 => by rw [List.replicate_succ]; exact (Fr.nils f n).nil0 .i32 eI
/-- Tracks that a call hands back. -/
def SplitE (w : World) (xss : List (List Int)) (e : Ending) (w' : World) : Prop := ∃ v T, e = .returned (.tuple #[v, .int .i64 0]) ∧ T.map (·.2) = xss ∧ Fr w w' (trF v T)
theorem Split_any {b0 : Value} {xs : List Int} {ch size n : Nat} (hb : Nm .u8 w b0 xs) (hc1 : 1 ≤ ch) (hc8 : ch ≤ 8) (hs : size = 1 ∨ size = 2) (hlen : xs.length = n * (ch * size)) (hl : xs.length ≤ 1000000000) :
    Calls P n_tracks_Split #[b0, .int .i64 (ch : Int), .int .i64 ((8 * size : Nat) : Int)] w (SplitE w (splitN xs ch size (n * ch))) := by
  have hsz : i64 (Int.tdiv ((8 * size : Nat) : Int) 8) = (size : Int) := by
    rcases hs with rfl | rfl
    · decide +kernel
    · decide +kernel
  have hcs : i64 ((ch : Int) * (size : Int)) = ((ch * size : Nat) : Int) := by
    have : ch * size ≤ 8 * 2 := Nat.mul_le_mul hc8 (by omega)
    rw [← Int.natCast_mul, i64_id (by omega) (by omega)]
  have hcs1 : 1 ≤ ch * size := Nat.mul_le_mul hc1 (show 1 ≤ size by omega)
  refine of_tracks_Split (gCall_b0 may_any ?_)
  rw [decide_eq_true (by omega), hsz, hcs]
  refine gIf_nt (gLen_nm hb (gBin_rem (by omega) ?_))
  have hmod : Int.tmod ((xs.length : Nat) : Int) ((ch * size : Nat) : Int) = 0 := by
    rw [Int.tmod_eq_emod_of_nonneg (by omega), hlen, ← Int.natCast_emod, Nat.mul_mod_left]; rfl
  rw [hmod]
  refine gIf_neq (fun h => (h rfl).elim) (fun _ => ?_)
  have hnil : oIt .i32 eI (.slice none 0 0) [] = (fun u : Value × List Int => oIt .i32 eI u.1 u.2) (.slice none 0 0, []) := rfl
  refine fMakeR 24 (.slice none 0 0) (sz := 1) ((Fr.start w).nils ch) (by omega) (by unfold maxLen; omega) (fun t27 w2 f2 => ?_) (by kernel_rfl)
  have f2 : Fr w w2 (trF t27 (List.replicate ch (.slice none 0 0, []))) := by
    have e1 : (madeCells (Value.slice none 0 0).cells (ch * 1)).toList = List.replicate ch (Value.slice none 0 0) := by
      rw [show (Value.slice none 0 0).cells = #[Value.slice none 0 0] from rfl, Nat.mul_one, toList_madeCells_one]
    rw [e1, List.append_nil] at f2
    unfold trF
    rw [List.length_replicate, List.map_replicate, List.map_replicate]
    exact f2
  refine ⟨fun i w' => ∃ (t : Nat) (T : List (Value × List Int)), i = ((t * size : Nat) : Int) ∧ t ≤ n * ch ∧ T.map (·.2) = splitN xs ch size t ∧ Fr w w' (trF t27 T), fun i _ => (xs.length - i).toNat, ⟨0, _, by rw [Nat.zero_mul]; rfl, Nat.zero_le _, ?_, f2⟩, ?_⟩
  · rw [List.map_replicate]
    refine List.ext_getElem (by rw [List.length_replicate, splitN_len]) fun k h1 h2 => ?_
    have hk : k < ch := by rw [List.length_replicate] at h1; exact h1
    simp only [splitN, List.getElem_map, List.getElem_range, List.getElem_replicate]
    unfold trackN
    rw [cntT_0 hk]; rfl
  rintro _ i w3 ⟨t, T, rfl, ht, hT, f3⟩
  have hTl : T.length = ch := by have := congrArg List.length hT; rwa [List.length_map, splitN_len] at this
  have htot : n * ch * size = n * (ch * size) := Nat.mul_assoc _ _ _
  refine gLen_nm (hb.ev f3.old) (gIf_dec (fun hlt => ?_) (fun hge => ?_))
  · have htn : t < n * ch := by
      refine Decidable.byContradiction fun hc => ?_
      have := Nat.mul_le_mul_right size (show n * ch ≤ t by omega)
      omega
    have hts : t * size + size ≤ xs.length := by
      have := Nat.mul_le_mul_right size htn
      rw [Nat.succ_mul] at this; omega
    refine gGet (hb.ev f3.old) (by omega) (by omega) ?_
    refine ⟨fun v w' => v = smp xs size (t * size) ∧ Fr w w' (trF t27 T), gIf_eq (fun e => ?_) (fun e => ⟨?_, f3⟩), ?_⟩
    · have h2 : size = 2 := by omega
      have i1 : i64 (((t * size : Nat) : Int) + 1) = ((t * size + 1 : Nat) : Int) := by rw [i64_id (by omega) (by omega)]; rfl
      rw [i1]
      refine gGetB (hb.ev f3.old) (by omega) (by omega) (fun _ h => evDrew h) (gGetB (hb.ev f3.old) (by omega) (by omega) (fun _ h => evDrew h) ⟨?_, f3.drew⟩)
      rw [two_bytes (u8_rd hb.2 (by omega)) (u8_rd hb.2 (by omega))]
      unfold smp
      rw [if_pos h2]
      have := (show -32768 ≤ i16 (rd xs ((t * size : Nat) : Int) + 256 * rd xs ((t * size + 1 : Nat) : Int)) ∧ i16 (rd xs ((t * size : Nat) : Int) + 256 * rd xs ((t * size + 1 : Nat) : Int)) < 32768 by rw [i16_def]; omega)
      rw [i32_def]; omega
    · have h1 : size = 1 := by omega
      unfold smp
      rw [if_neg (by omega)]
      have := u8_rd hb.2 (show t * size < xs.length by omega)
      rw [i32_def, i32_def]; omega
    rintro _ v w4 ⟨rfl, f4⟩
    have hm := Nat.mod_lt t (show 0 < ch by omega)
    refine gBin_quo (by omega) ?_
    have hq : IntKind.i64.wrap (Int.tdiv ((t * size : Nat) : Int) (size : Int)) = (t : Int) := by
      rw [Int.tdiv_eq_ediv_of_nonneg (by omega), ← Int.natCast_ediv, Nat.mul_div_cancel _ (by omega)]
      show i64 _ = _
      have : t ≤ t * size := Nat.le_mul_of_pos_right _ (by omega)
      rw [i64_id (by omega) (by omega)]
    rw [hq]
    refine gBin_rem (by omega) ?_
    have hr : Int.tmod (t : Int) (ch : Int) = ((t % ch : Nat) : Int) := by rw [Int.tmod_eq_emod_of_nonneg (by omega), Int.natCast_emod]
    rw [hr]
    have hkT : t % ch < T.length := by omega
    have hTk : T[t % ch].2 = trackN xs ch size t (t % ch) := by
      have h0 : (T.map (·.2))[t % ch]'(by rw [List.length_map]; exact hkT) = T[t % ch].2 := List.getElem_map _
      rw [← h0]
      simp only [hT, splitN, List.getElem_map, List.getElem_range]
    have hbd : (trackN xs ch size t (t % ch)).length ≤ t := by
      unfold trackN; rw [tab_len, cntT_mod (by omega)]; exact Nat.div_le_self _ _
    refine gIdx_1 (f4.row 0 rfl) (by omega) (by rw [← hTl] at hm; omega) fun ad u hu hcl _ => gLoad_v hcl ?_
    have hue : u = T[t % ch].1 := by
      rw [Int.toNat_natCast, List.getElem?_map, List.getElem?_eq_getElem hkT] at hu
      simpa using hu.symm
    subst hue
    have hsr := smp_i32 hb.2 hs hts
    refine fLit_n [smp xs size (t * size)] f4 rfl rfl (fun x hx => by rw [List.mem_singleton.1 hx]; exact hsr) fun l5 w5 f5 => ?_
    have hget : (oIt .i32 (elOf P t_sl_int32) l5 [smp xs size (t * size)] :: trF t27 T)[t % ch + 2]? = some (oIt .i32 (elOf P t_sl_int32) T[t % ch].1 T[t % ch].2) := by
      unfold trF
      rw [List.getElem?_cons_succ, List.getElem?_cons_succ, List.getElem?_map, List.getElem?_eq_getElem hkT]; rfl
    refine fApp f5 (t % ch + 2) hget (f5.nm 0 rfl) (by rw [hTk]; simp only [List.length_cons, List.length_nil]; have : t ≤ t * size := Nat.le_mul_of_pos_right _ (by omega); omega) fun v6 w6 f6 => ?_
    have f6 : Fr w w6 (oIt .i32 eI l5 [smp xs size (t * size)] :: rIt eT 1 t27 T.length (T.map (·.1)) :: (T.map fun u => oIt .i32 eI u.1 u.2).set (t % ch) (oIt .i32 eI v6 (T[t % ch].2 ++ [smp xs size (t * size)]))) := f6
    have on6 := f6.get (t % ch + 2) (it := oIt .i32 eI v6 (T[t % ch].2 ++ [smp xs size (t * size)])) (by rw [List.getElem?_cons_succ, List.getElem?_cons_succ, List.getElem?_set_self (by rw [List.length_map]; exact hkT)])
    have f6 := f6.drop 0
    have ho6 : w6.ownsRow 0 eT 1 t27 T.length (T.map (·.1)) := f6.get 0 rfl
    refine gIdx_r ho6 rfl hkT fun ad2 hs2 => fStoreR1 f6 0 rfl hs2 hkT (by obtain ⟨a, c, rfl, _⟩ := (ON.nm on6).shape; rfl) (by obtain ⟨a, c, rfl, _⟩ := (ON.nm on6).shape; rfl) fun w7 f7 => ?_
    have f7 : Fr w w7 (trF t27 (T.set (t % ch) (v6, T[t % ch].2 ++ [smp xs size (t * size)]))) := by
      unfold trF
      rw [List.length_set, List.map_set, List.map_set]; exact f7
    refine ⟨⟨t + 1, _, ?_, htn, ?_, f7⟩, ?_⟩
    · rw [i64_id (by omega) (by omega), Nat.succ_mul]; omega
    · rw [List.map_set, hT, splitN_step (by omega), hTk]
    · dsimp only; rw [i64_id (by omega) (by omega)]; omega
  · have htn : t = n * ch := by
      refine Decidable.byContradiction fun hc => ?_
      have := Nat.mul_le_mul_right size (show t + 1 ≤ n * ch by omega)
      rw [Nat.succ_mul] at this
      omega
    subst htn
    exact ⟨t27, T, rfl, hT, f3⟩
end
end Go.Proofs.YtilpoinhfiajcaaGreatDoorV

/- Package tracks: Join. -/
namespace Go.Proofs.YtilpoinhfiajcaaGreatDoorV
open Go Go.RowKit
def topM (size : Nat) : Int := if size = 2 then 32768 else 128
def inRg (m : Int) (l : List Int) : Bool := l.all fun v => decide (-m ≤ v ∧ v < m)
def joinE (size : Nat) (xss : List (List Int)) (n : Nat) : List Int × Int := if xss.all (inRg (topM size)) = true then (joinN size xss n, 0) else ([], 4)
theorem inRg_iff {m : Int} {l : List Int} : inRg m l = true ↔ ∀ q : Nat, q < l.length → -m ≤ rd l (q : Int) ∧ rd l (q : Int) < m := by
  unfold inRg
  rw [List.all_eq_true]
  refine ⟨fun h q hq => ?_, fun h x hx => ?_⟩
  · have := h l[q] (List.getElem_mem hq)
    rw [rd_nat l q hq]; simpa using this
  · obtain ⟨q, hq, rfl⟩ := List.mem_iff_getElem.1 hx
    have := h q hq
    rw [rd_nat l q hq] at this
    simpa using this
section
variable {w0 w : World}
theorem Join_any {p : Value} {us : List Value} {xss : List (List Int)} {size n : Nat} (hp : Sl w 1 p us.length us) (hl : us.length = xss.length) (hu : ∀ (i : Nat) (u : Value) (xs : List Int), us[i]? = some u → xss[i]? = some xs → Nm .i32 w u xs)
    (h1 : 1 ≤ us.length) (h8 : us.length ≤ 8) (hs : size = 1 ∨ size = 2) (hn : ∀ xs ∈ xss, xs.length = n) (hb : n ≤ 100000000) : Calls P n_tracks_Join #[.int .i64 ((8 * size : Nat) : Int), p] w (TupE w (joinE size xss n)) := by
  have hM : topM size = 32768 ∨ topM size = 128 := by unfold topM; split <;> omega
  have hsh : iShl .i32 1 (i64 (((8 * size : Nat) : Int) - 1)) = topM size := by
    rcases hs with rfl | rfl
    · decide +kernel
    · decide +kernel
  have hneg : i32 (0 - topM size) = -topM size := by rw [i32_def]; omega
  have hnm : ∀ {k : Nat} (hk : k < us.length), Nm .i32 w us[k] (xss[k]'(by omega)) := fun {k} hk => hu k _ _ (by simp [hk]) (by simp [show k < xss.length by omega])
  have hnl : ∀ {k : Nat} (hk : k < us.length), (xss[k]'(by omega)).length = n := fun {k} hk => hn _ (List.getElem_mem _)
  have elem : ∀ {k : Nat} (hk : k < us.length) {w' : World} (_ : Ev w w') {K : Value → Prop}, K us[k] → gIdx P t_sl_sl_int32 p (.int .i64 (k : Int)) fun ad => gLoad P t_sl_int32 shV (.pointer (some ad)) w' K := fun {k} hk {w'} he {K} h => by
    refine gIdx_1 (hp.ev he) (by omega) (by omega) fun a u hua hc _ => gLoad_v hc ?_
    have hue : u = us[k] := by
      rw [Int.toNat_natCast, List.getElem?_eq_getElem hk] at hua; injection hua with hua; exact hua.symm
    rw [hue]; exact h
  have fail : ∀ {w'}, Ev w w' → ¬ (xss.all (inRg (topM size)) = true) → TupE w (joinE size xss n) (.returned (.tuple #[.slice none 0 0, .int .i64 4])) w' := fun he hbad => by
    unfold joinE; rw [if_neg hbad]; exact ⟨_, rfl, he, ON.nil _ _ _ _⟩
  refine of_tracks_Join (gLen_slv hp (gCall_b0 may_any ?_))
  rw [decide_eq_true (by omega)]
  refine gIf_nt (gBin_shl (by rcases hs with rfl | rfl <;> decide +kernel) ?_)
  rw [hsh, hneg]
  refine gLen_slv hp ⟨fun i w' => ∃ k : Nat, i = (k : Int) ∧ k ≤ us.length ∧ (∀ (j : Nat) (xs : List Int), j < k → xss[j]? = some xs → inRg (topM size) xs = true) ∧ w' = w, fun i _ => (us.length - i).toNat, ⟨0, rfl, Nat.zero_le _, fun j _ hj => by omega, rfl⟩, ?_⟩
  rintro _ i w1 ⟨k, rfl, hk, hall, hw⟩
  obtain rfl : w = w1 := hw.symm
  refine gIf_dec (fun hlt => ?_) (fun hge => ?_)
  · have hkl : k < us.length := by omega
    refine elem hkl (Ch.refl _ _) (gLen_nm (hnm hkl) (elem (k := 0) (by omega) (Ch.refl _ _) (gLen_nm (hnm (show 0 < us.length by omega)) (gIf_neq (fun hne => absurd (by rw [hnl hkl, hnl (show 0 < us.length by omega)]) hne) (fun _ => gLen_nm (hnm hkl) ?_)))))
    rw [hnl hkl]
    refine ⟨fun j w' => ∃ q : Nat, j = (q : Int) ∧ q ≤ n ∧ (∀ r : Nat, r < q → -topM size ≤ rd (xss[k]'(by omega)) (r : Int) ∧ rd (xss[k]'(by omega)) (r : Int) < topM size) ∧ w' = w, fun j _ => (n - j).toNat, ⟨0, rfl, Nat.zero_le _, fun r hr => by omega, rfl⟩, ?_⟩
    rintro _ j w2 ⟨q, rfl, hq, hok, hw2⟩
    obtain rfl : w = w2 := hw2.symm
    have hbad : ∀ {r : Nat}, r < n → ¬ (-topM size ≤ rd (xss[k]'(by omega)) (r : Int) ∧ rd (xss[k]'(by omega)) (r : Int) < topM size) → ¬ (xss.all (inRg (topM size)) = true) := fun {r} hr hno ha => by
      have := inRg_iff.1 (List.all_eq_true.1 ha _ (List.getElem_mem (show k < xss.length by omega))) r (by rw [hnl hkl]; exact hr)
      exact hno this
    refine gIf_dec (fun hlt2 => ?_) (fun hge2 => ?_)
    · have hqn : q < n := by omega
      refine gGet (hnm hkl) (by omega) (by rw [hnl hkl]; omega) (gIf_ndec (fun ha => gIf_dec (fun hb2 => fail (Ch.refl _ _) (hbad hqn (by omega))) (fun hb2 => ?_)) (fun ha => fail (Ch.refl _ _) (hbad hqn (by omega))))
      refine ⟨⟨q + 1, by rw [i64_id (by omega) (by omega)]; omega, hqn, fun r hr => ?_, rfl⟩, by dsimp only; rw [i64_id (by omega) (by omega)]; omega⟩
      rcases Nat.lt_or_ge r q with h | h
      · exact hok r h
      · obtain rfl : r = q := by omega
        omega
    · obtain rfl : q = n := by omega
      refine ⟨⟨k + 1, by rw [i64_id (by omega) (by omega)]; omega, hkl, fun j xs hj hx => ?_, rfl⟩, by dsimp only; rw [i64_id (by omega) (by omega)]; omega⟩
      rcases Nat.lt_or_ge j k with h | h
      · exact hall j xs h hx
      · obtain rfl : j = k := by omega
        rw [List.getElem?_eq_getElem (by omega)] at hx
        injection hx with hx; subst hx
        exact inRg_iff.2 fun r hr => hok r (by rw [hnl hkl] at hr; exact hr)
  · obtain rfl : k = us.length := by omega
    have hgood : xss.all (inRg (topM size)) = true := List.all_eq_true.2 fun xs hx => by
      obtain ⟨j, hj⟩ := List.mem_iff_getElem?.1 hx
      exact hall j xs (by rw [hl]; exact (List.getElem?_eq_some_iff.1 hj).1) hj
    have hres : joinE size xss n = (joinN size xss n, 0) := by unfold joinE; rw [if_pos hgood]
    rw [hres]
    refine elem (k := 0) (by omega) (Ch.refl _ _) (gLen_nm (hnm (show 0 < us.length by omega)) ?_)
    rw [hnl (show 0 < us.length by omega)]
    refine ⟨fun out i w' => ∃ k : Nat, i = (k : Int) ∧ k ≤ n ∧ Fr w w' [oIt .u8 eB out (joinN size xss k)], fun _ i _ => (n - i).toNat, ⟨0, rfl, Nat.zero_le _, (Fr.start w).nil0 .u8 eB⟩, ?_⟩
    rintro _ out i w2 ⟨k, rfl, hkn, f2⟩
    refine gIf_dec (fun hlt => ?_) (fun hge => ?_)
    · have hkn' : k < n := by omega
      refine gLen_slv (hp.ev f2.old) ⟨fun out i w' => ∃ j : Nat, i = (j : Int) ∧ j ≤ us.length ∧ Fr w w' [oIt .u8 eB out (joinN size xss k ++ ((xss.take j).map fun l => smpB size (rd l (k : Int))).flatten)], fun _ i _ => (us.length - i).toNat, ⟨0, rfl, Nat.zero_le _, by simpa using f2⟩, ?_⟩
      rintro _ out i w3 ⟨j, rfl, hj, f3⟩
      refine gIf_dec (fun hlt3 => ?_) (fun hge3 => ?_)
      · have hjl : j < us.length := by omega
        have hjx : j < xss.length := by omega
        have hnx := (joinN size xss k ++ ((xss.take j).map fun l => smpB size (rd l (k : Int))).flatten)
        have hlen : (joinN size xss k ++ ((xss.take j).map fun l => smpB size (rd l (k : Int))).flatten).length ≤ 3200000000 := by
          have h3 : ∀ ls : List (List Int), ((ls.map fun l => smpB size (rd l (k : Int))).flatten).length = ls.length * size := by
            intro ls
            induction ls with
            | nil => simp
            | cons l ls ih => rw [List.map_cons, List.flatten_cons, List.length_append, ih, smpB_len hs, List.length_cons, Nat.succ_mul]; omega
          have h5 : xss.length * size ≤ 8 * 2 := Nat.mul_le_mul (by omega) (by omega)
          have h6 : k * (xss.length * size) ≤ 100000000 * 16 := Nat.mul_le_mul (by omega) (by omega)
          have h7 : (xss.take j).length * size ≤ 8 * 2 := Nat.mul_le_mul (by rw [List.length_take]; omega) (by omega)
          rw [List.length_append, join_len hs, h3]; omega
        have hnext : joinN size xss k ++ ((xss.take (j + 1)).map fun l => smpB size (rd l (k : Int))).flatten = joinN size xss k ++ ((xss.take j).map fun l => smpB size (rd l (k : Int))).flatten ++ smpB size (rd xss[j] (k : Int)) := by
          rw [List.take_succ_eq_append_getElem hjx, List.map_append, List.flatten_append]; simp
        refine elem hjl f3.old (gIf_eq (fun e => ?_) (fun e => ?_))
        · have hs1 : size = 1 := by omega
          refine gGet ((hnm hjl).ev f3.old) (by omega) (by rw [hnl hjl]; omega) ?_
          have hb8 : u8 (i32 (rd xss[j] (k : Int) + 128)) = u8 (rd xss[j] (k : Int) + 128) := by rw [i32_def, u8_def, u8_def]; omega
          rw [hb8]
          refine fLit_n [u8 (rd xss[j] (k : Int) + 128)] f3 rfl rfl (fun x hx => by rw [List.mem_singleton.1 hx, u8_def]; exact u8i (by omega)) fun l4 w4 f4 => fApp f4 1 rfl (f4.nm 0 rfl) (by simp only [List.length_cons, List.length_nil]; omega) fun v5 w5 f5 => ⟨⟨j + 1, by rw [i64_id (by omega) (by omega)]; omega, hjl, ?_⟩, by dsimp only; rw [i64_id (by omega) (by omega)]; omega⟩
          have e1 : smpB size (rd xss[j] (k : Int)) = [u8 (rd xss[j] (k : Int) + 128)] := by unfold smpB; rw [if_neg (by omega)]
          rw [hnext, e1]
          exact f5.drop 0
        · have hs2 : size = 2 := by omega
          refine ⟨fun w' => Ev w w', f3.drew.old, gGetB (hnm hjl) (by omega) (by rw [hnl hjl]; omega) (fun _ h => h) (gGetB (hnm hjl) (by omega) (by rw [hnl hjl]; omega) (fun _ h => h) ?_)⟩
          rw [iShr8]
          refine fLit_n [u8 (rd xss[j] (k : Int)), u8 (rd xss[j] (k : Int) / 256)] f3.drew rfl rfl (fun x hx => by
            simp only [List.mem_cons, List.not_mem_nil, or_false] at hx
            rcases hx with rfl | rfl <;> rw [u8_def] <;> exact u8i (by omega)) fun l4 w4 f4 => ⟨f4.old, fApp f4 1 rfl (f4.nm 0 rfl) (by simp only [List.length_cons, List.length_nil]; omega) fun v5 w5 f5 => ⟨f5.old, ⟨j + 1, by rw [i64_id (by omega) (by omega)]; omega, hjl, ?_⟩, by dsimp only; rw [i64_id (by omega) (by omega)]; omega⟩⟩
          have e1 : smpB size (rd xss[j] (k : Int)) = [u8 (rd xss[j] (k : Int)), u8 (rd xss[j] (k : Int) / 256)] := by unfold smpB; rw [if_pos hs2]
          rw [hnext, e1]
          exact f5.drop 0
      · obtain rfl : j = us.length := by omega
        rw [List.take_of_length_le (by omega), ← joinN_succ] at f3
        exact ⟨⟨k + 1, by rw [i64_id (by omega) (by omega)]; omega, hkn', f3⟩, by dsimp only; rw [i64_id (by omega) (by omega)]; omega⟩
    · obtain rfl : k = n := by omega
      exact ⟨out, rfl, f2.old, f2.on 0 rfl⟩
end
end Go.Proofs.YtilpoinhfiajcaaGreatDoorV

/- Package bits: what is written. -/
namespace Go.Proofs.YtilpoinhfiajcaaGreatDoorV
open Go Go.RowKit

/-- A bit of bytes, the highest of each first. -/
def bitAt (xs : List Int) (k : Nat) : Int := rd xs ((k / 8 : Nat) : Int) / ((2 ^ (7 - k % 8) : Nat) : Int) % 2
theorem bitAt_01 (xs : List Int) (k : Nat) : bitAt xs k = 0 ∨ bitAt xs k = 1 := by unfold bitAt; omega
theorem bitAt_test {xs : List Int} (hx : inR .u8 xs) (k : Nat) : bitAt xs k = (if (rd xs ((k / 8 : Nat) : Int)).toNat.testBit (7 - k % 8) then 1 else 0) := by
  have h := rd_u8 hx ((k / 8 : Nat) : Int)
  unfold bitAt
  obtain ⟨a, ha⟩ := Int.eq_ofNat_of_zero_le h.1
  rw [ha, Int.toNat_natCast, ← Int.natCast_ediv, Nat.testBit_eq_decide_div_mod_eq]
  generalize a / 2 ^ (7 - k % 8) = q
  have : q % 2 = 0 ∨ q % 2 = 1 := by omega
  rcases this with h | h
  · rw [h, show (q : Int) % 2 = 0 by omega]; rfl
  · rw [h, show (q : Int) % 2 = 1 by omega]; rfl
/-- Bytes that are those of bits, with zeros behind. -/
def Packs (xs : List Int) (bs : List Int) : Prop := xs.length = (bs.length + 7) / 8 ∧ ∀ k, k < 8 * xs.length → bitAt xs k = bs.getD k 0
theorem Packs.nil : Packs [] [] := ⟨rfl, fun k h => by simp at h⟩
theorem byte_ext {a b : Int} (ha : 0 ≤ a ∧ a < 256) (hb : 0 ≤ b ∧ b < 256) (h : ∀ i, i < 8 → a.toNat.testBit i = b.toNat.testBit i) : a = b := by
  have : a.toNat = b.toNat := by
    apply Nat.eq_of_testBit_eq
    intro i
    by_cases hi : i < 8
    · exact h i hi
    · have h8 : 2 ^ 8 ≤ 2 ^ i := Nat.pow_le_pow_right (by decide) (by omega)
      rw [Nat.testBit_lt_two_pow (by omega : a.toNat < 2 ^ i), Nat.testBit_lt_two_pow (by omega : b.toNat < 2 ^ i)]
  omega
theorem Packs.uniq {xs ys bs : List Int} (hx : inR .u8 xs) (hy : inR .u8 ys) (h : Packs xs bs) (h2 : Packs ys bs) : xs = ys := by
  have hl : xs.length = ys.length := h.1.trans h2.1.symm
  refine List.ext_getElem hl fun j h1 h3 => ?_
  rw [← rd_nat xs j h1, ← rd_nat ys j h3]
  refine byte_ext (rd_u8 hx _) (rd_u8 hy _) fun i hi => ?_
  have e1 := h.2 (8 * j + (7 - i)) (by omega)
  have e2 := h2.2 (8 * j + (7 - i)) (by omega)
  rw [← e2, bitAt_test hx, bitAt_test hy, show (8 * j + (7 - i)) / 8 = j by omega, show 7 - (8 * j + (7 - i)) % 8 = i by omega] at e1
  split at e1 <;> split at e1 <;> simp_all
/-- A writer: its bytes, and how many bits. -/
def Wb (w : World) (ad : Addr) (v : Value) (bs : List Int) : Prop := ∃ xs, St w ad [v, .int .i64 bs.length] ∧ ON .u8 eB w 0 v xs ∧ v.ownBlock ≠ some ad.block ∧ Packs xs bs
theorem Wb.ch {S : SS} {w w' : World} {ad : Addr} {v : Value} {bs : List Int} (h : Wb w ad v bs) (hc : Ch S w w') (hs : ∀ k i, Ft ad v k i → ¬ S k i) : Wb w' ad v bs := by
  obtain ⟨xs, h1, h2, h3, h4⟩ := h
  exact ⟨xs, h1.ch hc fun _ _ => hs _ _ (.inl rfl), h2.ch hc fun g i hg => hs g i (.inr hg), h3, h4⟩
theorem Wb.ev {w w' : World} {ad : Addr} {v : Value} {bs : List Int} (h : Wb w ad v bs) (hc : Ev w w') : Wb w' ad v bs := h.ch hc fun _ _ _ h => h
def WbS (w w' : World) (ad : Addr) (v v' : Value) (bs : List Int) : Prop := Wb w' ad v' bs ∧ Ch (Ft ad v) w w' ∧ Moved w v v'
theorem Wb.step {w : World} {ad : Addr} {v : Value} {bs : List Int} (h : Wb w ad v bs) : WbS w w ad v v bs := ⟨h, Ch.refl _ w, .inl rfl⟩
theorem WbS.trans {w w1 w2 : World} {ad : Addr} {v v1 v2 : Value} {xs ys : List Int} (h : WbS w w1 ad v v1 xs) (h2 : WbS w1 w2 ad v1 v2 ys) : WbS w w2 ad v v2 ys := by
  refine ⟨h2.1, Ch.trans h.2.1 h2.2.1 fun n i hn hf => ?_, h.2.2.trans h2.2.2 h.2.1.size⟩
  rcases hf with hf | hf
  · exact .inl hf
  · rcases h.2.2 with hm | hm
    · exact .inr (hm ▸ hf)
    · have := hm n hf; omega
def bitI (v : Int) : Int := if v ≠ 0 then 1 else 0
theorem rd_set {xs : List Int} {i : Nat} {x : Int} (hi : i < xs.length) (j : Nat) : rd (xs.set i x) (j : Int) = if j = i then x else rd xs j := by
  unfold rd
  rw [Int.toNat_natCast, List.getD_eq_getElem?_getD, List.getD_eq_getElem?_getD, List.getElem?_set]
  by_cases h : j = i
  · subst h; simp [hi]
  · rw [if_neg (fun e => h e.symm), if_neg h]
theorem rd_app (xs ys : List Int) (j : Nat) : rd (xs ++ ys) (j : Int) = if j < xs.length then rd xs j else rd ys ((j - xs.length : Nat) : Int) := by
  unfold rd
  rw [Int.toNat_natCast, Int.toNat_natCast, List.getD_eq_getElem?_getD, List.getD_eq_getElem?_getD, List.getD_eq_getElem?_getD, List.getElem?_append]
  split <;> rfl
theorem getD_app (bs : List Int) (b : Int) (k : Nat) : (bs ++ [b]).getD k 0 = if k = bs.length then b else bs.getD k 0 := by
  rw [List.getD_eq_getElem?_getD, List.getD_eq_getElem?_getD, List.getElem?_append]
  split
  · rw [if_neg (by omega)]
  · split
    · subst_vars; simp
    · rw [List.getElem?_eq_none (by simp; omega), List.getElem?_eq_none (by omega)]
/-- A byte of zeros behind. -/
theorem Packs.grow {xs bs : List Int} (h : Packs xs bs) (h0 : bs.length % 8 = 0) (k : Nat) : bitAt (xs ++ [0]) k = bs.getD k 0 := by
  have hl := h.1
  unfold bitAt
  rw [rd_app]
  split
  · exact h.2 k (by omega)
  · have : rd [(0 : Int)] ((k / 8 - xs.length : Nat) : Int) = 0 := by
      unfold rd
      rw [Int.toNat_natCast]
      cases k / 8 - xs.length <;> simp
    rw [this, List.getD_eq_getElem?_getD, List.getElem?_eq_none (by omega)]; simp
theorem bit_or {a : Int} {r : Nat} (ha : 0 ≤ a ∧ a < 256) (hr : r < 8) : 0 ≤ iOr .u8 a (iShr .u8 128 r) ∧ iOr .u8 a (iShr .u8 128 r) < 256 ∧ ∀ i, (iOr .u8 a (iShr .u8 128 r)).toNat.testBit i = (a.toNat.testBit i || decide (i = 7 - r)) := by
  have e1 : iShr .u8 128 r = ((2 ^ (7 - r) : Nat) : Int) := by
    have : ∀ r : Nat, r < 8 → iShr .u8 128 r = ((2 ^ (7 - r) : Nat) : Int) := by decide
    exact this r hr
  have hp : 2 ^ (7 - r) < 256 := Nat.lt_of_le_of_lt (Nat.pow_le_pow_right (by decide) (show 7 - r ≤ 7 by omega)) (by decide)
  obtain ⟨a, rfl⟩ := Int.eq_ofNat_of_zero_le ha.1
  rw [e1, iOr_nat rfl (by rw [bits8]; omega) (by rw [bits8]; exact hp)]
  have hlt : a ||| 2 ^ (7 - r) < 2 ^ 8 := Nat.or_lt_two_pow (by omega) hp
  refine ⟨by omega, by omega, fun i => ?_⟩
  rw [Int.toNat_natCast, Int.toNat_natCast, Nat.testBit_or, Nat.testBit_two_pow]
  congr 1
  simp [eq_comm]
theorem Packs.set {ys bs : List Int} (hy : inR .u8 ys) (hl : ys.length = (bs.length + 1 + 7) / 8) (hb : ∀ k, k < 8 * ys.length → bitAt ys k = bs.getD k 0) :
    Packs (ys.set (bs.length / 8) (iOr .u8 (rd ys ((bs.length / 8 : Nat) : Int)) (iShr .u8 128 ((bs.length % 8 : Nat) : Int)))) (bs ++ [1]) ∧ inR .u8 (ys.set (bs.length / 8) (iOr .u8 (rd ys ((bs.length / 8 : Nat) : Int)) (iShr .u8 128 ((bs.length % 8 : Nat) : Int)))) := by
  have hi : bs.length / 8 < ys.length := by omega
  obtain ⟨h1, h2, h3⟩ := bit_or (rd_u8 hy ((bs.length / 8 : Nat) : Int)) (r := bs.length % 8) (by omega)
  have hr : inR .u8 (ys.set (bs.length / 8) (iOr .u8 (rd ys ((bs.length / 8 : Nat) : Int)) (iShr .u8 128 ((bs.length % 8 : Nat) : Int)))) := fun x hx => by
    rcases List.mem_or_eq_of_mem_set hx with hx | rfl
    · exact hy x hx
    · exact u8i ⟨h1, h2⟩
  refine ⟨⟨by simpa using hl, fun k hk => ?_⟩, hr⟩
  rw [List.length_set] at hk
  have hbk := hb k hk
  rw [bitAt_test hy] at hbk
  rw [bitAt_test hr, rd_set hi, getD_app]
  by_cases hk8 : k / 8 = bs.length / 8
  · rw [if_pos hk8, h3, ← hk8]
    by_cases e : k = bs.length
    · rw [if_pos e, e]; simp
    · rw [if_neg e, ← hbk, decide_eq_false (show ¬ 7 - k % 8 = 7 - bs.length % 8 by omega), Bool.or_false]
  · rw [if_neg hk8, hbk, if_neg (fun e => hk8 (by rw [e]))]
theorem Packs.zero {ys bs : List Int} (hl : ys.length = (bs.length + 1 + 7) / 8) (hb : ∀ k, k < 8 * ys.length → bitAt ys k = bs.getD k 0) : Packs ys (bs ++ [0]) :=
  ⟨by simpa using hl, fun k hk => by
    rw [hb k hk, getD_app]
    split
    · rename_i e; rw [e, List.getD_eq_getElem?_getD, List.getElem?_eq_none (Nat.le_refl _)]; rfl
    · rfl⟩
end Go.Proofs.YtilpoinhfiajcaaGreatDoorV

/- Package bits: the writer's calls. -/
namespace Go.Proofs.YtilpoinhfiajcaaGreatDoorV
open Go Go.RowKit

theorem Bit_any {ad : Addr} {v : Value} {bs : List Int} {b : Int} {w : World} (h : Wb w ad v bs) (hl : bs.length ≤ 10000000000) :
    Calls P n_bits_Writer_Bit #[.pointer (some ad), .int .i64 b] w (fun e w' => e = .returned (.tuple #[]) ∧ ∃ v', WbS w w' ad v v' (bs ++ [bitI b])) := by
  obtain ⟨xs, hS, hO, hv, hP⟩ := h
  have hxl := hP.1
  have et : Int.tmod (bs.length : Int) 8 = ((bs.length % 8 : Nat) : Int) := by rw [Int.tmod_eq_emod_of_nonneg (by omega)]; omega
  have ed : i64 (Int.tdiv (bs.length : Int) 8) = ((bs.length / 8 : Nat) : Int) := by rw [Int.tdiv_eq_ediv_of_nonneg (by omega), i64_id (by omega) (by omega)]; omega
  refine of_bits_Writer_Bit (gEq_pnil (gIf_f ?_))
  refine ⟨fun w' => ∃ v' ys, St w' ad [v', .int .i64 bs.length] ∧ ON .u8 eB w' 0 v' ys ∧ v'.ownBlock ≠ some ad.block ∧ ys.length = (bs.length + 1 + 7) / 8 ∧ (∀ k, k < 8 * ys.length → bitAt ys k = bs.getD k 0) ∧ Ch (Ft ad v) w w' ∧ Moved w v v', ?_, ?_⟩
  · refine gNil_some (gLoad_i (hS.cell (j := 1) rfl) ?_)
    rw [et]
    refine gIf_eq (fun h0 => ?_) (fun h0 => ⟨v, xs, hS, hO, hv, by omega, hP.2, Ch.refl _ w, .inl rfl⟩)
    refine gNil_some (gLoad_v (v := v) (hS.cell (j := 0) rfl) (gLit_n (k := .u8) [0] rfl rfl (by decide) (fun x hx => by simp at hx; subst hx; decide) fun y w1 h1 hy => ?_))
    refine gApp_on (hO.ev h1) hy.nm (by simp; omega) (Nat.zero_le _) fun v2 w2 hO2 hc2 hm2 => gNil_some ?_
    have hS2 : St w2 ad [v, .int .i64 bs.length] := (hS.ev h1).ch hc2 fun _ _ hh => hv hh
    rw [Addr.add_zero']
    refine gStore_st0 hS2 (by simp) (by obtain ⟨a, c, rfl, _⟩ := hO2.nm.shape; rfl) hO2.one fun w3 h3 hs3 hS3 => ?_
    have hlt := hS.lt
    have hv2 : v2.ownBlock ≠ some ad.block := by
      rcases hm2 with h | h
      · rw [h]; exact hv
      · intro hh; have := h _ hh; have := h1.size; omega
    refine ⟨v2, xs ++ [0], by simpa using hS3, hO2.ch h3 fun g i hg hh => hv2 (by rw [hg, hh.1]), hv2, by simp; omega, fun k _ => hP.grow (by omega) k, ?_, ?_⟩
    · refine Ch.trans (Ch.trans (h1.mono fun _ _ _ h => h.elim) (hc2.mono fun _ _ _ h => .inr h) fun _ _ _ h => h) h3 fun n i _ hh => .inl hh.1
    · rcases hm2 with h | h
      · exact .inl h
      · exact .inr fun g hg => Nat.le_trans h1.size (h g hg)
  · rintro _ w4 ⟨v4, ys, hS4, hO4, hv4, hyl, hyb, hc4, hm4⟩
    have hlt : ad.block < w.heap.size := hS.lt
    -- one bit more is counted
    have fin : ∀ {w5 : World} {zs : List Int} {cs : List Int}, St w5 ad [v4, .int .i64 bs.length] → ON .u8 eB w5 0 v4 zs → Packs zs cs → cs.length = bs.length + 1 → Ch (Ft ad v) w w5 →
        gNil (some ad) fun (t43 : Addr) => gLoad P t_int (shI .i64) (.pointer (some (Addr.add t43 1))) w5 fun (t45 : Int) => gNil (some ad) fun (t47 : Addr) => gStore P t_int (.pointer (some (Addr.add t47 1))) (.int .i64 (i64 (t45 + 1))) w5 fun ww6 => (Ending.returned (.tuple #[]) = Ending.returned (.tuple #[]) ∧ ∃ v', WbS w ww6 ad v v' cs) := fun {w5 zs cs} k1 k2 k3 k4 k5 => by
      refine gNil_some (gLoad_i (k1.cell (j := 1) rfl) (gNil_some (gStore_st k1 (j := 1) (by simp) rfl rfl fun w6 h6 _ hS6 => ⟨rfl, v4, ⟨zs, ?_, k2.ch h6 fun g i hg hh => ?_, hv4, k3⟩, Ch.trans k5 h6 fun n i _ hh => ?_, hm4⟩)))
      · have e : i64 ((bs.length : Int) + 1) = ((cs.length : Nat) : Int) := by rw [i64_id (by omega) (by omega)]; omega
        rw [e] at hS6; exact hS6
      · have := hh.1; rw [Addr.add_none hS.1] at this; exact hv4 (by rw [hg, this])
      · have := hh.1; rw [Addr.add_none hS.1] at this; exact .inl this
    refine gIf_neq (fun hb => ?_) (fun hb => ?_)
    · refine ⟨fun w' => St w' ad [v4, .int .i64 bs.length], hS4.drew, gNil_some (gLoadB_v (v := v4) (fun w' h => h.cell (j := 0) rfl) (gNil_some (gLoadB_i (fun w' h => h.cell (j := 1) rfl) ?_)))⟩
      rw [ed]
      have hi : ((bs.length / 8 : Nat) : Int) < ys.length := by omega
      refine gIdx_nm hO4.drew.nm (by omega) hi fun a1 c1 _ => gNil_some (gLoadB_i (fun w' h => h.cell (j := 1) rfl) ?_)
      rw [et]
      refine gBin_shr (by omega) (gLoad_i c1 ⟨hS4.drew, gIdx_on hO4.drew (by omega) hi fun a2 s2 _ => ?_⟩)
      obtain ⟨p1, p2⟩ := Packs.set hO4.2 hyl hyb
      obtain ⟨q1, q2, _⟩ := bit_or (rd_u8 hO4.2 ((bs.length / 8 : Nat) : Int)) (r := bs.length % 8) (by omega)
      refine gStore_on hO4.drew s2 (by omega) hi (u8i ⟨q1, q2⟩) fun w5 h5 _ hO5 => ⟨hS4.drew.ch h5 fun _ _ hh => hv4 hh, ?_⟩
      rw [Int.toNat_natCast] at hO5
      have e1 : bitI b = 1 := by unfold bitI; rw [if_pos hb]
      rw [e1]
      refine fin (hS4.drew.ch h5 fun _ _ hh => hv4 hh) hO5 p1 (by simp) ?_
      refine Ch.trans hc4.drew h5 fun n i hn hh => ?_
      rcases hm4 with h | h
      · exact .inr (h ▸ hh)
      · have := h n hh; omega
    · have e0 : bitI b = 0 := by unfold bitI; rw [if_neg (by simpa using hb)]
      rw [e0]
      exact fin hS4 hO4 (Packs.zero hyl hyb) (by simp) hc4
def cl32 (n : Int) : Nat := (if 32 < n then 32 else n).toNat
theorem cl32_le (n : Int) : cl32 n ≤ 32 := by unfold cl32; split <;> omega
theorem cl32a (n : Int) : (if 0 > (if 32 < n then 32 else n) then 0 else (if 32 < n then 32 else n)) = (cl32 n : Int) := by unfold cl32; split <;> split <;> omega
theorem cl32b (n : Int) : (if (if 32 < n then 32 else n) > 0 then (if 32 < n then 32 else n) else 0) = (cl32 n : Int) := by unfold cl32; split <;> split <;> omega
/-- The lowest bits of a number, the highest of them first. -/
def bitsL (v : Int) : Nat → List Int
  | 0 => []
  | k + 1 => v / ((2 ^ k : Nat) : Int) % 2 :: bitsL v k
theorem bitsL_len (v : Int) : ∀ k, (bitsL v k).length = k
  | 0 => rfl
  | k + 1 => by simp [bitsL, bitsL_len v k]
theorem and1 {x : Int} (h : 0 ≤ x ∧ x < 4294967296) : i64 (iAnd .u32 x 1) = x % 2 := by
  have := iAnd_mask (k := .u32) (a := x) (m := 1) (n := 1) rfl h.1 (by rw [show (2 : Int) ^ IntKind.u32.bits = 4294967296 by decide]; omega) rfl (by decide)
  rw [show ((1 : Nat) : Int) = 1 from rfl] at this
  rw [this, show ((2 ^ 1 : Nat) : Int) = 2 from rfl, i64_id (by omega) (by omega)]
theorem shr32 {v : Int} {k : Nat} (hv : 0 ≤ v ∧ v < 4294967296) (hk : k ≤ 32) : iShr .u32 v k = v / ((2 ^ k : Nat) : Int) ∧ 0 ≤ v / ((2 ^ k : Nat) : Int) ∧ v / ((2 ^ k : Nat) : Int) < 4294967296 := by
  refine ⟨iShr_div (by have : IntKind.u32.bits = 32 := rfl; omega) hv.1, Int.ediv_nonneg hv.1 (Int.natCast_nonneg _), ?_⟩
  have := Int.ediv_le_self (a := v) ((2 ^ k : Nat) : Int) hv.1
  omega
theorem bit01 {x : Int} : bitI (x % 2) = x % 2 := by unfold bitI; split <;> omega
theorem Bits_any {ad : Addr} {v : Value} {bs : List Int} {x n : Int} {w : World} (h : Wb w ad v bs) (hx : 0 ≤ x ∧ x < 4294967296) (hl : bs.length + 32 ≤ 10000000000) :
    Calls P n_bits_Writer_Bits #[.pointer (some ad), .int .u32 x, .int .i64 n] w (fun e w' => e = .returned (.tuple #[]) ∧ ∃ v', WbS w w' ad v v' (bs ++ bitsL x (cl32 n))) := by
  refine of_bits_Writer_Bits ?_
  rw [cl32b]
  have := cl32_le n
  rw [i64_id (n := (cl32 n : Int) - 1) (by omega) (by omega)]
  refine ⟨fun i w1 => ∃ (j : Nat) (v' : Value) (ys : List Int), i = (j : Int) - 1 ∧ j ≤ cl32 n ∧ bitsL x (cl32 n) = ys ++ bitsL x j ∧ WbS w w1 ad v v' (bs ++ ys), fun i _ => (i + 1).toNat, ⟨cl32 n, v, [], rfl, by omega, rfl, by simpa using h.step⟩, ?_⟩
  rintro _ i w1 ⟨j, v', ys, rfl, hj, hb, hW⟩
  have hlen := congrArg List.length hb
  rw [List.length_append, bitsL_len, bitsL_len] at hlen
  refine gIf_dec (fun hge => ?_) (fun hlt => ⟨rfl, v', ?_⟩)
  · obtain ⟨q, rfl⟩ : ∃ q, j = q + 1 := ⟨j - 1, by omega⟩
    rw [show ((q + 1 : Nat) : Int) - 1 = (q : Int) by omega]
    refine gBin_shr (by omega) ?_
    obtain ⟨e1, e2⟩ := shr32 hx (k := q) (by omega)
    rw [e1, and1 e2, i64_id (n := (q : Int) - 1) (by omega) (by omega)]
    refine gCall_u (Bit_any hW.1 (by rw [List.length_append]; omega)) fun w2 ⟨v2, hW2⟩ => ⟨⟨q, v2, ys ++ [x / ((2 ^ q : Nat) : Int) % 2], rfl, by omega, ?_, ?_⟩, by dsimp only; omega⟩
    · rw [hb, bitsL]; simp
    · rw [bit01] at hW2
      rw [← List.append_assoc]; exact hW.trans hW2
  · obtain rfl : j = 0 := by omega
    rw [hb, bitsL, List.append_nil]; exact hW
def cl4096 (n : Int) : Nat := (if 4096 < n then 4096 else n).toNat
theorem cl4096_le (n : Int) : cl4096 n ≤ 4096 := by unfold cl4096; split <;> omega
theorem cl4096a (n : Int) : (if 0 > (if 4096 < n then 4096 else n) then 0 else (if 4096 < n then 4096 else n)) = (cl4096 n : Int) := by unfold cl4096; split <;> split <;> omega
theorem Unary_any {ad : Addr} {v : Value} {bs : List Int} {n : Int} {w : World} (h : Wb w ad v bs) (hl : bs.length + 5000 ≤ 10000000000) :
    Calls P n_bits_Writer_Unary #[.pointer (some ad), .int .i64 n] w (fun e w' => e = .returned (.tuple #[]) ∧ ∃ v', WbS w w' ad v v' (bs ++ (List.replicate (cl4096 n) 1 ++ [0]))) := by
  refine of_bits_Writer_Unary ?_
  rw [cl4096a]
  have := cl4096_le n
  refine ⟨fun i w1 => ∃ (j : Nat) (v' : Value), i = j ∧ j ≤ cl4096 n ∧ WbS w w1 ad v v' (bs ++ List.replicate j 1), fun i _ => cl4096 n - i.toNat, ⟨0, v, rfl, by omega, by simpa using h.step⟩, ?_⟩
  rintro _ i w1 ⟨j, v', rfl, hj, hW⟩
  refine gIf_dec (fun hlt => ?_) (fun hge => ?_)
  · rw [i64_id (n := (j : Int) + 1) (by omega) (by omega)]
    refine gCall_u (Bit_any hW.1 (by simp; omega)) fun w2 ⟨v2, hW2⟩ => ⟨⟨j + 1, v2, by omega, by omega, ?_⟩, by dsimp only; omega⟩
    rw [List.replicate_succ', ← List.append_assoc]; exact hW.trans hW2
  · have : j = cl4096 n := by omega
    subst this
    refine gCall_u (Bit_any hW.1 (by simp; omega)) fun w2 ⟨v2, hW2⟩ => ⟨rfl, v2, ?_⟩
    rw [← List.append_assoc]; exact hW.trans hW2
theorem wBytes_any {ad : Addr} {v : Value} {bs : List Int} {w : World} (h : Wb w ad v bs) (hl : bs.length ≤ 10000000000) : Calls P n_bits_Writer_Bytes #[.pointer (some ad)] w (fun e w' => ∃ y, e = .returned y ∧ Ev w w' ∧ ∃ xs, ON .u8 eB w' w.heap.size y xs ∧ Packs xs bs) := by
  obtain ⟨xs, hS, hO, hv, hP⟩ := h
  have := hP.1
  refine of_bits_Writer_Bytes (gEq_pnil (gIf_f (gNil_some (gLoad_v (v := v) (hS.cell (j := 0) rfl) (gApp_on (ON.nil .u8 eB w w.heap.size) hO.nm (by simp; omega) (Nat.le_refl _) fun y w' hy hc hm => ⟨y, rfl, ?_, xs, by simpa using hy, hP⟩)))))
  exact hc.mono fun _ _ _ hh => by cases hh
end Go.Proofs.YtilpoinhfiajcaaGreatDoorV
