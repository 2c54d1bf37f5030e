import Derived.Test.YtilpoinhfiajcaaGreatDoorVQart7
set_option linter.unusedVariables false
set_option linter.unusedSimpArgs false
/- Package lms: weights that learn. -/
namespace Go.Proofs.YtilpoinhfiajcaaGreatDoorV
open Go Go.RowKit
section
variable {P : Program} {w0 w : World} {F : List It}
/-- a[l:], of an array. -/
theorem gSlice_arrL {t : TypeId} {ad : Addr} {n l sz : Nat} {ki : IntKind} {K : Value → Prop} (hln : l < n) (hk : K (.slice (some (ad.add (l * sz))) (n - l) (n - l))) (ht : arSz P t n sz = true) : gSlice P t (.pointer (some ad)) (some (.int ki (l : Int))) none none K := by
  unfold arSz at ht
  split at ht
  · rename_i m e hu
    simp only [Bool.and_eq_true] at ht
    have hm := Nat.eq_of_beq_eq_true ht.1
    subst hm
    obtain ⟨i, hi, hsz⟩ : ∃ i, P.info? e = some i ∧ i.size = sz := by
      have := ht.2
      split at this
      · rename_i i hi; exact ⟨i, hi, Nat.eq_of_beq_eq_true this⟩
      · cases this
    refine ⟨_, fun w => ?_, hk⟩
    have hb : (Instr.sliceBounds false m m (some (.int ki (l : Int))) none none).run P w = .ok (l, m, m) w := by
      simp [Instr.sliceBounds, Instr.sliceBound, asIntOf]; omega
    simp only [Instr.sliceAt, Instr.sureAddr, Sem.run_bind, Sem.run_pure, run_underlying hu, Result.andThen_ok, hb, sizeOf, typeInfo, run_program, hi]
    simp [hsz]; omega
  · cases ht
/-- copy into a part of a struct. -/
theorem fCopyS {t ty : TypeId} {k : IntKind} {ad : Addr} {n c o : Nat} {y : Value} {cs : List Value} {ys : List Int} {K : Int → World → Prop} (f : Fr w0 w F) (i : Nat) (hi : F[i]? = some (sIt ad cs)) (ho : o + n ≤ cs.length) (hn : 0 < n) (hy : Nm k w y ys) (hny : n ≤ ys.length)
    (hk : ∀ w', Fr w0 w' (F.set i (sIt ad (cs.take o ++ (ys.take n).map (.int k) ++ cs.drop (o + n)))) → K (n : Int) w') (ht : slInt P t k = true := by kernel_rfl) :
    gCopy P #[t, t] ty #[.slice (some (ad.add o)) n c, y] w K := by
  obtain ⟨hu, ii, hii, hsz, hby, hby1, hz⟩ := slInt_ok ht
  have hsz1 : (P.info? (elOf P t)).map (·.size) = some 1 := by rw [hii]; simp [hsz]
  have hS : St w ad cs := f.get i hi
  obtain ⟨a, cy, rfl, hnc, hl, hcells, hnil⟩ := hy.1
  cases a with
  | none => have := hnil rfl; omega
  | some sd =>
    obtain ⟨hsp, cur, e, hg, hcur⟩ := hS
    obtain ⟨b, q, s⟩ := ad
    cases hsp
    dsimp only at hg hcur
    rw [Addr.add_lit]
    have hlen : ((ys.take n).map (Value.int k)).length = n := by rw [List.length_map, List.length_take]; omega
    have hcl : q + cs.length ≤ cur.size := by
      have h0 : cs.length - 1 < cs.length := by omega
      have h1 := hcur (cs.length - 1) cs[cs.length - 1] (by rw [List.getElem?_eq_getElem h0])
      have := (Array.getElem?_eq_some_iff.1 h1).1
      omega
    have hrun := run_copy_row (P := P) w t t ty (elOf P t) b (q + o) n c sd ys.length cy cur e ((ys.take n).map (.int k)) hu hsz1 hg (by rw [hlen]; show n = min ys.length n; omega)
      (fun j u hj => hcells sd rfl j u (by
        rw [List.getElem?_map, List.getElem?_take] at hj
        rw [List.getElem?_map]
        split at hj
        · exact hj
        · simp at hj)) (by rw [hlen]; omega) (fun u hu => by obtain ⟨x, _, rfl⟩ := List.mem_map.1 hu; rfl)
    rw [hlen] at hrun
    refine ⟨(n : Int), _, hrun, hk _ ?_⟩
    refine f.upd (jt := sIt ⟨b, q, none⟩ (cs.take o ++ (ys.take n).map (.int k) ++ cs.drop (o + n))) (S := Bk b) i hi ?_ (fun k _ hh => .inl hh) ⟨rfl, _, e, setRow_heap w b cur _ _ _ hg, fun j u hj => ?_⟩ fun k hk => .inl hk
    · refine ⟨rfl, rfl, rfl, by simp, fun j hj hn => setRow_other w b j _ fun e => hn 0 e, fun j c' e' f hj => ?_, fun k o hk ho => by rw [setRow_other w b k _ (ne_cells hg hk ho)]; exact hk⟩
      by_cases hjg : j = b
      · subst hjg
        rw [hg] at hj
        injection hj with hj; injection hj with h1 h2 h3
        subst h1; subst h2; subst h3
        exact ⟨_, setRow_heap w j cur _ _ _ hg, by simp; omega, fun i hi => absurd rfl hi⟩
      · exact ⟨c', by rw [setRow_other w b j _ hjg]; exact hj, rfl, fun _ _ => rfl⟩
    · show (Array.mk _)[q + j]? = some u
      rw [List.getElem?_toArray]
      have hto : (cur.toList.take (q + o)).length = q + o := by rw [List.length_take, Array.length_toList]; omega
      have hco : (cs.take o).length = o := by rw [List.length_take]; omega
      rw [List.append_assoc] at hj
      rw [List.append_assoc]
      rcases Nat.lt_or_ge j o with h1 | h1
      · rw [List.getElem?_append_left (by omega), List.getElem?_take, if_pos h1] at hj
        rw [List.getElem?_append_left (by omega), List.getElem?_take, if_pos (by omega), Array.getElem?_toList]
        exact hcur j u hj
      · rw [List.getElem?_append_right (by omega), hco] at hj
        rw [List.getElem?_append_right (by omega), hto, show q + j - (q + o) = j - o by omega]
        rcases Nat.lt_or_ge (j - o) n with h2 | h2
        · rw [List.getElem?_append_left (by omega)] at hj
          rw [List.getElem?_append_left (by omega)]; exact hj
        · rw [List.getElem?_append_right (by omega), hlen, List.getElem?_drop] at hj
          rw [List.getElem?_append_right (by omega), hlen, List.getElem?_drop, Array.getElem?_toList]
          have := hcur (o + n + (j - o - n)) u hj
          rw [← this]; congr 1; omega
end
def lmsC (s : List Int × List Int) : List Value := s.1.map (.int .i64) ++ s.2.map (.int .i32)
def okS (s : List Int × List Int) : Prop := s.1.length = 8 ∧ s.2.length = 8 ∧ inR .i32 s.2
theorem okS_next {s : List Int × List Int} {v : Int} (h : okS s) (hv : IntKind.i32.min ≤ v ∧ v ≤ IntKind.i32.max) : okS (lmsL s v) := by
  obtain ⟨h1, h2, h3⟩ := h
  refine ⟨tab_len _ _, by show (v :: s.2.take 7).length = 8; rw [List.length_cons, List.length_take]; omega, fun x hx => ?_⟩
  rcases List.mem_cons.1 hx with rfl | hx
  · exact hv
  · exact h3 x (List.mem_of_mem_take hx)
theorem okS_0 : okS (List.replicate 8 0, List.replicate 8 0) := ⟨rfl, rfl, fun x hx => by rw [List.eq_of_mem_replicate hx]; decide⟩
theorem okS_all {l : List Int} (hl : inR .i32 l) : okS (lmsS l) := by
  suffices ∀ (l : List Int) (s : List Int × List Int), inR .i32 l → okS s → okS (l.foldl lmsL s) from this l _ hl okS_0
  intro l
  induction l with
  | nil => intro s _ h; exact h
  | cons v l ih => intro s hl h; exact ih _ (fun x hx => hl x (List.mem_cons_of_mem _ hx)) (okS_next h (hl v List.mem_cons_self))
theorem len8 {α : Type} {l : List α} (h : l.length = 8) : ∃ a b c d e f g i, l = [a, b, c, d, e, f, g, i] := by
  match l, h with
  | [a, b, c, d, e, f, g, i], _ => exact ⟨a, b, c, d, e, f, g, i, rfl⟩
section
variable {w0 w : World} {F G : List It}
theorem fLmsNew {K : Option Addr → World → Prop} (f : Fr w0 w F) (hk : ∀ ad w', Fr w0 w' (sIt ad (lmsC (lmsS [])) :: F) → K (some ad) w') : gCall P n_lms_New shP #[] w K :=
  gCall_of (R := fun e w' => ∃ ad, e = .returned (.pointer (some ad)) ∧ Fr w0 w' (sIt ad (lmsC (lmsS [])) :: F)) (of_lms_New (fBox f fun ad w' f' => ⟨ad, rfl, f'⟩)) fun _ w' ⟨ad, h1, h2⟩ => ⟨some ad, h1, hk ad w' h2⟩
theorem sign_any {v : Int} : Calls P n_lms_sign #[.int .i32 v] w (fun e w' => e = .returned (.int .i64 (signI v)) ∧ w' = w) :=
  of_lms_sign (gIf_dec (fun h => ⟨by unfold signI; rw [if_pos h], rfl⟩) (fun h => gIf_dec (fun h2 => ⟨by unfold signI; rw [if_neg h, if_pos h2], rfl⟩) (fun h2 => ⟨by unfold signI; rw [if_neg h, if_neg h2], rfl⟩)))
theorem rdI32 {ns : List Int} (h : inR .i32 ns) (k : Nat) : -2147483648 ≤ rd ns (k : Int) ∧ rd ns (k : Int) ≤ 2147483647 := by
  by_cases hk : k < ns.length
  · rw [rd_nat ns k hk]; exact inR32.1 h _ (List.getElem_mem hk)
  · have : rd ns (k : Int) = 0 := by unfold rd; rw [Int.toNat_natCast]; simp [show ns.length ≤ k by omega]
    omega
theorem lms_cell {ad : Addr} {s : List Int × List Int} (hs : okS s) (h : St w ad (lmsC s)) (k : Nat) (hk : k < 8) : w.cell? (ad.add k) = some (.int .i64 (rd s.1 (k : Int))) ∧ w.cell? (ad.add (8 + k)) = some (.int .i32 (rd s.2 (k : Int))) := by
  obtain ⟨h1, h2, _⟩ := hs
  refine ⟨h.cell ?_, h.cell ?_⟩
  · unfold lmsC
    rw [List.getElem?_append_left (by rw [List.length_map]; omega), List.getElem?_map, List.getElem?_eq_getElem (by omega), rd_nat s.1 k (by omega)]; rfl
  · unfold lmsC
    rw [List.getElem?_append_right (by rw [List.length_map]; omega), List.length_map, h1, Nat.add_sub_cancel_left, List.getElem?_map, List.getElem?_eq_getElem (by omega), rd_nat s.2 k (by omega)]; rfl
theorem guessL_any {ad : Addr} {s : List Int × List Int} (hs : okS s) (h : St w ad (lmsC s)) : Calls P n_lms_Filter_Guess #[.pointer (some ad)] w (fun e w' => e = .returned (.int .i32 (lmsG s)) ∧ w' = w) := by
  have hc := lms_cell hs h
  obtain ⟨a0, a1, a2, a3, a4, a5, a6, a7, hw⟩ := len8 hs.1
  refine of_lms_Filter_Guess (gEq_pnil (gIf_f (gNil_some ?_)))
  rw [Addr.add_zero', Addr.add_zero']
  refine gLoad_agg (s.1.map (.int .i64)) (fun j u hj => ?_) ?_ (by rw [hw]; rfl) (by rw [List.length_map, hs.1]; kernel_rfl)
  · have hj8 : j < 8 := by have := (List.getElem?_eq_some_iff.1 hj).1; rw [List.length_map, hs.1] at this; exact this
    have h0 := (hc j hj8).1
    rw [List.getElem?_map, List.getElem?_eq_getElem (by rw [hs.1]; exact hj8)] at hj
    rw [rd_nat s.1 j (by rw [hs.1]; exact hj8)] at h0
    rw [h0]; exact hj
  rw [hw]
  show ∃ _, _
  refine ⟨fun sum i w' => ∃ k : Nat, i = (k : Int) ∧ k ≤ 8 ∧ sum = sumW s.1 s.2 k ∧ w' = w, fun _ i _ => (8 - i).toNat, ⟨0, rfl, by omega, rfl, rfl⟩, ?_⟩
  rintro _ sum i w1 ⟨k, rfl, hk, rfl, hw1⟩
  obtain rfl : w = w1 := hw1.symm
  refine gIf_dec (fun hlt => ?_) (fun hge => ?_)
  · have hk8 : k < 8 := by omega
    refine gIndex_arr (xs := s.1) 8 k (by rw [hw]; rfl) hs.1 rfl hk8 (gNil_some ?_)
    rw [Addr.add_zero']
    refine gIdx_ar1 8 k rfl hk8 ?_
    rw [Addr.add2']
    refine gLoad_i (hc k hk8).2 ?_
    have hr := rdI32 hs.2.2 k
    rw [i64_id (n := rd s.2 (k : Int)) (by omega) (by omega)]
    exact ⟨⟨k + 1, by rw [i64_id (by omega) (by omega)]; omega, hk8, rfl, rfl⟩, by dsimp only; rw [i64_id (n := (k : Int) + 1) (by omega) (by omega)]; omega⟩
  · obtain rfl : k = 8 := by omega
    exact ⟨rfl, rfl⟩
theorem learn_any {ad : Addr} {s : List Int × List Int} {v : Int} (hs : okS s) (hv : IntKind.i32.min ≤ v ∧ v ≤ IntKind.i32.max) (f : Fr w0 w (sIt ad (lmsC s) :: G)) :
    Calls P n_lms_Filter_Learn #[.pointer (some ad), .int .i32 v] w (fun e w' => e = .returned (.tuple #[]) ∧ Fr w0 w' (sIt ad (lmsC (lmsL s v)) :: G)) := by
  have hc := lms_cell hs (f.get 0 rfl)
  obtain ⟨b0, b1, b2, b3, b4, b5, b6, b7, hn⟩ := len8 hs.2.1
  refine of_lms_Filter_Learn (gEq_pnil (gIf_f (gCall_i0 (guessL_any hs (f.get 0 rfl)) (gCall_i0 sign_any (gNil_some ?_)))))
  rw [Addr.add_zero']
  obtain ⟨e, he⟩ : ∃ e, e = signI (i32 (v - lmsG s)) := ⟨_, rfl⟩
  rw [← he]
  refine gLoad_agg (s.2.map (.int .i32)) (fun j u hj => ?_) ?_ (by rw [hn]; rfl) (by rw [List.length_map, hs.2.1]; kernel_rfl)
  · have hj8 : j < 8 := by have := (List.getElem?_eq_some_iff.1 hj).1; rw [List.length_map, hs.2.1] at this; exact this
    have h0 := (hc j hj8).2
    rw [List.getElem?_map, List.getElem?_eq_getElem (by rw [hs.2.1]; exact hj8)] at hj
    rw [rd_nat s.2 j (by rw [hs.2.1]; exact hj8)] at h0
    rw [Addr.add2', h0]; exact hj
  rw [hn]
  show ∃ _, _
  obtain ⟨W, hW⟩ : ∃ W, W = lmsW e s.1 s.2 := ⟨_, rfl⟩
  have hWl : W.length = 8 := by rw [hW]; exact tab_len _ _
  have hmid : ∀ k, k ≤ 8 → okS (W.take k ++ s.1.drop k, s.2) := fun k hk => ⟨by show (W.take k ++ s.1.drop k).length = 8; rw [List.length_append, List.length_take, List.length_drop, hWl, hs.1]; omega, hs.2.1, hs.2.2⟩
  refine ⟨fun i w' => ∃ k : Nat, i = (k : Int) ∧ k ≤ 8 ∧ Fr w0 w' (sIt ad (lmsC (W.take k ++ s.1.drop k, s.2)) :: G), fun i _ => (8 - i).toNat, ⟨0, rfl, by omega, f⟩, ?_⟩
  rintro _ i w1 ⟨k, rfl, hk, f1⟩
  refine gIf_dec (fun hlt => ?_) (fun hge => ?_)
  · have hk8 : k < 8 := by omega
    have hmk := hmid k hk
    have hck := lms_cell hmk (f1.get 0 rfl) k hk8
    have hold : rd (W.take k ++ s.1.drop k) (k : Int) = rd s.1 (k : Int) := by
      rw [rd_nat _ k (by rw [hmk.1]; exact hk8), rd_nat s.1 k (by rw [hs.1]; exact hk8)]
      rw [List.getElem_append_right (by rw [List.length_take]; omega), List.getElem_drop]
      congr 1; rw [List.length_take, hWl]; omega
    rw [hold] at hck
    have hnew : rd W (k : Int) = i64 (rd s.1 (k : Int) + i64 (e * signI (rd s.2 (k : Int)))) := by rw [hW]; exact rd_tab (f := fun k : Nat => i64 (rd s.1 (k : Int) + i64 (e * signI (rd s.2 (k : Int))))) hk8
    have hset : (lmsC (W.take k ++ s.1.drop k, s.2)).set k (.int .i64 (rd W (k : Int))) = lmsC (W.take (k + 1) ++ s.1.drop (k + 1), s.2) := by
      unfold lmsC
      dsimp only
      rw [List.set_append_left _ _ (by rw [List.length_map, hmk.1]; exact hk8), ← List.map_set]
      congr 2
      have hd : s.1.drop k = s.1[k]'(by rw [hs.1]; exact hk8) :: s.1.drop (k + 1) := List.drop_eq_getElem_cons (by rw [hs.1]; exact hk8)
      rw [hd, List.set_append_right _ _ (by rw [List.length_take]; omega), List.length_take, hWl, show k - min k 8 = 0 by omega, List.set_cons_zero, List.take_succ_eq_append_getElem (by omega), rd_nat W k (by omega), List.append_assoc]; rfl
    refine gIndex_arr (xs := s.2) 8 k (by rw [hn]; rfl) hs.2.1 rfl hk8 ⟨fun _ => True, trivial, gNil_some ?_⟩
    rw [Addr.add_zero', Addr.add_zero']
    refine gIdx_ar1 8 k rfl hk8 (gNil_some ?_)
    rw [Addr.add_zero', Addr.add_zero']
    have fin : ∀ {w2}, Fr w0 w2 (sIt ad (lmsC (W.take k ++ s.1.drop k, s.2)) :: G) → gIdx P t_ar8_int64 (.pointer (some ad)) (.int .i64 (k : Int)) fun t38 => gStore P t_int64 (.pointer (some t38)) (.int .i64 (i64 (rd s.1 (k : Int) + i64 (e * signI (rd s.2 (k : Int)))))) w2 fun w3 => True ∧ (∃ k' : Nat, i64 ((k : Int) + 1) = (k' : Int) ∧ k' ≤ 8 ∧ Fr w0 w3 (sIt ad (lmsC (W.take k' ++ s.1.drop k', s.2)) :: G)) ∧ (8 - i64 ((k : Int) + 1)).toNat < (8 - (k : Int)).toNat := fun {w2} f2 => by
      refine gIdx_ar1 8 k rfl hk8 (fStore f2 0 k rfl (fun w3 f3 => ⟨trivial, ⟨k + 1, by rw [i64_id (by omega) (by omega)]; omega, hk8, ?_⟩, by rw [i64_id (by omega) (by omega)]; omega⟩) (by rw [lmsC, List.length_append, List.length_map, List.length_map, hmk.1]; omega))
      rw [← hset, hnew]; exact f3
    refine ⟨gLoad_i hck.1 ⟨trivial, gCall_i0 sign_any ⟨trivial, fin f1.drew⟩⟩, gCall_i0 sign_any ⟨trivial, gLoad_i hck.1 ⟨trivial, fin f1.drew⟩⟩⟩
  · obtain rfl : k = 8 := by omega
    rw [List.take_of_length_le (show W.length ≤ 8 by omega), List.drop_of_length_le (show s.1.length ≤ 8 by rw [hs.1]; exact Nat.le_refl _), List.append_nil] at f1
    refine ⟨fun _ => True, trivial, gNil_some ?_⟩
    rw [Addr.add_zero']
    refine gSlice_arrL (l := 1) (n := 8) (sz := 1) (by decide) (gNil_some ?_) (by kernel_rfl)
    rw [Addr.add_zero', Addr.add2']
    refine gSlice_arr (n := 8) (sz := 1) ?_ (by kernel_rfl)
    have hy : Nm .i32 w1.drew (.slice (some (ad.add 8)) 8 8) s.2 := by
      refine ⟨⟨some (ad.add 8), 8, by rw [hs.2.1], by rw [hs.2.1]; exact Nat.le_refl _, by rw [List.length_map, hs.2.1], fun ad' ha j u hj => ?_, fun h => by cases h⟩, hs.2.2⟩
      injection ha with ha; subst ha
      rw [Addr.add2']
      have : (lmsC (W, s.2))[8 + j]? = some u := by unfold lmsC; dsimp only; rw [List.getElem?_append_right (by rw [List.length_map, hWl]; omega), List.length_map, hWl, Nat.add_sub_cancel_left]; exact hj
      exact f1.drew.cell 0 (8 + j) rfl this
    refine fCopyS (o := 9) (n := 7) f1.drew 0 rfl (by rw [lmsC, List.length_append, List.length_map, List.length_map, hs.2.1, hWl]; decide) (by decide) hy (by rw [hs.2.1]; decide) (fun w3 f3 => ⟨trivial, gNil_some ?_⟩)
    rw [Addr.add_zero']
    refine gIdx_ar1 8 0 rfl (by decide) ?_
    rw [Addr.add2']
    have hlen : ((lmsC (W, s.2)).take 9 ++ (s.2.take 7).map (Value.int .i32) ++ (lmsC (W, s.2)).drop (9 + 7)).length = 16 := by
      have : (lmsC (W, s.2)).length = 16 := by rw [lmsC, List.length_append, List.length_map, List.length_map, hs.2.1, hWl]
      simp only [List.length_append, List.length_take, List.length_drop, List.length_map, this, hs.2.1]; omega
    refine fStore f3 0 (8 + 0) rfl (fun w4 f4 => ⟨rfl, ?_⟩) (by rw [hlen]; decide)
    have hfin : ((lmsC (W, s.2)).take 9 ++ (s.2.take 7).map (Value.int .i32) ++ (lmsC (W, s.2)).drop (9 + 7)).set (8 + 0) (.int .i32 v) = lmsC (lmsL s v) := by
      have hL : lmsL s v = (W, v :: s.2.take 7) := by unfold lmsL; rw [hW, he]
      rw [hL]
      obtain ⟨c0, c1, c2, c3, c4, c5, c6, c7, hw8⟩ := len8 hWl
      rw [hw8, hn]; rfl
    rw [← hfin]; exact f4
end
end Go.Proofs.YtilpoinhfiajcaaGreatDoorV

/- Package lms: what is left, and the numbers again; predictors. -/
namespace Go.Proofs.YtilpoinhfiajcaaGreatDoorV
open Go Go.RowKit
section
variable {w : World}
theorem lRes_any {l0 : Value} {xs : List Int} (h : Nm .i32 w l0 xs) (hl : xs.length ≤ 1000000000) : Calls P n_lms_Residual #[l0] w (NewI w (resG learnG xs)) := by
  refine of_lms_Residual (fLmsNew (Fr.start w) fun ad w1 f1 => gLen_nm (h.ev f1.old) (fMakeI f1 hl fun t10 w2 f2 => gLen_nm (h.ev f2.old) ?_))
  refine ⟨fun i w' => ∃ k : Nat, i = (k : Int) ∧ k ≤ xs.length ∧ Fr w w' [oIt .i32 eI t10 ((resG learnG xs).take k ++ List.replicate (xs.length - k) 0), sIt ad (lmsC (lmsS (xs.take k)))], fun i _ => (xs.length - i).toNat, ⟨0, rfl, Nat.zero_le _, f2⟩, ?_⟩
  rintro _ i w3 ⟨k, rfl, hk, f3⟩
  refine gIf_dec (fun hlt => ?_) (fun hge => ?_)
  · have hkl : k < xs.length := by omega
    have hok := okS_all (l := xs.take k) (h.2.take k)
    have hlen : ((resG learnG xs).take k).length = k := by rw [List.length_take, resG_len]; omega
    refine gGet (h.ev f3.old) (by omega) (by omega) (gCall_i0 (guessL_any hok (f3.get 1 rfl)) ?_)
    refine fSetO f3 0 rfl rfl (by rw [List.length_append, hlen, List.length_replicate]; omega) (i32_io _) fun w4 f4 => ?_
    have hv : i32 (rd xs (k : Int) - lmsG (lmsS (xs.take k))) = rd (resG learnG xs) (k : Int) := (rd_tab (f := fun i => i32 (rd xs (i : Int) - learnG (xs.take i))) hkl).symm
    have f4 : Fr w w4 [oIt .i32 eI t10 (((resG learnG xs).take k ++ List.replicate (xs.length - k) 0).set k (i32 (rd xs (k : Int) - lmsG (lmsS (xs.take k))))), sIt ad (lmsC (lmsS (xs.take k)))] := f4
    rw [fill_set hlen hkl, hv, rd_nat _ k (by rw [resG_len]; exact hkl), ← List.take_succ_eq_append_getElem (by rw [resG_len]; exact hkl)] at f4
    have f4 : Fr w w4 [sIt ad (lmsC (lmsS (xs.take k))), oIt .i32 eI t10 ((resG learnG xs).take (k + 1) ++ List.replicate (xs.length - (k + 1)) 0)] := f4.picks [1, 0] (by decide)
    rw [rd_nat xs k hkl]
    refine gCall_u (learn_any hok (h.2 _ (List.getElem_mem hkl)) f4) fun w5 f5 => ?_
    rw [← lmsS_next hkl] at f5
    exact ⟨⟨k + 1, by rw [i64_id (by omega) (by omega)]; omega, hkl, f5.picks [1, 0] (by decide)⟩, by dsimp only; rw [i64_id (by omega) (by omega)]; omega⟩
  · obtain rfl : k = xs.length := by omega
    rw [Nat.sub_self, List.replicate_zero, List.append_nil, List.take_of_length_le (by rw [resG_len]; exact Nat.le_refl _)] at f3
    exact ⟨t10, rfl, f3.old, f3.on 0 rfl⟩
/-- A predictor, by its kind. -/
def kindG (k : Int) : List Int → Int := if k = 4 then learnG else fixG (ordN k)
theorem pRes_any {l0 : Value} {xs : List Int} {k : Int} (h : Nm .i32 w l0 xs) (hl : xs.length ≤ 1000000000) : Calls P n_audio_predictor_residual #[.agg #[.int .i64 k], l0] w (NewI w (resG (kindG k) xs)) := by
  refine of_audio_predictor_residual (fBox (Fr.start w) fun p2 w1 f1 => fLoad_i (n := k) f1 0 0 rfl rfl (gIf_eq (fun e => ?_) (fun e => fLoad_i (n := k) f1 0 0 rfl rfl ?_)))
  · refine gCall_of (lRes_any (h.ev f1.old) hl) ?_
    rintro _ w2 ⟨v, rfl, h2, hv⟩
    have hk : kindG k = learnG := by unfold kindG; rw [if_pos e]
    rw [hk]
    exact ⟨v, rfl, v, rfl, f1.old.trans h2, hv.low f1.old.size⟩
  · refine gCall_of (fRes_any (o := k) (h.ev f1.old) hl) ?_
    rintro _ w2 ⟨v, rfl, h2, hv⟩
    have hk : kindG k = fixG (ordN k) := by unfold kindG; rw [if_neg e]
    rw [hk]
    exact ⟨v, rfl, v, rfl, f1.old.trans h2, hv.low f1.old.size⟩
end
end Go.Proofs.YtilpoinhfiajcaaGreatDoorV

/- Package tracks: middle and side. -/
namespace Go.Proofs.YtilpoinhfiajcaaGreatDoorV
open Go Go.RowKit
theorem fill_tab {f : Nat → Int} {n k : Nat} (hk : k < n) {v : Int} (hv : v = f k) : ((tab n f).take k ++ List.replicate (n - k) 0).set k v = (tab n f).take (k + 1) ++ List.replicate (n - (k + 1)) 0 := by
  rw [fill_set (by rw [List.length_take, tab_len]; omega) hk, List.take_succ_eq_append_getElem (by rw [tab_len]; exact hk), hv]
  congr 2
  rw [← rd_nat (tab n f) k (by rw [tab_len]; exact hk), rd_tab hk]
theorem rd_fill {f : Nat → Int} {n k : Nat} (hk : k < n) : rd ((tab n f).take (k + 1) ++ List.replicate (n - (k + 1)) 0) (k : Int) = f k := by
  have hl : ((tab n f).take (k + 1)).length = k + 1 := by rw [List.length_take, tab_len]; omega
  rw [rd_nat _ k (by rw [List.length_append, hl]; omega), List.getElem_append_left (by omega), List.getElem_take, ← rd_nat (tab n f) k (by rw [tab_len]; exact hk), rd_tab hk]
theorem fill_len {f : Nat → Int} {n k : Nat} (hk : k ≤ n) : ((tab n f).take k ++ List.replicate (n - k) 0).length = n := by rw [List.length_append, List.length_take, tab_len, List.length_replicate]; omega
section
variable {w0 w : World}
/-- Two slices of one's own, and that it went well. -/
def TwoI (w : World) (xs ys : List Int) (e : Ending) (w' : World) : Prop := ∃ a b, e = .returned (.tuple #[a, b, .int .i64 0]) ∧ Fr w w' [oIt .i32 eI b ys, oIt .i32 eI a xs]
theorem Mid_any {l0 r0 : Value} {l r : List Int} (hl : Nm .i32 w l0 l) (hr : Nm .i32 w r0 r) (h : l.length = r.length) (hb : l.length ≤ 1000000000) : Calls P n_tracks_Mid #[l0, r0] w (TwoI w (midL l r) (sideL l r)) := by
  have loop : ∀ {t17 t20 : Value} {ww : World}, Fr w ww [oIt .i32 eI t20 (List.replicate l.length 0), oIt .i32 eI t17 (List.replicate l.length 0)] → gLen P t_sl_int32 l0 fun (t22 : Nat) => ∃ (I : Int → World → Prop) (μ : Int → World → Nat), I 0 ww ∧ ∀ (_ : Env) (t23 : Int) (ww3 : World), I t23 ww3 → gIf (decide (t23 < (t22 : Int))) (∃ B1 C1 : World → Prop, (B1 ww3.drew ∧ C1 ww3.drew) ∧ gIdx P t_sl_int32 l0 (.int .i64 t23) fun (t30 : Addr) => gLoadB P t_int32 (shI .i32) (.pointer (some t30)) C1 fun (t31 : Int) => gIdx P t_sl_int32 r0 (.int .i64 t23) fun (t34 : Addr) => gLoadB P t_int32 (shI .i32) (.pointer (some t34)) C1 fun (t35 : Int) => gIdx P t_sl_int32 t20 (.int .i64 t23) fun (t37 : Addr) => gStore P t_int32 (.pointer (some t37)) (.int .i32 (i32 (t31 - t35))) ww3.drew fun ww4 => B1 ww4 ∧ ∃ B2 C2 : World → Prop, (B2 ww4.drew ∧ C2 ww4.drew) ∧ gIdx P t_sl_int32 r0 (.int .i64 t23) fun (t42 : Addr) => gLoadB P t_int32 (shI .i32) (.pointer (some t42)) C2 fun (t43 : Int) => gIdx P t_sl_int32 t20 (.int .i64 t23) fun (t46 : Addr) => gLoadB P t_int32 (shI .i32) (.pointer (some t46)) C2 fun (t47 : Int) => gIdx P t_sl_int32 t17 (.int .i64 t23) fun (t50 : Addr) => gStore P t_int32 (.pointer (some t50)) (.int .i32 (i32 (t43 + (iShr .i32 t47 1)))) ww4.drew fun ww5 => B2 ww5 ∧ I (i64 (t23 + 1)) ww5 ∧ μ (i64 (t23 + 1)) ww5 < μ t23 ww3) (TwoI w (midL l r) (sideL l r) (.returned (.tuple #[t17, t20, .int .i64 0])) ww3) := by
    intro t17 t20 ww f
    refine gLen_nm (hl.ev f.old) ⟨fun i w' => ∃ k : Nat, i = (k : Int) ∧ k ≤ l.length ∧ Fr w w' [oIt .i32 eI t20 ((sideL l r).take k ++ List.replicate (l.length - k) 0), oIt .i32 eI t17 ((midL l r).take k ++ List.replicate (l.length - k) 0)], fun i _ => (l.length - i).toNat, ⟨0, rfl, Nat.zero_le _, f⟩, ?_⟩
    rintro _ i w1 ⟨k, rfl, hk, f1⟩
    refine gIf_dec (fun hlt => ?_) (fun hge => ?_)
    · have hkl : k < l.length := by omega
      refine ⟨fun _ => True, fun w' => w' = w1.drew, ⟨trivial, rfl⟩, gGetB (hl.ev f1.old) (by omega) (by omega) (fun _ h => evDrew h) (gGetB (hr.ev f1.old) (by omega) (by omega) (fun _ h => evDrew h) ?_)⟩
      refine fSetO f1.drew 0 rfl rfl (by rw [sideL, fill_len hk]; exact hkl) (i32_io _) fun w2 f2 => ⟨trivial, fun _ => True, fun w' => w' = w2.drew, ⟨trivial, rfl⟩, ?_⟩
      have f2 : Fr w w2 [oIt .i32 eI t20 (((sideL l r).take k ++ List.replicate (l.length - k) 0).set k (i32 (rd l (k : Int) - rd r (k : Int)))), oIt .i32 eI t17 ((midL l r).take k ++ List.replicate (l.length - k) 0)] := f2
      have e2 : ((sideL l r).take k ++ List.replicate (l.length - k) 0).set k (i32 (rd l (k : Int) - rd r (k : Int))) = (sideL l r).take (k + 1) ++ List.replicate (l.length - (k + 1)) 0 := fill_tab hkl rfl
      rw [e2] at f2
      refine gGetB (hr.ev f2.old) (by omega) (by omega) (fun _ h => evDrew h) (gGetB (f2.nm 0 rfl) (by omega) (by rw [sideL, fill_len hkl]; omega) (fun _ h => evDrew h) ?_)
      rw [show rd ((sideL l r).take (k + 1) ++ List.replicate (l.length - (k + 1)) 0) (k : Int) = i32 (rd l (k : Int) - rd r (k : Int)) from rd_fill (f := fun i => i32 (rd l (i : Int) - rd r (i : Int))) hkl]
      refine fSetO f2.drew 1 rfl rfl (by rw [midL, fill_len hk]; exact hkl) (i32_io _) fun w3 f3 => ⟨trivial, ⟨k + 1, by rw [i64_id (by omega) (by omega)]; omega, hkl, ?_⟩, by dsimp only; rw [i64_id (by omega) (by omega)]; omega⟩
      have e3 : ((midL l r).take k ++ List.replicate (l.length - k) 0).set k (i32 (rd r (k : Int) + iShr .i32 (i32 (rd l (k : Int) - rd r (k : Int))) 1)) = (midL l r).take (k + 1) ++ List.replicate (l.length - (k + 1)) 0 := fill_tab hkl rfl
      rw [← e3]; exact f3
    · obtain rfl : k = l.length := by omega
      rw [Nat.sub_self, List.replicate_zero, List.append_nil, List.append_nil, List.take_of_length_le (by rw [sideL, tab_len]; exact Nat.le_refl _), List.take_of_length_le (by rw [midL, tab_len]; exact Nat.le_refl _)] at f1
      exact ⟨t17, t20, rfl, f1⟩
  refine of_tracks_Mid (gLen_nm hl (gLen_nm hr (gIf_neq (fun hne => absurd (by omega) hne) (fun _ => ⟨fun _ => True, trivial, gLen_nm hl (gLen_nm hl ⟨?_, ?_⟩)⟩))))
  · exact fMakeI (Fr.start w).drew hb fun t17 w1 f1 => ⟨trivial, fMakeI f1 hb fun t20 w2 f2 => ⟨trivial, loop f2⟩⟩
  · exact fMakeI (Fr.start w).drew hb fun t20 w1 f1 => ⟨trivial, fMakeI f1 hb fun t17 w2 f2 => ⟨trivial, loop (f2.picks [1, 0] (by decide))⟩⟩
end
end Go.Proofs.YtilpoinhfiajcaaGreatDoorV

/- Package tracks: Split, Join. -/
namespace Go.Proofs.YtilpoinhfiajcaaGreatDoorV
open Go Go.RowKit
noncomputable abbrev eT : TypeId := elOf P t_sl_sl_int32
/-- Tracks, each in memory of its own. -/
noncomputable def trF (v : Value) (T : List (Value × List Int)) : List It := rIt eT 1 v T.length (T.map (·.1)) :: T.map fun u => oIt .i32 eI u.1 u.2
theorem two_bytes {a b : Int} (ha : 0 ≤ a ∧ a < 256) (hb : 0 ≤ b ∧ b < 256) : iOr .u16 (u16 a) (iShl .u16 (u16 b) 8) = a + 256 * b := by
  have h1 : u16 a = a := by rw [u16_def]; omega
  have h2 : u16 b = b := by rw [u16_def]; omega
  have h3 : ((2 ^ IntKind.u16.bits : Nat) : Int) = 65536 := by decide
  have h4 : ((2 ^ 8 : Nat) : Int) = 256 := by decide
  rw [h1, h2, show (8 : Int) = ((8 : Nat) : Int) from rfl, iShl_u rfl (by decide) hb.1, h3, h4, Int.emod_eq_of_lt (by omega) (by omega)]
  have := iOr_add (k := .u16) (a := a) (b := b) (m := 8) rfl ha.1 (by rw [h4]; omega) hb.1 (by rw [h3, h4]; omega)
  rw [h4] at this
  rw [this]; omega
theorem u8_rd {xs : List Int} (h : inR .u8 xs) {i : Nat} (hi : i < xs.length) : 0 ≤ rd xs (i : Int) ∧ rd xs (i : Int) < 256 := by
  have h0 := h xs[i] (List.getElem_mem hi)
  have h1 : IntKind.u8.min = 0 := by decide
  have h2 : IntKind.u8.max = 255 := by decide
  rw [h1, h2] at h0
  rw [rd_nat xs i hi]; omega
theorem smp_i32 {xs : List Int} (hx : inR .u8 xs) {size i : Nat} (hs : size = 1 ∨ size = 2) (hi : i + size ≤ xs.length) : IntKind.i32.min ≤ smp xs size i ∧ smp xs size i ≤ IntKind.i32.max := by
  have h1 : IntKind.i32.min = -2147483648 := by decide
  have h2 : IntKind.i32.max = 2147483647 := by decide
  have := (smp_rg hx hs hi).2
  rw [h1, h2]; omega
section
variable {w0 w : World} {F : List It}
theorem may_any {n b : Int} : Calls P n_tracks_may #[.int .i64 n, .int .i64 b] w (fun e w' => e = .returned (.bool (decide (1 ≤ n ∧ n ≤ 8 ∧ (b = 8 ∨ b = 16)))) ∧ w' = w) := by
  refine of_tracks_may (gIf_dec (fun h1 => gIf_dec (fun h2 => gIf_neqq (fun h3 => ⟨?_, rfl⟩) (fun h3 => ⟨?_, rfl⟩)) (fun h2 => ⟨?_, rfl⟩)) (fun h1 => ⟨?_, rfl⟩))
  · have : (b == 16) = decide (1 ≤ n ∧ n ≤ 8 ∧ (b = 8 ∨ b = 16)) := by
      by_cases h4 : b = 16
      · subst h4; rw [decide_eq_true (by omega)]; rfl
      · rw [decide_eq_false (by omega)]; simp [h4]
    rw [this]
  · rw [decide_eq_true (by omega)]
  · rw [decide_eq_false (by omega)]
  · rw [decide_eq_false (by omega)]
theorem Fr.nils (f : Fr w0 w F) : ∀ n, Fr w0 w ((List.replicate n (oIt .i32 eI (.slice none 0 0) [])) ++ F)
  | 0 => f
  | n + 1 => by rw [List.replicate_succ]; exact (Fr.nils f n).nil0 .i32 eI
/-- Tracks that a call hands back. -/
def SplitE (w : World) (xss : List (List Int)) (e : Ending) (w' : World) : Prop := ∃ v T, e = .returned (.tuple #[v, .int .i64 0]) ∧ T.map (·.2) = xss ∧ Fr w w' (trF v T)
theorem Split_any {b0 : Value} {xs : List Int} {ch size n : Nat} (hb : Nm .u8 w b0 xs) (hc1 : 1 ≤ ch) (hc8 : ch ≤ 8) (hs : size = 1 ∨ size = 2) (hlen : xs.length = n * (ch * size)) (hl : xs.length ≤ 1000000000) :
    Calls P n_tracks_Split #[b0, .int .i64 (ch : Int), .int .i64 ((8 * size : Nat) : Int)] w (SplitE w (splitN xs ch size (n * ch))) := by
  have hsz : i64 (Int.tdiv ((8 * size : Nat) : Int) 8) = (size : Int) := by
    rcases hs with rfl | rfl
    · decide +kernel
    · decide +kernel
  have hcs : i64 ((ch : Int) * (size : Int)) = ((ch * size : Nat) : Int) := by
    have : ch * size ≤ 8 * 2 := Nat.mul_le_mul hc8 (by omega)
    rw [← Int.natCast_mul, i64_id (by omega) (by omega)]
  have hcs1 : 1 ≤ ch * size := Nat.mul_le_mul hc1 (show 1 ≤ size by omega)
  refine of_tracks_Split (gCall_b0 may_any ?_)
  rw [decide_eq_true (by omega), hsz, hcs]
  refine gIf_nt (gLen_nm hb (gBin_rem (by omega) ?_))
  have hmod : Int.tmod ((xs.length : Nat) : Int) ((ch * size : Nat) : Int) = 0 := by
    rw [Int.tmod_eq_emod_of_nonneg (by omega), hlen, ← Int.natCast_emod, Nat.mul_mod_left]; rfl
  rw [hmod]
  refine gIf_neq (fun h => (h rfl).elim) (fun _ => ?_)
  have hnil : oIt .i32 eI (.slice none 0 0) [] = (fun u : Value × List Int => oIt .i32 eI u.1 u.2) (.slice none 0 0, []) := rfl
  refine fMakeR 24 (.slice none 0 0) (sz := 1) ((Fr.start w).nils ch) (by omega) (by unfold maxLen; omega) (fun t27 w2 f2 => ?_) (by kernel_rfl)
  have f2 : Fr w w2 (trF t27 (List.replicate ch (.slice none 0 0, []))) := by
    have e1 : (madeCells (Value.slice none 0 0).cells (ch * 1)).toList = List.replicate ch (Value.slice none 0 0) := by
      rw [show (Value.slice none 0 0).cells = #[Value.slice none 0 0] from rfl, Nat.mul_one, toList_madeCells_one]
    rw [e1, List.append_nil] at f2
    unfold trF
    rw [List.length_replicate, List.map_replicate, List.map_replicate]
    exact f2
  refine ⟨fun i w' => ∃ (t : Nat) (T : List (Value × List Int)), i = ((t * size : Nat) : Int) ∧ t ≤ n * ch ∧ T.map (·.2) = splitN xs ch size t ∧ Fr w w' (trF t27 T), fun i _ => (xs.length - i).toNat, ⟨0, _, by rw [Nat.zero_mul]; rfl, Nat.zero_le _, ?_, f2⟩, ?_⟩
  · rw [List.map_replicate]
    refine List.ext_getElem (by rw [List.length_replicate, splitN_len]) fun k h1 h2 => ?_
    have hk : k < ch := by rw [List.length_replicate] at h1; exact h1
    simp only [splitN, List.getElem_map, List.getElem_range, List.getElem_replicate]
    unfold trackN
    rw [cntT_0 hk]; rfl
  rintro _ i w3 ⟨t, T, rfl, ht, hT, f3⟩
  have hTl : T.length = ch := by have := congrArg List.length hT; rwa [List.length_map, splitN_len] at this
  have htot : n * ch * size = n * (ch * size) := Nat.mul_assoc _ _ _
  refine gLen_nm (hb.ev f3.old) (gIf_dec (fun hlt => ?_) (fun hge => ?_))
  · have htn : t < n * ch := by
      refine Decidable.byContradiction fun hc => ?_
      have := Nat.mul_le_mul_right size (show n * ch ≤ t by omega)
      omega
    have hts : t * size + size ≤ xs.length := by
      have := Nat.mul_le_mul_right size htn
      rw [Nat.succ_mul] at this; omega
    refine gGet (hb.ev f3.old) (by omega) (by omega) ?_
    refine ⟨fun v w' => v = smp xs size (t * size) ∧ Fr w w' (trF t27 T), gIf_eq (fun e => ?_) (fun e => ⟨?_, f3⟩), ?_⟩
    · have h2 : size = 2 := by omega
      have i1 : i64 (((t * size : Nat) : Int) + 1) = ((t * size + 1 : Nat) : Int) := by rw [i64_id (by omega) (by omega)]; rfl
      rw [i1]
      refine gGetB (hb.ev f3.old) (by omega) (by omega) (fun _ h => evDrew h) (gGetB (hb.ev f3.old) (by omega) (by omega) (fun _ h => evDrew h) ⟨?_, f3.drew⟩)
      rw [two_bytes (u8_rd hb.2 (by omega)) (u8_rd hb.2 (by omega))]
      unfold smp
      rw [if_pos h2]
      have := (show -32768 ≤ i16 (rd xs ((t * size : Nat) : Int) + 256 * rd xs ((t * size + 1 : Nat) : Int)) ∧ i16 (rd xs ((t * size : Nat) : Int) + 256 * rd xs ((t * size + 1 : Nat) : Int)) < 32768 by rw [i16_def]; omega)
      rw [i32_def]; omega
    · have h1 : size = 1 := by omega
      unfold smp
      rw [if_neg (by omega)]
      have := u8_rd hb.2 (show t * size < xs.length by omega)
      rw [i32_def, i32_def]; omega
    rintro _ v w4 ⟨rfl, f4⟩
    have hm := Nat.mod_lt t (show 0 < ch by omega)
    refine gBin_quo (by omega) ?_
    have hq : IntKind.i64.wrap (Int.tdiv ((t * size : Nat) : Int) (size : Int)) = (t : Int) := by
      rw [Int.tdiv_eq_ediv_of_nonneg (by omega), ← Int.natCast_ediv, Nat.mul_div_cancel _ (by omega)]
      show i64 _ = _
      have : t ≤ t * size := Nat.le_mul_of_pos_right _ (by omega)
      rw [i64_id (by omega) (by omega)]
    rw [hq]
    refine gBin_rem (by omega) ?_
    have hr : Int.tmod (t : Int) (ch : Int) = ((t % ch : Nat) : Int) := by rw [Int.tmod_eq_emod_of_nonneg (by omega), Int.natCast_emod]
    rw [hr]
    have hkT : t % ch < T.length := by omega
    have hTk : T[t % ch].2 = trackN xs ch size t (t % ch) := by
      have h0 : (T.map (·.2))[t % ch]'(by rw [List.length_map]; exact hkT) = T[t % ch].2 := List.getElem_map _
      rw [← h0]
      simp only [hT, splitN, List.getElem_map, List.getElem_range]
    have hbd : (trackN xs ch size t (t % ch)).length ≤ t := by
      unfold trackN; rw [tab_len, cntT_mod (by omega)]; exact Nat.div_le_self _ _
    refine gIdx_1 (f4.row 0 rfl) (by omega) (by rw [← hTl] at hm; omega) fun ad u hu hcl _ => gLoad_v hcl ?_
    have hue : u = T[t % ch].1 := by
      rw [Int.toNat_natCast, List.getElem?_map, List.getElem?_eq_getElem hkT] at hu
      simpa using hu.symm
    subst hue
    have hsr := smp_i32 hb.2 hs hts
    refine fLit_n [smp xs size (t * size)] f4 rfl rfl (fun x hx => by rw [List.mem_singleton.1 hx]; exact hsr) fun l5 w5 f5 => ?_
    have hget : (oIt .i32 (elOf P t_sl_int32) l5 [smp xs size (t * size)] :: trF t27 T)[t % ch + 2]? = some (oIt .i32 (elOf P t_sl_int32) T[t % ch].1 T[t % ch].2) := by
      unfold trF
      rw [List.getElem?_cons_succ, List.getElem?_cons_succ, List.getElem?_map, List.getElem?_eq_getElem hkT]; rfl
    refine fApp f5 (t % ch + 2) hget (f5.nm 0 rfl) (by rw [hTk]; simp only [List.length_cons, List.length_nil]; have : t ≤ t * size := Nat.le_mul_of_pos_right _ (by omega); omega) fun v6 w6 f6 => ?_
    have f6 : Fr w w6 (oIt .i32 eI l5 [smp xs size (t * size)] :: rIt eT 1 t27 T.length (T.map (·.1)) :: (T.map fun u => oIt .i32 eI u.1 u.2).set (t % ch) (oIt .i32 eI v6 (T[t % ch].2 ++ [smp xs size (t * size)]))) := f6
    have on6 := f6.get (t % ch + 2) (it := oIt .i32 eI v6 (T[t % ch].2 ++ [smp xs size (t * size)])) (by rw [List.getElem?_cons_succ, List.getElem?_cons_succ, List.getElem?_set_self (by rw [List.length_map]; exact hkT)])
    have f6 := f6.drop 0
    have ho6 : w6.ownsRow 0 eT 1 t27 T.length (T.map (·.1)) := f6.get 0 rfl
    refine gIdx_r ho6 rfl hkT fun ad2 hs2 => fStoreR1 f6 0 rfl hs2 hkT (by obtain ⟨a, c, rfl, _⟩ := (ON.nm on6).shape; rfl) (by obtain ⟨a, c, rfl, _⟩ := (ON.nm on6).shape; rfl) fun w7 f7 => ?_
    have f7 : Fr w w7 (trF t27 (T.set (t % ch) (v6, T[t % ch].2 ++ [smp xs size (t * size)]))) := by
      unfold trF
      rw [List.length_set, List.map_set, List.map_set]; exact f7
    refine ⟨⟨t + 1, _, ?_, htn, ?_, f7⟩, ?_⟩
    · rw [i64_id (by omega) (by omega), Nat.succ_mul]; omega
    · rw [List.map_set, hT, splitN_step (by omega), hTk]
    · dsimp only; rw [i64_id (by omega) (by omega)]; omega
  · have htn : t = n * ch := by
      refine Decidable.byContradiction fun hc => ?_
      have := Nat.mul_le_mul_right size (show t + 1 ≤ n * ch by omega)
      rw [Nat.succ_mul] at this
      omega
    subst htn
    exact ⟨t27, T, rfl, hT, f3⟩
end
end Go.Proofs.YtilpoinhfiajcaaGreatDoorV

/- Package tracks: Join. -/
namespace Go.Proofs.YtilpoinhfiajcaaGreatDoorV
open Go Go.RowKit
section
variable {w0 w : World}
end
end Go.Proofs.YtilpoinhfiajcaaGreatDoorV

/- Package bits: what is written. -/
namespace Go.Proofs.YtilpoinhfiajcaaGreatDoorV
open Go Go.RowKit

/-- A bit of bytes, the highest of each first. -/
def bitAt (xs : List Int) (k : Nat) : Int := rd xs ((k / 8 : Nat) : Int) / ((2 ^ (7 - k % 8) : Nat) : Int) % 2
theorem bitAt_test {xs : List Int} (hx : inR .u8 xs) (k : Nat) : bitAt xs k = (if (rd xs ((k / 8 : Nat) : Int)).toNat.testBit (7 - k % 8) then 1 else 0) := by
  have h := rd_u8 hx ((k / 8 : Nat) : Int)
  unfold bitAt
  obtain ⟨a, ha⟩ := Int.eq_ofNat_of_zero_le h.1
  rw [ha, Int.toNat_natCast, ← Int.natCast_ediv, Nat.testBit_eq_decide_div_mod_eq]
  generalize a / 2 ^ (7 - k % 8) = q
  have : q % 2 = 0 ∨ q % 2 = 1 := by omega
  rcases this with h | h
  · rw [h, show (q : Int) % 2 = 0 by omega]; rfl
  · rw [h, show (q : Int) % 2 = 1 by omega]; rfl
/-- Bytes that are those of bits, with zeros behind. -/
def Packs (xs : List Int) (bs : List Int) : Prop := xs.length = (bs.length + 7) / 8 ∧ ∀ k, k < 8 * xs.length → bitAt xs k = bs.getD k 0
theorem Packs.nil : Packs [] [] := ⟨rfl, fun k h => by simp at h⟩
theorem byte_ext {a b : Int} (ha : 0 ≤ a ∧ a < 256) (hb : 0 ≤ b ∧ b < 256) (h : ∀ i, i < 8 → a.toNat.testBit i = b.toNat.testBit i) : a = b := by
  have : a.toNat = b.toNat := by
    apply Nat.eq_of_testBit_eq
    intro i
    by_cases hi : i < 8
    · exact h i hi
    · have h8 : 2 ^ 8 ≤ 2 ^ i := Nat.pow_le_pow_right (by decide) (by omega)
      rw [Nat.testBit_lt_two_pow (by omega : a.toNat < 2 ^ i), Nat.testBit_lt_two_pow (by omega : b.toNat < 2 ^ i)]
  omega
theorem Packs.uniq {xs ys bs : List Int} (hx : inR .u8 xs) (hy : inR .u8 ys) (h : Packs xs bs) (h2 : Packs ys bs) : xs = ys := by
  have hl : xs.length = ys.length := h.1.trans h2.1.symm
  refine List.ext_getElem hl fun j h1 h3 => ?_
  rw [← rd_nat xs j h1, ← rd_nat ys j h3]
  refine byte_ext (rd_u8 hx _) (rd_u8 hy _) fun i hi => ?_
  have e1 := h.2 (8 * j + (7 - i)) (by omega)
  have e2 := h2.2 (8 * j + (7 - i)) (by omega)
  rw [← e2, bitAt_test hx, bitAt_test hy, show (8 * j + (7 - i)) / 8 = j by omega, show 7 - (8 * j + (7 - i)) % 8 = i by omega] at e1
  split at e1 <;> split at e1 <;> simp_all
/-- A writer: its bytes, and how many bits. -/
def Wb (w : World) (ad : Addr) (v : Value) (bs : List Int) : Prop := ∃ xs, St w ad [v, .int .i64 bs.length] ∧ ON .u8 eB w 0 v xs ∧ v.ownBlock ≠ some ad.block ∧ Packs xs bs
theorem Wb.ch {S : SS} {w w' : World} {ad : Addr} {v : Value} {bs : List Int} (h : Wb w ad v bs) (hc : Ch S w w') (hs : ∀ k i, Ft ad v k i → ¬ S k i) : Wb w' ad v bs := by
  obtain ⟨xs, h1, h2, h3, h4⟩ := h
  exact ⟨xs, h1.ch hc fun _ _ => hs _ _ (.inl rfl), h2.ch hc fun g i hg => hs g i (.inr hg), h3, h4⟩
theorem Wb.ev {w w' : World} {ad : Addr} {v : Value} {bs : List Int} (h : Wb w ad v bs) (hc : Ev w w') : Wb w' ad v bs := h.ch hc fun _ _ _ h => h
def WbS (w w' : World) (ad : Addr) (v v' : Value) (bs : List Int) : Prop := Wb w' ad v' bs ∧ Ch (Ft ad v) w w' ∧ Moved w v v'
theorem Wb.step {w : World} {ad : Addr} {v : Value} {bs : List Int} (h : Wb w ad v bs) : WbS w w ad v v bs := ⟨h, Ch.refl _ w, .inl rfl⟩
theorem WbS.trans {w w1 w2 : World} {ad : Addr} {v v1 v2 : Value} {xs ys : List Int} (h : WbS w w1 ad v v1 xs) (h2 : WbS w1 w2 ad v1 v2 ys) : WbS w w2 ad v v2 ys := by
  refine ⟨h2.1, Ch.trans h.2.1 h2.2.1 fun n i hn hf => ?_, h.2.2.trans h2.2.2 h.2.1.size⟩
  rcases hf with hf | hf
  · exact .inl hf
  · rcases h.2.2 with hm | hm
    · exact .inr (hm ▸ hf)
    · have := hm n hf; omega
def bitI (v : Int) : Int := if v ≠ 0 then 1 else 0
theorem rd_set {xs : List Int} {i : Nat} {x : Int} (hi : i < xs.length) (j : Nat) : rd (xs.set i x) (j : Int) = if j = i then x else rd xs j := by
  unfold rd
  rw [Int.toNat_natCast, List.getD_eq_getElem?_getD, List.getD_eq_getElem?_getD, List.getElem?_set]
  by_cases h : j = i
  · subst h; simp [hi]
  · rw [if_neg (fun e => h e.symm), if_neg h]
theorem rd_app (xs ys : List Int) (j : Nat) : rd (xs ++ ys) (j : Int) = if j < xs.length then rd xs j else rd ys ((j - xs.length : Nat) : Int) := by
  unfold rd
  rw [Int.toNat_natCast, Int.toNat_natCast, List.getD_eq_getElem?_getD, List.getD_eq_getElem?_getD, List.getD_eq_getElem?_getD, List.getElem?_append]
  split <;> rfl
theorem getD_app (bs : List Int) (b : Int) (k : Nat) : (bs ++ [b]).getD k 0 = if k = bs.length then b else bs.getD k 0 := by
  rw [List.getD_eq_getElem?_getD, List.getD_eq_getElem?_getD, List.getElem?_append]
  split
  · rw [if_neg (by omega)]
  · split
    · subst_vars; simp
    · rw [List.getElem?_eq_none (by simp; omega), List.getElem?_eq_none (by omega)]
/-- A byte of zeros behind. -/
theorem Packs.grow {xs bs : List Int} (h : Packs xs bs) (h0 : bs.length % 8 = 0) (k : Nat) : bitAt (xs ++ [0]) k = bs.getD k 0 := by
  have hl := h.1
  unfold bitAt
  rw [rd_app]
  split
  · exact h.2 k (by omega)
  · have : rd [(0 : Int)] ((k / 8 - xs.length : Nat) : Int) = 0 := by
      unfold rd
      rw [Int.toNat_natCast]
      cases k / 8 - xs.length <;> simp
    rw [this, List.getD_eq_getElem?_getD, List.getElem?_eq_none (by omega)]; simp
theorem bit_or {a : Int} {r : Nat} (ha : 0 ≤ a ∧ a < 256) (hr : r < 8) : 0 ≤ iOr .u8 a (iShr .u8 128 r) ∧ iOr .u8 a (iShr .u8 128 r) < 256 ∧ ∀ i, (iOr .u8 a (iShr .u8 128 r)).toNat.testBit i = (a.toNat.testBit i || decide (i = 7 - r)) := by
  have e1 : iShr .u8 128 r = ((2 ^ (7 - r) : Nat) : Int) := by
    have : ∀ r : Nat, r < 8 → iShr .u8 128 r = ((2 ^ (7 - r) : Nat) : Int) := by decide
    exact this r hr
  have hp : 2 ^ (7 - r) < 256 := Nat.lt_of_le_of_lt (Nat.pow_le_pow_right (by decide) (show 7 - r ≤ 7 by omega)) (by decide)
  obtain ⟨a, rfl⟩ := Int.eq_ofNat_of_zero_le ha.1
  rw [e1, iOr_nat rfl (by rw [bits8]; omega) (by rw [bits8]; exact hp)]
  have hlt : a ||| 2 ^ (7 - r) < 2 ^ 8 := Nat.or_lt_two_pow (by omega) hp
  refine ⟨by omega, by omega, fun i => ?_⟩
  rw [Int.toNat_natCast, Int.toNat_natCast, Nat.testBit_or, Nat.testBit_two_pow]
  congr 1
  simp [eq_comm]
theorem Packs.set {ys bs : List Int} (hy : inR .u8 ys) (hl : ys.length = (bs.length + 1 + 7) / 8) (hb : ∀ k, k < 8 * ys.length → bitAt ys k = bs.getD k 0) :
    Packs (ys.set (bs.length / 8) (iOr .u8 (rd ys ((bs.length / 8 : Nat) : Int)) (iShr .u8 128 ((bs.length % 8 : Nat) : Int)))) (bs ++ [1]) ∧ inR .u8 (ys.set (bs.length / 8) (iOr .u8 (rd ys ((bs.length / 8 : Nat) : Int)) (iShr .u8 128 ((bs.length % 8 : Nat) : Int)))) := by
  have hi : bs.length / 8 < ys.length := by omega
  obtain ⟨h1, h2, h3⟩ := bit_or (rd_u8 hy ((bs.length / 8 : Nat) : Int)) (r := bs.length % 8) (by omega)
  have hr : inR .u8 (ys.set (bs.length / 8) (iOr .u8 (rd ys ((bs.length / 8 : Nat) : Int)) (iShr .u8 128 ((bs.length % 8 : Nat) : Int)))) := fun x hx => by
    rcases List.mem_or_eq_of_mem_set hx with hx | rfl
    · exact hy x hx
    · exact u8i ⟨h1, h2⟩
  refine ⟨⟨by simpa using hl, fun k hk => ?_⟩, hr⟩
  rw [List.length_set] at hk
  have hbk := hb k hk
  rw [bitAt_test hy] at hbk
  rw [bitAt_test hr, rd_set hi, getD_app]
  by_cases hk8 : k / 8 = bs.length / 8
  · rw [if_pos hk8, h3, ← hk8]
    by_cases e : k = bs.length
    · rw [if_pos e, e]; simp
    · rw [if_neg e, ← hbk, decide_eq_false (show ¬ 7 - k % 8 = 7 - bs.length % 8 by omega), Bool.or_false]
  · rw [if_neg hk8, hbk, if_neg (fun e => hk8 (by rw [e]))]
theorem Packs.zero {ys bs : List Int} (hl : ys.length = (bs.length + 1 + 7) / 8) (hb : ∀ k, k < 8 * ys.length → bitAt ys k = bs.getD k 0) : Packs ys (bs ++ [0]) :=
  ⟨by simpa using hl, fun k hk => by
    rw [hb k hk, getD_app]
    split
    · rename_i e; rw [e, List.getD_eq_getElem?_getD, List.getElem?_eq_none (Nat.le_refl _)]; rfl
    · rfl⟩
end Go.Proofs.YtilpoinhfiajcaaGreatDoorV

/- Package bits: the writer's calls. -/
namespace Go.Proofs.YtilpoinhfiajcaaGreatDoorV
open Go Go.RowKit

theorem Bit_any {ad : Addr} {v : Value} {bs : List Int} {b : Int} {w : World} (h : Wb w ad v bs) (hl : bs.length ≤ 10000000000) :
    Calls P n_bits_Writer_Bit #[.pointer (some ad), .int .i64 b] w (fun e w' => e = .returned (.tuple #[]) ∧ ∃ v', WbS w w' ad v v' (bs ++ [bitI b])) := by
  obtain ⟨xs, hS, hO, hv, hP⟩ := h
  have hxl := hP.1
  have et : Int.tmod (bs.length : Int) 8 = ((bs.length % 8 : Nat) : Int) := by rw [Int.tmod_eq_emod_of_nonneg (by omega)]; omega
  have ed : i64 (Int.tdiv (bs.length : Int) 8) = ((bs.length / 8 : Nat) : Int) := by rw [Int.tdiv_eq_ediv_of_nonneg (by omega), i64_id (by omega) (by omega)]; omega
  refine of_bits_Writer_Bit (gEq_pnil (gIf_f ?_))
  refine ⟨fun w' => ∃ v' ys, St w' ad [v', .int .i64 bs.length] ∧ ON .u8 eB w' 0 v' ys ∧ v'.ownBlock ≠ some ad.block ∧ ys.length = (bs.length + 1 + 7) / 8 ∧ (∀ k, k < 8 * ys.length → bitAt ys k = bs.getD k 0) ∧ Ch (Ft ad v) w w' ∧ Moved w v v', ?_, ?_⟩
  · refine gNil_some (gLoad_i (hS.cell (j := 1) rfl) ?_)
    rw [et]
    refine gIf_eq (fun h0 => ?_) (fun h0 => ⟨v, xs, hS, hO, hv, by omega, hP.2, Ch.refl _ w, .inl rfl⟩)
    refine gNil_some (gLoad_v (v := v) (hS.cell (j := 0) rfl) (gLit_n (k := .u8) [0] rfl rfl (by decide) (fun x hx => by simp at hx; subst hx; decide) fun y w1 h1 hy => ?_))
    refine gApp_on (hO.ev h1) hy.nm (by simp; omega) (Nat.zero_le _) fun v2 w2 hO2 hc2 hm2 => gNil_some ?_
    have hS2 : St w2 ad [v, .int .i64 bs.length] := (hS.ev h1).ch hc2 fun _ _ hh => hv hh
    rw [Addr.add_zero']
    refine gStore_st0 hS2 (by simp) (by obtain ⟨a, c, rfl, _⟩ := hO2.nm.shape; rfl) hO2.one fun w3 h3 hs3 hS3 => ?_
    have hlt := hS.lt
    have hv2 : v2.ownBlock ≠ some ad.block := by
      rcases hm2 with h | h
      · rw [h]; exact hv
      · intro hh; have := h _ hh; have := h1.size; omega
    refine ⟨v2, xs ++ [0], by simpa using hS3, hO2.ch h3 fun g i hg hh => hv2 (by rw [hg, hh.1]), hv2, by simp; omega, fun k _ => hP.grow (by omega) k, ?_, ?_⟩
    · refine Ch.trans (Ch.trans (h1.mono fun _ _ _ h => h.elim) (hc2.mono fun _ _ _ h => .inr h) fun _ _ _ h => h) h3 fun n i _ hh => .inl hh.1
    · rcases hm2 with h | h
      · exact .inl h
      · exact .inr fun g hg => Nat.le_trans h1.size (h g hg)
  · rintro _ w4 ⟨v4, ys, hS4, hO4, hv4, hyl, hyb, hc4, hm4⟩
    have hlt : ad.block < w.heap.size := hS.lt
    -- one bit more is counted
    have fin : ∀ {w5 : World} {zs : List Int} {cs : List Int}, St w5 ad [v4, .int .i64 bs.length] → ON .u8 eB w5 0 v4 zs → Packs zs cs → cs.length = bs.length + 1 → Ch (Ft ad v) w w5 →
        gNil (some ad) fun (t43 : Addr) => gLoad P t_int (shI .i64) (.pointer (some (Addr.add t43 1))) w5 fun (t45 : Int) => gNil (some ad) fun (t47 : Addr) => gStore P t_int (.pointer (some (Addr.add t47 1))) (.int .i64 (i64 (t45 + 1))) w5 fun ww6 => (Ending.returned (.tuple #[]) = Ending.returned (.tuple #[]) ∧ ∃ v', WbS w ww6 ad v v' cs) := fun {w5 zs cs} k1 k2 k3 k4 k5 => by
      refine gNil_some (gLoad_i (k1.cell (j := 1) rfl) (gNil_some (gStore_st k1 (j := 1) (by simp) rfl rfl fun w6 h6 _ hS6 => ⟨rfl, v4, ⟨zs, ?_, k2.ch h6 fun g i hg hh => ?_, hv4, k3⟩, Ch.trans k5 h6 fun n i _ hh => ?_, hm4⟩)))
      · have e : i64 ((bs.length : Int) + 1) = ((cs.length : Nat) : Int) := by rw [i64_id (by omega) (by omega)]; omega
        rw [e] at hS6; exact hS6
      · have := hh.1; rw [Addr.add_none hS.1] at this; exact hv4 (by rw [hg, this])
      · have := hh.1; rw [Addr.add_none hS.1] at this; exact .inl this
    refine gIf_neq (fun hb => ?_) (fun hb => ?_)
    · refine ⟨fun w' => St w' ad [v4, .int .i64 bs.length], hS4.drew, gNil_some (gLoadB_v (v := v4) (fun w' h => h.cell (j := 0) rfl) (gNil_some (gLoadB_i (fun w' h => h.cell (j := 1) rfl) ?_)))⟩
      rw [ed]
      have hi : ((bs.length / 8 : Nat) : Int) < ys.length := by omega
      refine gIdx_nm hO4.drew.nm (by omega) hi fun a1 c1 _ => gNil_some (gLoadB_i (fun w' h => h.cell (j := 1) rfl) ?_)
      rw [et]
      refine gBin_shr (by omega) (gLoad_i c1 ⟨hS4.drew, gIdx_on hO4.drew (by omega) hi fun a2 s2 _ => ?_⟩)
      obtain ⟨p1, p2⟩ := Packs.set hO4.2 hyl hyb
      obtain ⟨q1, q2, _⟩ := bit_or (rd_u8 hO4.2 ((bs.length / 8 : Nat) : Int)) (r := bs.length % 8) (by omega)
      refine gStore_on hO4.drew s2 (by omega) hi (u8i ⟨q1, q2⟩) fun w5 h5 _ hO5 => ⟨hS4.drew.ch h5 fun _ _ hh => hv4 hh, ?_⟩
      rw [Int.toNat_natCast] at hO5
      have e1 : bitI b = 1 := by unfold bitI; rw [if_pos hb]
      rw [e1]
      refine fin (hS4.drew.ch h5 fun _ _ hh => hv4 hh) hO5 p1 (by simp) ?_
      refine Ch.trans hc4.drew h5 fun n i hn hh => ?_
      rcases hm4 with h | h
      · exact .inr (h ▸ hh)
      · have := h n hh; omega
    · have e0 : bitI b = 0 := by unfold bitI; rw [if_neg (by simpa using hb)]
      rw [e0]
      exact fin hS4 hO4 (Packs.zero hyl hyb) (by simp) hc4
def cl32 (n : Int) : Nat := (if 32 < n then 32 else n).toNat
theorem cl32_le (n : Int) : cl32 n ≤ 32 := by unfold cl32; split <;> omega
theorem cl32b (n : Int) : (if (if 32 < n then 32 else n) > 0 then (if 32 < n then 32 else n) else 0) = (cl32 n : Int) := by unfold cl32; split <;> split <;> omega
/-- The lowest bits of a number, the highest of them first. -/
def bitsL (v : Int) : Nat → List Int
  | 0 => []
  | k + 1 => v / ((2 ^ k : Nat) : Int) % 2 :: bitsL v k
theorem bitsL_len (v : Int) : ∀ k, (bitsL v k).length = k
  | 0 => rfl
  | k + 1 => by simp [bitsL, bitsL_len v k]
theorem and1 {x : Int} (h : 0 ≤ x ∧ x < 4294967296) : i64 (iAnd .u32 x 1) = x % 2 := by
  have := iAnd_mask (k := .u32) (a := x) (m := 1) (n := 1) rfl h.1 (by rw [show (2 : Int) ^ IntKind.u32.bits = 4294967296 by decide]; omega) rfl (by decide)
  rw [show ((1 : Nat) : Int) = 1 from rfl] at this
  rw [this, show ((2 ^ 1 : Nat) : Int) = 2 from rfl, i64_id (by omega) (by omega)]
theorem shr32 {v : Int} {k : Nat} (hv : 0 ≤ v ∧ v < 4294967296) (hk : k ≤ 32) : iShr .u32 v k = v / ((2 ^ k : Nat) : Int) ∧ 0 ≤ v / ((2 ^ k : Nat) : Int) ∧ v / ((2 ^ k : Nat) : Int) < 4294967296 := by
  refine ⟨iShr_div (by have : IntKind.u32.bits = 32 := rfl; omega) hv.1, Int.ediv_nonneg hv.1 (Int.natCast_nonneg _), ?_⟩
  have := Int.ediv_le_self (a := v) ((2 ^ k : Nat) : Int) hv.1
  omega
theorem bit01 {x : Int} : bitI (x % 2) = x % 2 := by unfold bitI; split <;> omega
theorem Bits_any {ad : Addr} {v : Value} {bs : List Int} {x n : Int} {w : World} (h : Wb w ad v bs) (hx : 0 ≤ x ∧ x < 4294967296) (hl : bs.length + 32 ≤ 10000000000) :
    Calls P n_bits_Writer_Bits #[.pointer (some ad), .int .u32 x, .int .i64 n] w (fun e w' => e = .returned (.tuple #[]) ∧ ∃ v', WbS w w' ad v v' (bs ++ bitsL x (cl32 n))) := by
  refine of_bits_Writer_Bits ?_
  rw [cl32b]
  have := cl32_le n
  rw [i64_id (n := (cl32 n : Int) - 1) (by omega) (by omega)]
  refine ⟨fun i w1 => ∃ (j : Nat) (v' : Value) (ys : List Int), i = (j : Int) - 1 ∧ j ≤ cl32 n ∧ bitsL x (cl32 n) = ys ++ bitsL x j ∧ WbS w w1 ad v v' (bs ++ ys), fun i _ => (i + 1).toNat, ⟨cl32 n, v, [], rfl, by omega, rfl, by simpa using h.step⟩, ?_⟩
  rintro _ i w1 ⟨j, v', ys, rfl, hj, hb, hW⟩
  have hlen := congrArg List.length hb
  rw [List.length_append, bitsL_len, bitsL_len] at hlen
  refine gIf_dec (fun hge => ?_) (fun hlt => ⟨rfl, v', ?_⟩)
  · obtain ⟨q, rfl⟩ : ∃ q, j = q + 1 := ⟨j - 1, by omega⟩
    rw [show ((q + 1 : Nat) : Int) - 1 = (q : Int) by omega]
    refine gBin_shr (by omega) ?_
    obtain ⟨e1, e2⟩ := shr32 hx (k := q) (by omega)
    rw [e1, and1 e2, i64_id (n := (q : Int) - 1) (by omega) (by omega)]
    refine gCall_u (Bit_any hW.1 (by rw [List.length_append]; omega)) fun w2 ⟨v2, hW2⟩ => ⟨⟨q, v2, ys ++ [x / ((2 ^ q : Nat) : Int) % 2], rfl, by omega, ?_, ?_⟩, by dsimp only; omega⟩
    · rw [hb, bitsL]; simp
    · rw [bit01] at hW2
      rw [← List.append_assoc]; exact hW.trans hW2
  · obtain rfl : j = 0 := by omega
    rw [hb, bitsL, List.append_nil]; exact hW
def cl4096 (n : Int) : Nat := (if 4096 < n then 4096 else n).toNat
theorem cl4096_le (n : Int) : cl4096 n ≤ 4096 := by unfold cl4096; split <;> omega
theorem cl4096a (n : Int) : (if 0 > (if 4096 < n then 4096 else n) then 0 else (if 4096 < n then 4096 else n)) = (cl4096 n : Int) := by unfold cl4096; split <;> split <;> omega
theorem Unary_any {ad : Addr} {v : Value} {bs : List Int} {n : Int} {w : World} (h : Wb w ad v bs) (hl : bs.length + 5000 ≤ 10000000000) :
    Calls P n_bits_Writer_Unary #[.pointer (some ad), .int .i64 n] w (fun e w' => e = .returned (.tuple #[]) ∧ ∃ v', WbS w w' ad v v' (bs ++ (List.replicate (cl4096 n) 1 ++ [0]))) := by
  refine of_bits_Writer_Unary ?_
  rw [cl4096a]
  have := cl4096_le n
  refine ⟨fun i w1 => ∃ (j : Nat) (v' : Value), i = j ∧ j ≤ cl4096 n ∧ WbS w w1 ad v v' (bs ++ List.replicate j 1), fun i _ => cl4096 n - i.toNat, ⟨0, v, rfl, by omega, by simpa using h.step⟩, ?_⟩
  rintro _ i w1 ⟨j, v', rfl, hj, hW⟩
  refine gIf_dec (fun hlt => ?_) (fun hge => ?_)
  · rw [i64_id (n := (j : Int) + 1) (by omega) (by omega)]
    refine gCall_u (Bit_any hW.1 (by simp; omega)) fun w2 ⟨v2, hW2⟩ => ⟨⟨j + 1, v2, by omega, by omega, ?_⟩, by dsimp only; omega⟩
    rw [List.replicate_succ', ← List.append_assoc]; exact hW.trans hW2
  · have : j = cl4096 n := by omega
    subst this
    refine gCall_u (Bit_any hW.1 (by simp; omega)) fun w2 ⟨v2, hW2⟩ => ⟨rfl, v2, ?_⟩
    rw [← List.append_assoc]; exact hW.trans hW2
theorem wBytes_any {ad : Addr} {v : Value} {bs : List Int} {w : World} (h : Wb w ad v bs) (hl : bs.length ≤ 10000000000) : Calls P n_bits_Writer_Bytes #[.pointer (some ad)] w (fun e w' => ∃ y, e = .returned y ∧ Ev w w' ∧ ∃ xs, ON .u8 eB w' w.heap.size y xs ∧ Packs xs bs) := by
  obtain ⟨xs, hS, hO, hv, hP⟩ := h
  have := hP.1
  refine of_bits_Writer_Bytes (gEq_pnil (gIf_f (gNil_some (gLoad_v (v := v) (hS.cell (j := 0) rfl) (gApp_on (ON.nil .u8 eB w w.heap.size) hO.nm (by simp; omega) (Nat.le_refl _) fun y w' hy hc hm => ⟨y, rfl, ?_, xs, by simpa using hy, hP⟩)))))
  exact hc.mono fun _ _ _ hh => by cases hh
end Go.Proofs.YtilpoinhfiajcaaGreatDoorV

/- Package bits: the reader. -/
namespace Go.Proofs.YtilpoinhfiajcaaGreatDoorV
open Go Go.RowKit

theorem Nm.ch' {k : IntKind} {S : SS} {w w' : World} {v : Value} {xs : List Int} (h : Nm k w v xs) (hc : Ch S w w') (hs : xs ≠ [] → ∀ g i, v.ownBlock = some g → ¬ S g i) : Nm k w' v xs := by
  by_cases hx : xs = []
  · subst hx
    obtain ⟨⟨a, c, rfl, h1, h2, h3, h4⟩, hr⟩ := h
    exact ⟨⟨a, c, rfl, h1, h2, fun ad ha j u hj => by simp at hj, h4⟩, hr⟩
  · exact h.ch hc (hs hx)
def PR (w : World) (ad : Addr) (b : Value) (xs : List Int) (a : Nat) (er : Int) : Prop := St w ad [b, .int .i64 a, .int .i64 er] ∧ Nm .u8 w b xs ∧ (xs ≠ [] → b.ownBlock ≠ some ad.block) ∧ a ≤ 8 * xs.length ∧ xs.length ≤ 1000000000
theorem PR.ch {S : SS} {w w' : World} {ad : Addr} {b : Value} {xs : List Int} {a : Nat} {er : Int} (h : PR w ad b xs a er) (hc : Ch S w w') (hs : ∀ k i, (k = ad.block ∨ b.ownBlock = some k) → ¬ S k i) : PR w' ad b xs a er :=
  ⟨h.1.ch hc fun _ _ => hs _ _ (.inl rfl), h.2.1.ch hc fun g i hg => hs g i (.inr hg), h.2.2⟩
theorem PR.ev {w w' : World} {ad : Addr} {b : Value} {xs : List Int} {a : Nat} {er : Int} (h : PR w ad b xs a er) (he : Ev w w') : PR w' ad b xs a er := ⟨h.1.ev he, h.2.1.ev he, h.2.2⟩
theorem PR.drew {w : World} {ad : Addr} {b : Value} {xs : List Int} {a : Nat} {er : Int} (h : PR w ad b xs a er) : PR w.drew ad b xs a er := h
def PS (w w' : World) (ad : Addr) (b : Value) (xs : List Int) (a : Nat) (er : Int) : Prop := PR w' ad b xs a er ∧ Ch (Rg ad 3) w w'
theorem PS.trans {w w1 w2 : World} {ad : Addr} {b : Value} {xs : List Int} {a a2 : Nat} {er er2 : Int} (h : PS w w1 ad b xs a er) (h2 : PS w1 w2 ad b xs a2 er2) : PS w w2 ad b xs a2 er2 := ⟨h2.1, Ch.trans h.2 h2.2 fun _ _ _ h => h⟩
theorem PS.ev {w w1 w2 : World} {ad : Addr} {b : Value} {xs : List Int} {a : Nat} {er : Int} (h : PS w w1 ad b xs a er) (he : Ev w1 w2) : PS w w2 ad b xs a er := ⟨h.1.ev he, Ch.trans h.2 he fun _ _ _ h => h.elim⟩
theorem PS.pre {w w1 w2 : World} {ad : Addr} {b : Value} {xs : List Int} {a : Nat} {er : Int} (he : Ev w w1) (h : PS w1 w2 ad b xs a er) : PS w w2 ad b xs a er := ⟨h.1, Ch.trans (he.mono fun _ _ _ h => h.elim) h.2 fun _ _ _ h => h⟩
theorem PR.step {w : World} {ad : Addr} {b : Value} {xs : List Int} {a : Nat} {er : Int} (h : PR w ad b xs a er) : PS w w ad b xs a er := ⟨h, Ch.refl _ w⟩
theorem PR.set {w w' : World} {ad : Addr} {b : Value} {xs : List Int} {a : Nat} {er : Int} (h : PR w ad b xs a er) {j : Nat} {u : Value} {a2 : Nat} {er2 : Int} (hj : j < 3) (hc : Ch (Rg (ad.add j) 1) w w')
    (hS : St w' ad ([b, .int .i64 a, .int .i64 er].set j u)) (he : ([b, .int .i64 a, .int .i64 er] : List Value).set j u = [b, .int .i64 a2, .int .i64 er2]) (ha : a2 ≤ 8 * xs.length) : PS w w' ad b xs a2 er2 := by
  have hc3 : Ch (Rg ad 3) w w' := hc.mono fun n i _ hh => by
    have h1 := hh.1; have h2 := hh.2
    rw [Addr.add_none h.1.1] at h1 h2
    exact ⟨h1, by dsimp only at h2; omega, by dsimp only at h2; omega⟩
  exact ⟨⟨he ▸ hS, h.2.1.ch' hc3 fun hx g i hg hh => h.2.2.1 hx (by rw [hg, hh.1]), h.2.2.1, ha, h.2.2.2.2⟩, hc3⟩
section
variable {ad : Addr} {b : Value} {xs : List Int} {a : Nat} {er : Int} {w : World}
/-- A reader: what points to a place. -/
def RB (w : World) (rad pad : Addr) (b : Value) (xs : List Int) (a : Nat) (er : Int) : Prop := St w rad [.pointer (some pad)] ∧ PR w pad b xs a er ∧ rad.block ≠ pad.block
variable {rad pad : Addr}
theorem RB.to {w' : World} {a2 : Nat} {er2 : Int} (h : RB w rad pad b xs a er) (hs : PS w w' pad b xs a2 er2) : RB w' rad pad b xs a2 er2 := ⟨h.1.ch hs.2 fun _ _ hh => h.2.2 hh.1, hs.1, h.2.2⟩
end
end Go.Proofs.YtilpoinhfiajcaaGreatDoorV

/- Package bits: nil readers, New; package valiseref01: the reader. -/
namespace Go.Proofs.YtilpoinhfiajcaaGreatDoorV
open Go Go.RowKit

/-! ### valiseref01 -/
section
variable {ad : Addr} {b : Value} {xs : List Int} {a : Nat} {er : Int} {w : World}
end
end Go.Proofs.YtilpoinhfiajcaaGreatDoorV

/- Package num: what is written. -/
namespace Go.Proofs.YtilpoinhfiajcaaGreatDoorV
open Go Go.RowKit

abbrev W1 (w : World) (ad : Addr) (v : Value) (xs : List Int) : Prop := Wr eB w ad v xs
abbrev WS (w w' : World) (ad : Addr) (v v' : Value) (xs : List Int) : Prop := WrS eB w w' ad v v' xs
theorem put_any {ad : Addr} {v p : Value} {xs : List Int} {yss : List (List Int)} {w : World} (h : W1 w ad v xs) (hp : Stab (Ft ad v) w fun w' => NL .u8 w' p yss) (hl : xs.length + yss.flatten.length ≤ 10000000000) (hn : yss.length ≤ 10000000000) :
    Calls P n_num_buffer_put #[.pointer (some ad), p] w (fun e w' => e = .returned (.tuple #[]) ∧ ∃ v', WS w w' ad v v' (xs ++ yss.flatten)) := by
  obtain ⟨us, hus, hel⟩ := hp.now
  refine of_num_buffer_put (gLen_slv hus ?_)
  refine ⟨fun i w1 => ∃ j : Nat, i = j ∧ j ≤ yss.length ∧ ∃ v', WS w w1 ad v v' (xs ++ (yss.take j).flatten), fun i _ => yss.length - i.toNat, ⟨0, rfl, by omega, v, by simpa using h.step⟩, ?_⟩
  rintro _ i w1 ⟨j, rfl, hj, v', hW⟩
  refine gIf_dec (fun hlt => ?_) (fun hge => ⟨rfl, v', ?_⟩)
  · obtain ⟨us, hus, hel⟩ := hp w1 hW.2.1
    refine gIdx_1 hus (by omega) (by omega) fun a u hu hc _ => gLoad_v hc (gNil_some (gLoad_v (v := v') ?_ ?_))
    · have := hW.1.1.cell (j := 0) rfl; exact this
    have hlt' : j < yss.length := by omega
    have hx := hel j u yss[j] (by simpa using hu) (by simp [hlt'])
    have hfl : (yss.take (j + 1)).flatten = (yss.take j).flatten ++ yss[j] := by rw [List.take_succ_eq_append_getElem hlt', List.flatten_append]; simp
    have hle : (yss.take (j + 1)).flatten.length ≤ yss.flatten.length := by
      have : yss.flatten = (yss.take (j + 1)).flatten ++ (yss.drop (j + 1)).flatten := by rw [← List.flatten_append, List.take_append_drop]
      rw [this, List.length_append]; omega
    rw [hfl, List.length_append] at hle
    refine gApp_on hW.1.2.1 hx (by rw [List.length_append]; omega) (Nat.zero_le _) fun v2 w2 hO2 hc2 hm2 => gNil_some ?_
    have hne : ∀ i, ¬ Ob v' ad.block i := fun _ hh => hW.1.2.2 hh
    have hS2 : St w2 ad [v'] := hW.1.1.ch hc2 fun _ _ => hne _
    rw [Addr.add_zero']
    refine gStore_st0 hS2 (by simp) (by obtain ⟨a, c, rfl, _⟩ := hO2.nm.shape; rfl) hO2.one fun w3 h3 hs3 hS3 => ?_
    rw [i64_id (n := (j : Int) + 1) (by omega) (by omega)]
    have hv2 : v2.ownBlock ≠ some ad.block := by
      rcases hm2 with h | h
      · rw [h]; exact hW.1.2.2
      · intro hh; have := h _ hh; have := hW.1.1.lt; omega
    have hO3 : ON .u8 eB w3 0 v2 (xs ++ (yss.take j).flatten ++ yss[j]) := hO2.ch h3 fun g i hg hh => hv2 (by rw [hg, hh.1])
    refine ⟨⟨j + 1, by omega, hlt', v2, hW.trans ⟨⟨by simpa using hS3, ?_, hv2⟩, Ch.trans (hc2.mono fun _ _ _ h => .inr h) h3 fun n i _ hh => .inl hh.1, hm2⟩⟩, by dsimp only; omega⟩
    rw [hfl, ← List.append_assoc]; exact hO3
  · have : j = yss.length := by omega
    subst this
    rw [List.take_length] at hW; exact hW
theorem Raw_any {ad : Addr} {v p : Value} {xs : List Int} {yss : List (List Int)} {w : World} (h : W1 w ad v xs) (hp : Stab (Ft ad v) w fun w' => NL .u8 w' p yss) (hl : xs.length + yss.flatten.length ≤ 10000000000) (hn : yss.length ≤ 10000000000) :
    Calls P n_num_Writer_Raw #[.pointer (some ad), p] w (fun e w' => e = .returned (.tuple #[]) ∧ ∃ v', WS w w' ad v v' (xs ++ yss.flatten)) := by
  refine of_num_Writer_Raw (gNe_pnil (gIf_t (gNil_some ?_)))
  rw [Addr.add_zero']
  exact gCall_u (put_any h hp hl hn) fun w' hw => ⟨rfl, hw⟩
/-- A list of one. -/
theorem NL.one {k : IntKind} {B : Nat} {e : TypeId} {w : World} {p x : Value} {xs : List Int} (h : w.ownsRow B e 1 p 1 [x]) (hx : Nm k w x xs) : NL k w p [xs] :=
  ⟨[x], Sl.of_own h, fun i u ys hu hy => by
    cases i with
    | zero => simp at hu hy; subst hu; subst hy; exact hx
    | succ i => simp at hu⟩
/-- One part more. -/
theorem raw1_any {ad : Addr} {v x : Value} {xs ys : List Int} {w : World} {K : World → Prop} (h : W1 w ad v xs) (hx : Stab (Ft ad v) w fun w' => Nm .u8 w' x ys) (hl : xs.length + ys.length ≤ 10000000000) (hk : ∀ v' w', WS w w' ad v v' (xs ++ ys) → K w') :
    gLit P t_sl_sl_uint8 1 #[(0, x)] w fun (p : Value) w1 => gCall P n_num_Writer_Raw shU #[.pointer (some ad), p] w1 K := by
  refine gLit_1 [x] rfl rfl (by decide) (by simpa using hx.now.one) fun p w1 h1 hp => gCall_u (Raw_any (yss := [ys]) (h.ev h1) ?_ (by simpa using hl) (by simp)) ?_
  · intro w2 h2
    have hx2 : Nm .u8 w2 x ys := hx w2 (Ch.trans (h1.mono fun _ _ _ h => h.elim) h2 fun _ _ _ h => h)
    have hb : ∀ g, p.ownBlock = some g → w.heap.size ≤ g := fun g hg => (hp.lt g hg).1
    refine NL.one (B := 0) (e := elOf P t_sl_sl_uint8) ?_ hx2
    refine ⟨rfl, ?_⟩
    rcases hp.2 with ⟨_, h0⟩ | ⟨g, cap, cur, hv, hbg, hg, r⟩
    · cases h0
    · refine .inr ⟨g, cap, cur, hv, Nat.zero_le _, ?_, r⟩
      rw [h2.blk g (hlt hg) fun i hh => ?_]; exact hg
      have := hb g (by rw [hv]; rfl)
      have := h.lt (k := g) (i := i) hh; omega
  · rintro w2 ⟨v', hW⟩
    exact hk v' w2 (WrS.pre h1 (by simpa using hW))
/-- One byte more. -/
theorem rawb_any {ad : Addr} {v : Value} {xs : List Int} {x : Int} {w : World} {K : World → Prop} (h : W1 w ad v xs) (hx : 0 ≤ x ∧ x < 256) (hl : xs.length + 1 ≤ 10000000000) (hk : ∀ v' w', WS w w' ad v v' (xs ++ [x]) → K w') :
    gLit P t_sl_uint8 1 #[(0, .int .u8 x)] w fun (y : Value) w1 => gLit P t_sl_sl_uint8 1 #[(0, y)] w1 fun (p : Value) w2 => gCall P n_num_Writer_Raw shU #[.pointer (some ad), p] w2 K :=
  gLit_n (k := .u8) [x] rfl rfl (by decide) (fun y hy => by simp at hy; subst hy; exact u8i hx) fun y w1 h1 hy => raw1_any (h.ev h1) (hy.nm.stab fun g i hg hlt hf => by
    have := (hy.base hg).1; have := h.lt (k := g) (i := i) hf; omega) (by simpa using hl) fun v' w' hW => hk v' w' (WrS.pre h1 hW)
def numB (v : Nat) : List Int := if v < 128 then [(v : Int)] else ((v % 128 + 128 : Nat) : Int) :: numB (v / 128)
theorem numB_lt {v : Nat} (h : v < 128) : numB v = [(v : Int)] := by rw [numB, if_pos h]
theorem numB_ge {v : Nat} (h : ¬ v < 128) : numB v = ((v % 128 + 128 : Nat) : Int) :: numB (v / 128) := by rw [numB, if_neg h]
theorem numB_len : ∀ (k v : Nat), v < 128 ^ (k + 1) → (numB v).length ≤ k + 1
  | 0, v, h => by rw [numB_lt (by simpa using h)]; simp
  | k + 1, v, h => by
    by_cases hv : v < 128
    · rw [numB_lt hv]; simp
    · rw [numB_ge hv]
      have : v / 128 < 128 ^ (k + 1) := by rw [Nat.div_lt_iff_lt_mul (by decide)]; rwa [Nat.pow_succ] at h
      have := numB_len k (v / 128) this
      simp; omega
theorem Num_any {ad : Addr} {v : Value} {xs : List Int} {n : Int} {w : World} (h : W1 w ad v xs) (hn : 0 ≤ n ∧ n < 18446744073709551616) (hl : xs.length + 10 ≤ 10000000000) :
    Calls P n_num_Writer_Num #[.pointer (some ad), .int .u64 n] w (fun e w' => e = .returned (.tuple #[]) ∧ ∃ v', WS w w' ad v v' (xs ++ numB n.toNat)) := by
  have h10 := numB_len 9 n.toNat (by rw [show (128 : Nat) ^ (9 + 1) = 1180591620717411303424 by decide]; omega)
  refine of_num_Writer_Num ⟨fun m w1 => ∃ (q : Nat) (ys : List Int) (v' : Value), m = q ∧ q < 18446744073709551616 ∧ numB n.toNat = ys ++ numB q ∧ WS w w1 ad v v' (xs ++ ys), fun m _ => m.toNat, ⟨n.toNat, [], v, by omega, by omega, by simp, by simpa using h.step⟩, ?_⟩
  rintro _ m w1 ⟨q, ys, v', rfl, hq, hnb, hW⟩
  refine gIf_dec (fun hge => ?_) (fun hlt => ?_)
  · have e1 : iOr .u8 (u8 (q : Int)) 128 = ((q % 128 + 128 : Nat) : Int) := by
      have h1 : u8 (q : Int) = ((q % 256 : Nat) : Int) := by rw [u8_def, Int.natCast_emod]; rfl
      rw [h1]
      have h2 := iOr_nat (k := .u8) rfl (a := q % 256) (b := 128) (by rw [bits8]; omega) (by decide)
      have h3 : ∀ a : Nat, a < 256 → a ||| 128 = a % 128 + 128 := by decide +kernel
      rw [show ((128 : Nat) : Int) = 128 from rfl] at h2
      rw [h2, h3 _ (by omega)]; omega
    rw [e1]
    rw [numB_ge (v := q) (by omega)] at hnb
    have hlen := congrArg List.length hnb
    simp only [List.length_append, List.length_cons] at hlen
    have e2 : iShr .u64 (q : Int) 7 = ((q / 128 : Nat) : Int) := by
      have := iShr_div (k := .u64) (a := (q : Int)) (n := 7) (by decide) (by omega)
      rw [show ((7 : Nat) : Int) = 7 from rfl] at this
      rw [this, Int.natCast_ediv]
    rw [e2]
    refine rawb_any hW.1 (by omega) (by rw [List.length_append]; omega) fun v2 w2 hW2 => ⟨⟨q / 128, ys ++ [((q % 128 + 128 : Nat) : Int)], v2, rfl, by omega, ?_, ?_⟩, by dsimp only; omega⟩
    · rw [hnb]; simp
    · rw [← List.append_assoc]; exact hW.trans hW2
  · have h1 : u8 (q : Int) = q := u8_id (by omega) (by omega)
    rw [h1]
    rw [numB_lt (v := q) (by omega)] at hnb
    have hlen := congrArg List.length hnb
    simp only [List.length_append, List.length_cons] at hlen
    refine rawb_any hW.1 (by omega) (by rw [List.length_append]; omega) fun v2 w2 hW2 => ⟨rfl, v2, ?_⟩
    rw [hnb, ← List.append_assoc]; exact hW.trans hW2
theorem Bytes_W {ad : Addr} {v : Value} {xs : List Int} {w : World} (h : W1 w ad v xs) (hl : xs.length ≤ 10000000000) :
    Calls P n_num_Writer_Bytes #[.pointer (some ad)] w (fun e w' => ∃ y, e = .returned y ∧ Ev w w' ∧ ON .u8 eB w' w.heap.size y xs) := by
  refine of_num_Writer_Bytes (gEq_pnil (gIf_f (gNil_some ?_)))
  rw [Addr.add_zero', Addr.add_zero']
  refine gLoad_v (v := v) (by have := h.1.cell (j := 0) rfl; rwa [Addr.add_zero'] at this) (gApp_on (ON.nil .u8 eB w w.heap.size) h.2.1.nm (by simp; omega) (Nat.le_refl _) fun y w' hy hc hm => ⟨y, rfl, ?_, by simpa using hy⟩)
  exact hc.mono fun _ _ _ hh => by cases hh
end Go.Proofs.YtilpoinhfiajcaaGreatDoorV

/- Package num: Text, Zig, Little, Big; folding. -/
namespace Go.Proofs.YtilpoinhfiajcaaGreatDoorV
open Go Go.RowKit

def foldI (v : Int) : Int := if v ≥ 0 then 2 * v else -2 * v - 1
theorem xor_ones {k : IntKind} {a : Nat} (ha : a < 2 ^ k.bits) : iXor k (a : Int) (-1) = k.wrap ((2 ^ k.bits - 1 - a : Nat) : Int) := by
  unfold iXor
  have h1 : BitVec.ofInt k.bits (-1) = BitVec.allOnes k.bits := by cases k <;> decide
  rw [h1, BitVec.xor_allOnes, BitVec.toNat_not, ofInt_nat, BitVec.toNat_ofNat, Nat.mod_eq_of_lt ha]
theorem xor_zero {k : IntKind} (a : Int) (h : k.wrap a = a) (h0 : 0 ≤ a) (ha : a < 2 ^ k.bits) : iXor k a 0 = a := by
  obtain ⟨a, rfl⟩ := Int.eq_ofNat_of_zero_le h0
  unfold iXor
  have h1 : BitVec.ofInt k.bits 0 = 0#k.bits := rfl
  rw [h1, BitVec.xor_zero, ofInt_nat, BitVec.toNat_ofNat, Nat.mod_eq_of_lt (by exact_mod_cast ha), h]
theorem Fold_any {v : Int} {w : World} (h : -9223372036854775808 ≤ v ∧ v ≤ 9223372036854775807) : Calls P n_num_Fold #[.int .i64 v] w (fun e w' => e = .returned (.int .u64 (foldI v)) ∧ w' = w) := by
  refine of_num_Fold ⟨?_, rfl⟩
  have e2 : iShr .i64 v 63 = if v ≥ 0 then 0 else -1 := by
    unfold iShr
    rw [show min (Int.toNat 63) IntKind.i64.bits = 63 from rfl, show (2 : Int) ^ 63 = 9223372036854775808 by decide, Int.fdiv_eq_ediv_of_nonneg _ (by decide)]
    split <;> omega
  have e1 : iShl .u64 (u64 v) 1 = (u64 v * 2) % 18446744073709551616 := by
    have := iShl_u (k := .u64) (a := u64 v) (n := 1) rfl (by decide) (by rw [u64_def]; omega)
    rw [show ((1 : Nat) : Int) = 1 from rfl] at this
    rw [this, bits64]; rfl
  rw [e1, e2, u64_def]
  unfold foldI
  split
  · rename_i h0
    rw [show u64 0 = 0 by decide, xor_zero _ ?_ (by omega) (by rw [show (2 : Int) ^ IntKind.u64.bits = 18446744073709551616 by decide]; omega)]
    · congr 2; omega
    · show u64 _ = _; rw [u64_def]; omega
  · rename_i h0
    have e3 : u64 (-1) = 18446744073709551615 := by decide
    have e4 : v % 18446744073709551616 * 2 % 18446744073709551616 = ((2 * v + 18446744073709551616).toNat : Int) := by omega
    have e5 : BitVec.ofInt IntKind.u64.bits 18446744073709551615 = BitVec.ofInt IntKind.u64.bits (-1) := by decide
    have e6 : ∀ a : Int, iXor .u64 a 18446744073709551615 = iXor .u64 a (-1) := fun a => by unfold iXor; rw [e5]
    rw [e3, e4, e6, xor_ones (by rw [bits64]; omega), bits64]
    congr 2
    show u64 _ = _; rw [u64_def]; omega
theorem numB_len64 {n : Nat} (h : n < 18446744073709551616) : (numB n).length ≤ 10 := numB_len 9 n (by rw [show (128 : Nat) ^ (9 + 1) = 1180591620717411303424 by decide]; omega)
theorem Text_any {ad : Addr} {v b : Value} {xs ys : List Int} {w : World} (h : W1 w ad v xs) (hb : Stab (Ft ad v) w fun w' => Nm .u8 w' b ys) (hl : xs.length + ys.length + 10 ≤ 10000000000) :
    Calls P n_num_Writer_Text #[.pointer (some ad), b] w (fun e w' => e = .returned (.tuple #[]) ∧ ∃ v', WS w w' ad v v' (xs ++ numB ys.length ++ ys)) := by
  refine of_num_Writer_Text (gLen_nm hb.now ?_)
  rw [show u64 (ys.length : Int) = ys.length by rw [u64_def]; omega]
  refine gCall_u (Num_any h (by omega) (by omega)) fun w1 ⟨v1, hW⟩ => ?_
  have := numB_len64 (n := ys.length) (by omega)
  rw [Int.toNat_natCast] at hW
  refine raw1_any hW.1 (fun w2 h2 => hb w2 (Ch.trans hW.2.1 h2 fun n i hn hf => ?_)) (by rw [List.length_append]; omega) fun v2 w2 hW2 => ⟨rfl, v2, hW.trans hW2⟩
  rcases hf with hf | hf
  · exact .inl hf
  · rcases hW.2.2 with hm | hm
    · exact .inr (hm ▸ hf)
    · have := hm n hf; omega
/-! ### A nil writer -/
end Go.Proofs.YtilpoinhfiajcaaGreatDoorV

/- Package rice: numbers as bits; which numbers bits are. No program in sight. -/
namespace Go.Proofs.YtilpoinhfiajcaaGreatDoorV
open Go Go.RowKit
/-- The bytes of bits. -/
noncomputable def pkB (bs : List Int) : List Int := open Classical in if h : ∃ xs, inR .u8 xs ∧ Packs xs bs then h.choose else []
theorem pkB_eq {xs bs : List Int} (h1 : inR .u8 xs) (h2 : Packs xs bs) : pkB bs = xs := by
  have h : ∃ xs, inR .u8 xs ∧ Packs xs bs := ⟨xs, h1, h2⟩
  unfold pkB
  rw [dif_pos h]
  exact h.choose_spec.2.uniq h.choose_spec.1 h1 h2
/-- A number in bits. -/
def numL (v : Int) (k : Nat) : List Int := if foldI v / ((2 ^ k : Nat) : Int) < 24 then List.replicate (foldI v / ((2 ^ k : Nat) : Int)).toNat 1 ++ [0] ++ bitsL (foldI v) k else List.replicate 24 1 ++ bitsL (foldI v) 32
def costN (v : Int) (k : Nat) : Int := if foldI v / ((2 ^ k : Nat) : Int) < 24 then foldI v / ((2 ^ k : Nat) : Int) + 1 + k else 56
def costL (k : Nat) : List Int → Int
  | [] => 0
  | v :: l => costN v k + costL k l
theorem foldI_nn (v : Int) : 0 ≤ foldI v := by unfold foldI; split <;> omega
theorem foldI32 {v : Int} (h : -2147483648 ≤ v ∧ v ≤ 2147483647) : 0 ≤ foldI v ∧ foldI v < 4294967296 := by unfold foldI; split <;> omega
theorem fdiv_nn (v : Int) (k : Nat) : 0 ≤ foldI v / ((2 ^ k : Nat) : Int) := Int.ediv_nonneg (foldI_nn v) (Int.natCast_nonneg _)
theorem costN_bd (v : Int) {k : Nat} (hk : k ≤ 24) : 0 ≤ costN v k ∧ costN v k ≤ 56 := by
  have := fdiv_nn v k
  unfold costN; split <;> omega
theorem costL_bd {k : Nat} (hk : k ≤ 24) : ∀ l : List Int, 0 ≤ costL k l ∧ costL k l ≤ 56 * l.length
  | [] => by simp [costL]
  | v :: l => by
    have h1 := costN_bd v hk
    have h2 := costL_bd hk l
    simp only [costL, List.length_cons]; omega
theorem costL_app (k : Nat) (v : Int) : ∀ l : List Int, costL k (l ++ [v]) = costL k l + costN v k
  | [] => by simp [costL]
  | u :: l => by simp only [List.cons_append, costL, costL_app k v l]; omega
theorem numL_len (v : Int) (k : Nat) : ((numL v k).length : Int) = costN v k := by
  have := fdiv_nn v k
  unfold numL costN
  generalize foldI v / ((2 ^ k : Nat) : Int) = q at *
  split <;> simp [bitsL_len] <;> omega
def bestU (l : List Int) : Nat → Nat
  | 0 => 0
  | k + 1 => if costL (k + 1) l < costL (bestU l k) l then k + 1 else bestU l k
theorem bestU_le (l : List Int) : ∀ k, bestU l k ≤ k
  | 0 => Nat.le_refl _
  | k + 1 => by
    have := bestU_le l k
    unfold bestU; split <;> omega
def bestL (l : List Int) : Nat := bestU l 24
theorem bestL_le (l : List Int) : bestL l ≤ 24 := bestU_le l 24
/-- The numbers of a part of 64. -/
def part64 (l : List Int) (j : Nat) : List Int := (l.drop (j * 64)).take 64
def kOf (l : List Int) (i : Nat) : Nat := bestL (part64 l (i / 64))
theorem kOf_le (l : List Int) (i : Nat) : kOf l i ≤ 24 := bestL_le _
def piece (l : List Int) (i : Nat) : List Int := (if i % 64 = 0 then bitsL (kOf l i) 5 else []) ++ numL (rd l i) (kOf l i)
def packTo (l : List Int) : Nat → List Int
  | 0 => []
  | m + 1 => packTo l m ++ piece l m
theorem piece_len (l : List Int) (i : Nat) : (piece l i).length ≤ 56 + (if i % 64 = 0 then 5 else 0) := by
  have h1 := numL_len (rd l i) (kOf l i)
  have h2 := costN_bd (rd l i) (kOf_le l i)
  unfold piece
  rw [List.length_append]
  split <;> simp [bitsL_len] <;> omega
theorem packTo_len (l : List Int) : ∀ m, (packTo l m).length ≤ 56 * m + 5 * ((m + 63) / 64)
  | 0 => by simp [packTo]
  | m + 1 => by
    have h1 := piece_len l m
    have h2 := packTo_len l m
    rw [packTo, List.length_append]
    split at h1 <;> omega
def numsTo (p : List Int) (k : Nat) : Nat → List Int
  | 0 => []
  | t + 1 => numsTo p k t ++ numL (rd p t) k
theorem rd_part {l : List Int} {j t : Nat} (ht : t < 64) : rd (part64 l j) t = rd l ((64 * j + t : Nat) : Int) := by
  unfold rd part64
  rw [Int.toNat_natCast, Int.toNat_natCast, List.getD_eq_getElem?_getD, List.getD_eq_getElem?_getD, List.getElem?_take, if_pos ht, List.getElem?_drop]
  congr 2; omega
theorem packTo_in (l : List Int) (j : Nat) : ∀ t, t < 64 → packTo l (64 * j + (t + 1)) = packTo l (64 * j) ++ bitsL (bestL (part64 l j)) 5 ++ numsTo (part64 l j) (bestL (part64 l j)) (t + 1)
  | 0, h => by
    rw [show 64 * j + (0 + 1) = 64 * j + 1 from rfl, packTo]
    unfold piece kOf
    rw [if_pos (by omega), show 64 * j / 64 = j by omega]
    simp only [numsTo, List.nil_append]
    rw [rd_part (by omega)]; simp
  | t + 1, h => by
    rw [show 64 * j + (t + 1 + 1) = (64 * j + (t + 1)) + 1 from rfl, packTo, packTo_in l j t (by omega)]
    unfold piece kOf
    rw [if_neg (by omega), show (64 * j + (t + 1)) / 64 = j by omega, List.nil_append]
    show _ = _ ++ (numsTo _ _ (t + 1) ++ numL (rd (part64 l j) ((t + 1 : Nat) : Int)) _)
    rw [rd_part (by omega)]; simp
/-! ### Reading -/
def hasAt (xs : List Int) (a : Nat) (bs : List Int) : Prop := a + bs.length ≤ 8 * xs.length ∧ ∀ k, k < bs.length → bitAt xs (a + k) = bs.getD k 0
theorem hasAt.left {xs : List Int} {a : Nat} {bs cs : List Int} (h : hasAt xs a (bs ++ cs)) : hasAt xs a bs := by
  obtain ⟨h1, h2⟩ := h
  rw [List.length_append] at h1 h2
  refine ⟨by omega, fun k hk => ?_⟩
  rw [h2 k (by omega), List.getD_eq_getElem?_getD, List.getD_eq_getElem?_getD, List.getElem?_append_left hk]
theorem hasAt.right {xs : List Int} {a : Nat} {bs cs : List Int} (h : hasAt xs a (bs ++ cs)) : hasAt xs (a + bs.length) cs := by
  obtain ⟨h1, h2⟩ := h
  rw [List.length_append] at h1 h2
  refine ⟨by omega, fun k hk => ?_⟩
  rw [Nat.add_assoc, h2 (bs.length + k) (by omega), List.getD_eq_getElem?_getD, List.getD_eq_getElem?_getD, List.getElem?_append_right (by omega), Nat.add_sub_cancel_left]
theorem hasAt.to {xs : List Int} {l : List Int} {n : Nat} (h : hasAt xs 0 (packTo l n)) : ∀ i, i < n → hasAt xs (packTo l i).length (piece l i) := by
  induction n with
  | zero => intro i hi; omega
  | succ n ih =>
    intro i hi
    rw [packTo] at h
    by_cases e : i = n
    · subst e
      have := h.right
      rwa [Nat.zero_add] at this
    · exact ih h.left i (by omega)
theorem rd_in {l : List Int} (h : ∀ x ∈ l, -2147483648 ≤ x ∧ x ≤ 2147483647) (i : Nat) : -2147483648 ≤ rd l i ∧ rd l i ≤ 2147483647 := by
  by_cases hi : i < l.length
  · exact h _ (rd_mem (by omega) (by omega))
  · unfold rd; rw [Int.toNat_natCast, List.getD_eq_getElem?_getD, List.getElem?_eq_none (by omega)]; decide
theorem Packs.has {xs bs : List Int} (h : Packs xs bs) : hasAt xs 0 bs := ⟨by have := h.1; omega, fun k hk => by rw [Nat.zero_add]; exact h.2 k (by have := h.1; omega)⟩
end Go.Proofs.YtilpoinhfiajcaaGreatDoorV
