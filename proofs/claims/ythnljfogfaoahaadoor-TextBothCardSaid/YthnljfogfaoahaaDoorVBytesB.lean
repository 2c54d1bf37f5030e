/- Package bytes: the contracts of Index, Count, ReplaceAll at 0d 0a. -/
import Derived.Test.YthnljfogfaoahaaDoorVBytesA
namespace Go.Proofs.YthnljfogfaoahaaDoorV
open Go Go.RowKit
section
variable {w : World} {b sep : Value} {xs : List Int}
/-- The variable that bytes.Index reads holds some number. -/
def MaxL (w : World) : Prop := ∃ m : Int, w.cell? ⟨0, 0, none⟩ = some (.int .i64 m)
theorem maxL_of {w : World} (h : w.ShapedOpen P) : MaxL w := Tryd.laysM185.s1_3 w h
theorem MaxL.ev {w w' : World} (h : MaxL w) (he : Ev w w') : MaxL w' := let ⟨m, hm⟩ := h; ⟨m, he.cell hm fun h => h⟩
theorem Nm.at {k : IntKind} {ad : Addr} {n c : Nat} (h : Nm k w (.slice (some ad) n c) xs) : n = xs.length ∧ n ≤ c ∧ ∀ i, i < n → w.cell? (ad.add i) = some (.int k (xs.getD i 0)) := by
  obtain ⟨a, c', e, h1, h2, h3, h4⟩ := h.1
  injection e with e1 e2 e3
  subst e2
  refine ⟨rfl, by omega, fun i hi => h3 ad e1.symm i _ ?_⟩
  rw [List.getElem?_map, List.getD_eq_getElem?_getD, List.getElem?_eq_getElem hi]; rfl
theorem Ev.drewN (w : World) (q : Nat) : Ev w (w.drewN q) := ⟨rfl, rfl, rfl, Nat.le_refl _, fun _ _ _ => rfl, fun _ c _ _ h => ⟨c, h, rfl, fun _ _ => rfl⟩, fun _ _ h _ => h⟩
theorem crlf_u8 : ∀ y ∈ ([13, 10] : List Int), 0 ≤ y ∧ y < 256 := fun y hy => by simp at hy; rcases hy with rfl | rfl <;> decide
def idxI (xs : List Int) : Int := match idxC xs with | none => -1 | some i => (i : Int)
theorem idxI_short {xs : List Int} (h : xs.length < 2) : idxI xs = -1 := by
  unfold idxI
  cases hx : idxC xs with
  | none => rfl
  | some i => have := (idxC_some hx).1; omega
theorem bIndex_any (hb : Nm .u8 w b xs) (hs : Nm .u8 w sep [13, 10]) (hM : MaxL w) (hl : xs.length ≤ 1000000000) : Calls P n_bytes_Index #[b, sep] w (fun e w' => e = .returned (.int .i64 (idxI xs)) ∧ Ev w w') := by
  obtain ⟨m, hM⟩ := hM
  obtain ⟨a1, c1, rfl, hc1⟩ := hb.shape
  obtain ⟨a2, c2, rfl, hc2⟩ := hs.shape
  cases a2 with
  | none => obtain ⟨a, c, e, h1, h2, h3, h4⟩ := hs.1; injection e with e1 e2 e3; have := h4 e1.symm; cases this
  | some a2 =>
    cases a1 with
    | none =>
      have h0 : xs.length = 0 := by obtain ⟨a, c, e, h1, h2, h3, h4⟩ := hb.1; injection e with e1 e2 e3; exact h4 e1.symm
      rw [idxI_short (by omega)]
      refine of_bytes_Index (gLen_nm hs (gIf_f (gIf_f (gLen_nm hb (gIf_eq (fun e => ?_) (fun _ => gLen_nm hb (gIf_dec (fun _ => ⟨rfl, Ch.refl _ w⟩) (fun h => ?_))))))))
      · simp at e; omega
      · simp at h; omega
    | some a1 =>
      have h1 := hb.at
      have h2 := hs.at
      refine (Tryd.bytes_Index_at a1 a2 xs.length c1 2 c2 xs [13, 10] m w rfl rfl (fun x hx => hb.2.u8 hx) crlf_u8 h1.2.2 h2.2.2 hc1 (by omega) (by decide) hM).mono fun e w' ⟨he, q, hw⟩ => ⟨?_, by rw [hw]; exact Ev.drewN w q⟩
      rw [he, index_eq hb.2]; rfl
theorem bCount2_any (hb : Nm .u8 w b xs) (hs : Nm .u8 w sep [13, 10]) (hM : MaxL w) (hl : xs.length ≤ 1000000000) : Calls P n_bytes_Count #[b, sep] w (fun e w' => e = .returned (.int .i64 (pairs xs)) ∧ Ev w w') := by
  have hM' := hM
  obtain ⟨m, hM⟩ := hM
  obtain ⟨a1, c1, rfl, hc1⟩ := hb.shape
  obtain ⟨a2, c2, rfl, hc2⟩ := hs.shape
  cases a2 with
  | none => obtain ⟨a, c, e, h1, h2, h3, h4⟩ := hs.1; injection e with e1 e2 e3; have := h4 e1.symm; cases this
  | some a2 =>
    cases a1 with
    | none =>
      have h0 : xs.length = 0 := by obtain ⟨a, c, e, h1, h2, h3, h4⟩ := hb.1; injection e with e1 e2 e3; exact h4 e1.symm
      obtain rfl := List.eq_nil_of_length_eq_zero h0
      refine of_bytes_Count (gLen_nm hs (gIf_f (gLen_nm hs (gIf_f ⟨fun v n w' => v = .slice none 0 c1 ∧ n = 0 ∧ w' = w, fun _ _ _ => 0, ⟨rfl, rfl, rfl⟩, ?_⟩))))
      rintro _ _ _ _ ⟨rfl, rfl, rfl⟩
      exact gCall_i (bIndex_any hb hs hM' (by simp)) fun w' h' => gIf_t ⟨rfl, h'⟩
    | some a1 =>
      have h1 := hb.at
      have h2 := hs.at
      refine (Tryd.bytes_Count_at a1 a2 xs.length c1 2 c2 xs [13, 10] m w rfl rfl (fun x hx => hb.2.u8 hx) crlf_u8 h1.2.2 h2.2.2 hc1 (by omega) (by decide) (by decide) hM).mono fun e w' ⟨he, q, hw⟩ => ⟨?_, by rw [hw]; exact Ev.drewN w q⟩
      rw [he, count_eq xs.length (Nat.le_refl _) hb.2]
theorem run_bCount (hb : Nm .u8 w b xs) {c : Int} (hc : 0 ≤ c ∧ c < 256) : (Extern.BytealgCount.count #[b, .int .u8 c]).run P w = .ok (.int .i64 (cntB c xs)) w := by
  obtain ⟨a1, c1, rfl, hc1⟩ := hb.shape
  cases a1 with
  | none =>
    have h0 : xs.length = 0 := by obtain ⟨a, c, e, h1, h2, h3, h4⟩ := hb.1; injection e with e1 e2 e3; exact h4 e1.symm
    obtain rfl := List.eq_nil_of_length_eq_zero h0
    exact Lib.run_countNil w 0 c1 c
  | some a1 =>
    have h1 := hb.at
    rw [Lib.run_countAt w a1 xs.length c1 xs rfl h1.2.2 c, countByte_eq hc hb.2]
theorem bCount1_any {c : Int} (hb : Nm .u8 w b xs) (hs : Nm .u8 w sep [c]) : Calls P n_bytes_Count #[b, sep] w (fun e w' => e = .returned (.int .i64 (cntB c xs)) ∧ w' = w) := by
  have hc := hs.2.u8 (x := c) (by simp)
  exact of_bytes_Count (gLen_nm hs (gIf_f (gLen_nm hs (gIf_t (gIdx_nm hs (by decide) (by simp) fun ad c1 _ => gLoad_i c1 (gExt_i (e := Extern.BytealgCount.count) (by kernel_rfl) (run_bCount hb hc) ⟨rfl, rfl⟩))))))
theorem repl_len : ∀ (n : Nat) (xs : List Int), xs.length ≤ n → (repl xs).length + pairs xs = xs.length
  | n, xs, hn => by
    cases hx : idxC xs with
    | none => obtain ⟨h1, h2⟩ := idxC_none hx; rw [h1, h2]; rfl
    | some i =>
      obtain ⟨h1, h2, h3⟩ := idxC_some hx
      cases n with
      | zero => omega
      | succ n =>
        have := repl_len n (xs.drop (i + 2)) (by rw [List.length_drop]; omega)
        rw [h2, h3]
        simp only [List.length_append, List.length_cons, List.length_take, List.length_drop] at this ⊢
        omega
theorem repl_in {xs : List Int} (h : inR .u8 xs) : ∀ n, xs.length ≤ n → inR .u8 (repl xs) := by
  intro n
  induction n generalizing xs with
  | zero => intro hn; rw [List.eq_nil_of_length_eq_zero (by omega : xs.length = 0)]; intro x hx; cases hx
  | succ n ih =>
    intro hn
    cases hx : idxC xs with
    | none => rw [(idxC_none hx).2]; exact h
    | some i =>
      obtain ⟨h1, h2, h3⟩ := idxC_some hx
      rw [h3]
      have := ih (h.drop (i + 2)) (by rw [List.length_drop]; omega)
      intro x hx
      rcases List.mem_append.1 hx with hx | hx
      · exact h x (List.mem_of_mem_take hx)
      · rcases List.mem_cons.1 hx with rfl | hx
        · decide
        · exact this x hx
theorem bReplace_any {nw : Value} (hb : Nm .u8 w b xs) (hs : Nm .u8 w sep [13, 10]) (hn : Nm .u8 w nw [10]) (hM : MaxL w) (hl : xs.length ≤ 1000000000) : Calls P n_bytes_Replace #[b, sep, nw, .int .i64 (-1)] w (NewB w (repl xs)) := by
  refine of_bytes_Replace ⟨fun m w' => m = (pairs xs : Int) ∧ Ev w w', gIf_t (gCall_i (bCount2_any hb hs hM hl) fun w' h' => ⟨rfl, h'⟩), ?_⟩
  rintro _ _ w2 ⟨rfl, h2⟩
  refine gIf_eq (fun e0 => ?_) (fun hne => ⟨fun n w' => n = (pairs xs : Int) ∧ w' = w2, gIf_f ⟨rfl, rfl⟩, ?_⟩)
  · have hid : idxC xs = none := by
      cases hx : idxC xs with
      | none => rfl
      | some i => have := (idxC_some hx).2.1; omega
    rw [(idxC_none hid).2]
    exact fApp0 (Fr.start w |>.ev h2) (hb.ev h2) (by omega) fun v w3 f3 => ⟨v, rfl, f3.old, f3.on 0 rfl⟩
  rintro _ _ _ ⟨rfl, rfl⟩
  rename_i w2
  have hrl := repl_len xs.length xs (Nat.le_refl _)
  obtain ⟨L, hL⟩ : ∃ L, L = (repl xs).length := ⟨_, rfl⟩
  refine gLen_nm hb (gLen_nm hn (gLen_nm hs ?_))
  have eL : i64 ((xs.length : Int) + i64 ((pairs xs : Int) * i64 (((1 : Nat) : Int) - ((2 : Nat) : Int)))) = (L : Int) := by
    rw [show i64 (((1 : Nat) : Int) - ((2 : Nat) : Int)) = -1 by decide, i64_id (n := (pairs xs : Int) * -1) (by omega) (by omega), i64_id (by omega) (by omega)]; omega
  have eL' : i64 ((xs.length : Int) + i64 ((pairs xs : Int) * i64 ((([10] : List Int).length : Int) - (([13, 10] : List Int).length : Int)))) = (L : Int) := eL
  rw [eL']
  refine fMake_len (k := .u8) ((Fr.start w).ev h2) (by omega) fun g w3 f3 => gLen_nm hs (gIf_t ?_)
  obtain ⟨sa, sc, rfl, hsc⟩ := hb.shape
  refine ⟨fun wv st t w' => ∃ (j s p : Nat) (zs : List Int), t = j ∧ st = s ∧ wv = p ∧ j + pairs (xs.drop s) = pairs xs ∧ s ≤ xs.length ∧ zs.length = L ∧ p ≤ L ∧ repl xs = zs.take p ++ repl (xs.drop s) ∧ Fr w w' [bufIt .u8 eB g zs], fun _ _ t _ => pairs xs - t.toNat, ⟨0, 0, 0, _, rfl, rfl, rfl, by simp, by omega, by simp, by omega, by simp, f3⟩, ?_⟩
  rintro _ _ _ _ w4 ⟨j, s, p, zs, rfl, rfl, rfl, hj, hs1, hzl, hp, hrep, f4⟩
  have hbw := hb.ev f4.old
  have hsub := hbw.sub s xs.length hs1 (Nat.le_refl _)
  rw [List.take_of_length_le (by simp)] at hsub
  have hrs := repl_len _ (xs.drop s) (Nat.le_refl _)
  have hlen := congrArg List.length hrep
  rw [List.length_append, List.length_take, Nat.min_eq_left (by omega), ← hL] at hlen
  rw [List.length_drop] at hrs
  refine gIf_dec (fun hlt => ?_) (fun hge => ?_)
  · refine gSlice_any (sz := 1) (l := s) (h := xs.length) (.inr ⟨_, rfl⟩) (.inl ⟨rfl, rfl⟩) (by omega) hsc ?_ (by kernel_rfl)
    refine gCall_i (bIndex_any hsub (hs.ev f4.old) (hM.ev f4.old) (by rw [List.length_drop]; omega)) fun w5 h5 => ⟨fun _ => True, trivial, ?_⟩
    have f5 := (f4.ev h5).drew
    unfold idxI
    cases hx : idxC (xs.drop s) with
    | none => have := (idxC_none hx).1; omega
    | some i =>
      obtain ⟨g1, g2, g3⟩ := idxC_some hx
      rw [List.length_drop] at g1
      rw [List.drop_drop] at g2 g3
      have hrs2 := repl_len _ (xs.drop (s + (i + 2))) (Nat.le_refl _)
      rw [List.length_drop] at hrs2
      dsimp only
      rw [show i64 ((s : Int) + (i : Int)) = ((s + i : Nat) : Int) by rw [i64_id (by omega) (by omega)]; omega]
      have hbw5 := hb.ev f5.old
      have hsub2 := hbw5.sub s (s + i) (by omega) (by omega)
      rw [Nat.add_sub_cancel_left] at hsub2
      have hl3 := congrArg List.length g3
      simp only [List.length_append, List.length_cons, List.length_take, List.length_drop] at hl3
      refine gSlice_any (sz := 1) (l := p) (h := L) (.inr ⟨_, rfl⟩) (.inl ⟨rfl, rfl⟩) (by omega) (by omega) ?_ (by kernel_rfl)
      refine gSlice_any (sz := 1) (l := s) (h := s + i) (.inr ⟨_, rfl⟩) (.inr ⟨_, rfl⟩) (by omega) (by omega) ?_ (by kernel_rfl)
      refine fCopy f5 0 rfl hzl hp (Nat.le_refl _) hsub2 fun w6 m hm f6 => ⟨trivial, ?_⟩
      have hm' : m = i := by rw [hm, List.length_take, List.length_drop]; omega
      subst hm'
      rw [List.take_of_length_le (l := (xs.drop s).take m) (by rw [List.length_take]; omega)] at f6
      rw [show i64 ((p : Int) + (m : Int)) = ((p + m : Nat) : Int) by rw [i64_id (by omega) (by omega)]; omega]
      refine gSlice_any (sz := 1) (l := p + m) (h := L) (.inr ⟨_, rfl⟩) (.inl ⟨rfl, rfl⟩) (by omega) (by omega) ?_ (by kernel_rfl)
      have hzl6 : (zs.take p ++ (xs.drop s).take m ++ zs.drop (p + m)).length = L := by simp; omega
      refine fCopy f6 0 rfl hzl6 (by omega) (Nat.le_refl _) (hn.ev f6.old) fun w7 q hq f7 => gLen_nm hs ?_
      have hq' : q = 1 := by rw [hq, List.length_singleton]; omega
      subst hq'
      obtain ⟨A, hA⟩ : ∃ A, A = zs.take p ++ (xs.drop s).take m := ⟨_, rfl⟩
      have hAl : A.length = p + m := by rw [hA]; simp; omega
      rw [← hA, List.take_left' hAl] at f7
      rw [← hA] at hzl6
      rw [show i64 (((p + m : Nat) : Int) + ((1 : Nat) : Int)) = ((p + m + 1 : Nat) : Int) by rw [i64_id (by omega) (by omega)]; omega, show i64 (((s + m : Nat) : Int) + (([13, 10] : List Int).length : Int)) = ((s + (m + 2) : Nat) : Int) by show i64 (((s + m : Nat) : Int) + ((2 : Nat) : Int)) = _; rw [i64_id (by omega) (by omega)]; omega, i64_id (n := (j : Int) + 1) (by omega) (by omega)]
      refine ⟨⟨j + 1, s + (m + 2), p + m + 1, _, rfl, rfl, rfl, by omega, by omega, ?_, by omega, ?_, f7⟩, by omega⟩
      · have := hzl6
        simp only [List.length_append, List.length_drop, List.take_succ_cons, List.take_nil, List.length_cons, List.length_nil] at this ⊢
        omega
      · rw [hrep, g3]
        have e1 : (A ++ List.take 1 [(10 : Int)] ++ (A ++ zs.drop (p + m)).drop (p + m + 1)).take (p + m + 1) = A ++ [10] := by
          rw [show List.take 1 [(10 : Int)] = [10] from rfl, List.take_left' (by simp [hAl])]
        rw [e1, hA]; simp
  · have hp0 : pairs (xs.drop s) = 0 := by omega
    have hid : idxC (xs.drop s) = none := by
      cases hx : idxC (xs.drop s) with
      | none => rfl
      | some i => have := (idxC_some hx).2.1; omega
    rw [(idxC_none hid).2] at hrep hlen
    rw [List.length_drop] at hlen
    have f5 := f4.drew
    refine ⟨fun _ => True, trivial, ?_⟩
    refine gSlice_any (sz := 1) (l := p) (h := L) (.inr ⟨_, rfl⟩) (.inl ⟨rfl, rfl⟩) (by omega) (by omega) ?_ (by kernel_rfl)
    refine gSlice_any (sz := 1) (l := s) (h := xs.length) (.inr ⟨_, rfl⟩) (.inl ⟨rfl, rfl⟩) (by omega) hsc ?_ (by kernel_rfl)
    refine fCopy f5 0 rfl hzl hp (Nat.le_refl _) hsub fun w6 m hm f6 => ⟨trivial, ?_⟩
    rw [List.length_drop] at hm
    have hpm : p + m = L := by omega
    rw [show i64 ((p : Int) + (m : Int)) = (L : Int) by rw [i64_id (by omega) (by omega)]; omega]
    refine gSlice_any (sz := 1) (l := 0) (h := L) (.inr ⟨_, rfl⟩) (.inr ⟨_, rfl⟩) (by omega) (by omega) ?_ (by kernel_rfl)
    have hL0 : 0 < L := by
      cases hx : idxC xs with
      | none => have := (idxC_none hx).1; omega
      | some i => rw [hL, (idxC_some hx).2.2, List.length_append, List.length_cons]; omega
    rw [subV_z hL0]
    have hzs : zs.take p ++ (xs.drop s).take m ++ zs.drop (p + m) = repl xs := by
      rw [List.drop_of_length_le (l := zs) (by omega), List.append_nil, List.take_of_length_le (l := xs.drop s) (by rw [List.length_drop]; omega), ← hrep]
    rw [hzs] at f6
    have hB : FB .u8 eB w6 g (repl xs) := f6.get 0 rfl
    have ho := hB.on L (by omega)
    rw [← hL, List.take_of_length_le (by omega)] at ho
    exact ⟨_, rfl, f6.old, ho.low (f6.ft 0 rfl (k := g) rfl).1⟩
theorem bReplaceAll_any {nw : Value} (hb : Nm .u8 w b xs) (hs : Nm .u8 w sep [13, 10]) (hn : Nm .u8 w nw [10]) (hM : MaxL w) (hl : xs.length ≤ 1000000000) : Calls P n_bytes_ReplaceAll #[b, sep, nw] w (NewB w (repl xs)) :=
  of_bytes_ReplaceAll (gCall_v (bReplace_any hb hs hn hM hl) fun v w' ⟨h1, h2⟩ => ⟨v, rfl, h1, h2⟩)
end
end Go.Proofs.YthnljfogfaoahaaDoorV
